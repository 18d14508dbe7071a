/- Elements, and the program's pictures that are made by one. -/
import Derived.Test.YtelaoimcaidoiaaDoorWith
import Derived.IntWalk
import Derived.Deep.RegionWith
namespace Go.Proofs.YtelaoimcaidoiaaDoor
open Go Go.RowKit
def befB (p q : Int × Int) : Bool := decide (p.2 < q.2) || (decide (p.2 = q.2) && decide (p.1 < q.1))
def offOk (p : Int × Int) : Bool := inB p.1 (-4) 4 && inB p.2 (-4) 4
def elemAt (os : List (Int × Int)) (i : Nat) : Bool := offOk (os.getD i (0, 0)) && (decide (i = 0) || befB (os.getD (i - 1) (0, 0)) (os.getD i (0, 0)))
/-- Is an element valid? -/
def elemOk (os : List (Int × Int)) : Bool := (List.range os.length).all (elemAt os) && inB os.length 1 50
theorem elemOk_all {os : List (Int × Int)} : (List.range os.length).all (elemAt os) = true ↔ ∀ i, i < os.length → elemAt os i = true := by
  rw [List.all_eq_true]
  simp
theorem elemOk_spec {os : List (Int × Int)} (h : elemOk os = true) : 1 ≤ os.length ∧ os.length ≤ 50 ∧ ∀ i, i < os.length → -4 ≤ (os.getD i (0, 0)).1 ∧ (os.getD i (0, 0)).1 ≤ 4 ∧ -4 ≤ (os.getD i (0, 0)).2 ∧ (os.getD i (0, 0)).2 ≤ 4 := by
  unfold elemOk at h
  rw [Bool.and_eq_true, elemOk_all, inB_true] at h
  refine ⟨by omega, by omega, fun i hi => ?_⟩
  have := h.1 i hi
  unfold elemAt offOk at this
  rw [Bool.and_eq_true, Bool.and_eq_true, inB_true, inB_true] at this
  omega
def cmpI (x y : Int) : Int := if x < y then -1 else if y < x then 1 else 0
def ordI (p q : Int × Int) : Int := if cmpI p.2 q.2 = 0 then cmpI p.1 q.1 else cmpI p.2 q.2
theorem ord_lt (p q : Int × Int) : befB p q = decide (ordI p q < 0) := by
  unfold befB ordI cmpI
  rw [Bool.eq_iff_iff]
  simp
  repeat (first | split | omega)
  all_goals omega
theorem ord_false {p q : Int × Int} (h : befB p q = false) : ∃ u, ordI p q = u ∧ 0 ≤ u := ⟨_, rfl, by rw [ord_lt] at h; simpa using h⟩
theorem ord_true {p q : Int × Int} (h : befB p q = true) : ∃ u, ordI p q = u ∧ u < 0 := ⟨_, rfl, by rw [ord_lt] at h; simpa using h⟩
/-- All offsets of an element are small. -/
def Small (os : List (Int × Int)) : Prop := ∀ i, i < os.length → -4 ≤ (os.getD i (0, 0)).1 ∧ (os.getD i (0, 0)).1 ≤ 4 ∧ -4 ≤ (os.getD i (0, 0)).2 ∧ (os.getD i (0, 0)).2 ≤ 4
def someB (W H : Nat) (l : List Bool) (os : List (Int × Int)) (x y : Int) : Bool := os.any fun o => pxl W H l (x - o.1) (y - o.2)
def fitsB (W H : Nat) (l : List Bool) (os : List (Int × Int)) (x y : Int) : Bool := os.all fun o => pxl W H l (x + o.1) (y + o.2)
theorem any_true {α : Type} {p : α → Bool} {xs : List α} {d : α} {k : Nat} (hk : k < xs.length) (h : p (xs.getD k d) = true) : xs.any p = true := by
  rw [List.any_eq_true]
  exact ⟨xs.getD k d, by rw [List.getD_eq_getElem?_getD, List.getElem?_eq_getElem hk]; exact List.getElem_mem hk, h⟩
theorem any_false {α : Type} {p : α → Bool} {xs : List α} {d : α} (h : ∀ i, i < xs.length → p (xs.getD i d) = false) : xs.any p = false := by
  rw [List.any_eq_false]
  intro x hx
  obtain ⟨i, hi, rfl⟩ := List.getElem_of_mem hx
  have := h i hi
  rw [List.getD_eq_getElem?_getD, List.getElem?_eq_getElem hi, Option.getD_some] at this
  rw [this]
  simp
def openB (W H : Nat) (l : List Bool) (os : List (Int × Int)) (x y : Int) : Bool := os.any fun o => fitsB W H l os (x - o.1) (y - o.2)
def closeB (W H : Nat) (l : List Bool) (os : List (Int × Int)) (x y : Int) : Bool := os.all fun o => someB W H l os (x + o.1) (y + o.2)
def npxl (W H : Nat) (l : List Bool) (x y : Int) : Bool := !pxl W H l x y
def homB (W H : Nat) (l : List Bool) (os ms : List (Int × Int)) (x y : Int) : Bool := fitsB W H l os x y && ms.all fun o => npxl W H l (x + o.1) (y + o.2)

def homOk (ss : List ByteArray) (os ms : List (Int × Int)) : Bool := (picOk ss && elemOk os) && elemOk ms
theorem homOk_and (ss : List ByteArray) (os ms : List (Int × Int)) (h : elemOk ms = true) : homOk ss os ms = (elemOk os && (picOk ss && true)) := by unfold homOk; rw [h, Bool.and_true, Bool.and_true, Bool.and_comm]
end Go.Proofs.YtelaoimcaidoiaaDoor
