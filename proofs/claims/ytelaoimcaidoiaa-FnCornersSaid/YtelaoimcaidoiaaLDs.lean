/- Lists of discs: memory, and what the laws do with them. -/
import Derived.Test.YtelaoimcaidoiaaLMat
import Derived.Test.YtelaoimcaidoiaaKit
namespace Go.Proofs.Ytelaoimcaidoiaa
open Go.RowKit
def flatD : List (Int × Int × Int) → List Int
  | [] => []
  | d :: ds => d.1 :: d.2.1 :: d.2.2 :: flatD ds
theorem flatD_len : ∀ ds, (flatD ds).length = 3 * ds.length
  | [] => rfl
  | d :: ds => by simp [flatD, flatD_len ds]; omega
theorem flatD_append : ∀ a b, flatD (a ++ b) = flatD a ++ flatD b
  | [], b => rfl
  | d :: a, b => by simp [flatD, flatD_append a b]
theorem flatD_at : ∀ (ds : List (Int × Int × Int)) (i : Nat), (flatD ds).getD (i * 3) 0 = (ds.getD i (0, 0, 0)).1 ∧ (flatD ds).getD (i * 3 + 1) 0 = (ds.getD i (0, 0, 0)).2.1 ∧ (flatD ds).getD (i * 3 + 2) 0 = (ds.getD i (0, 0, 0)).2.2
  | [], i => by simp [flatD]
  | d :: ds, 0 => by simp [flatD]
  | d :: ds, i + 1 => by
    have h := flatD_at ds i
    have e1 : (i + 1) * 3 = i * 3 + 1 + 1 + 1 := by omega
    have e2 : (i + 1) * 3 + 1 = i * 3 + 1 + 1 + 1 + 1 := by omega
    have e3 : (i + 1) * 3 + 2 = i * 3 + 2 + 1 + 1 + 1 := by omega
    rw [e3, e2, e1]
    simpa [flatD] using h
def RowD (w : World) (a : Option Addr) (ds : List (Int × Int × Int)) : Prop := RowOf (Value.int .i64) 0 w a (flatD ds)
def OwnD (lo hi : Nat) (w : World) (a : Option Addr) (ds : List (Int × Int × Int)) : Prop := OwnOf (Value.int .i64) 0 lo hi w a (flatD ds)
section
variable {lo hi lo' hi' : Nat} {w w' : World} {a : Option Addr} {ds : List (Int × Int × Int)}
theorem RowD.ext (h : RowD w a ds) (hx : w.Ext w') : RowD w' a ds := RowOf.ext h hx
theorem OwnD.ext (h : OwnD lo hi w a ds) (hx : w.Ext w') : OwnD lo hi w' a ds := OwnOf.ext h hx
theorem OwnD.row (h : OwnD lo hi w a ds) : RowD w a ds := OwnOf.row h
theorem OwnD.mono (h : OwnD lo hi w a ds) (hl : lo' ≤ lo) (hh : hi ≤ hi') : OwnD lo' hi' w a ds := OwnOf.mono h hl hh
theorem OwnD.wrote {S : Nat → Prop} (h : OwnD lo hi w a ds) (hx : Wrote S w w') (hs : ∀ k, lo ≤ k → k < hi → ¬ S k) : OwnD lo hi w' a ds := OwnOf.wrote h hx hs
theorem RowD.at (h : RowD w a ds) {i : Nat} (hi : i < ds.length) : ∃ b o, a = some ⟨b, o, none⟩ ∧ w.cell? ⟨b, o + i * 3, none⟩ = some (.int .i64 (ds.getD i (0, 0, 0)).1) ∧ w.cell? ⟨b, o + i * 3 + 1, none⟩ = some (.int .i64 (ds.getD i (0, 0, 0)).2.1) ∧ w.cell? ⟨b, o + i * 3 + 2, none⟩ = some (.int .i64 (ds.getD i (0, 0, 0)).2.2) := by
  have hl := flatD_len ds
  obtain ⟨h1, h2, h3⟩ := flatD_at ds i
  obtain ⟨b, o, rfl, c1⟩ := h (i * 3) (by omega)
  obtain ⟨b2, o2, e2, c2⟩ := h (i * 3 + 1) (by omega)
  obtain ⟨b3, o3, e3, c3⟩ := h (i * 3 + 2) (by omega)
  simp only [Option.some.injEq, Addr.mk.injEq, and_true] at e2 e3
  obtain ⟨rfl, rfl⟩ := e2
  obtain ⟨rfl, rfl⟩ := e3
  rw [h1] at c1
  rw [h2] at c2
  rw [h3] at c3
  exact ⟨b, o, rfl, c1, by rw [Nat.add_assoc]; exact c2, by rw [Nat.add_assoc]; exact c3⟩
end
/-- A slice value owns these discs. -/
def GrowD (lo : Nat) (e : TypeId) (w : World) (v : Value) (ds : List (Int × Int × Int)) : Prop := w.ownsRow lo e 3 v ds.length ((flatD ds).map (Value.int .i64))
section
variable {lo : Nat} {e : TypeId} {w w' : World} {v : Value} {ds : List (Int × Int × Int)}
theorem GrowD.empty (w : World) (h : lo ≤ w.heap.size) : GrowD lo e (w.alloc (.cells #[] e)) (.slice (some ⟨w.heap.size, 0, none⟩) 0 0) [] := World.ownsRow_made w #[] 0 h (Nat.zero_le _) rfl
theorem GrowD.ext (h : GrowD lo e w v ds) (hx : w.Ext w') : GrowD lo e w' v ds := World.ownsRow.ext h hx
theorem GrowD.form (h : GrowD lo e w v ds) : ∃ a cap, v = .slice a ds.length cap ∧ ds.length ≤ cap := World.ownsRow.form h
theorem GrowD.push {d : Int × Int × Int} {v' : Value} (h : w.ownsRow lo e 3 v' (ds.length + 1) ((flatD ds).map (Value.int .i64) ++ [.int .i64 d.1, .int .i64 d.2.1, .int .i64 d.2.2])) : GrowD lo e w v' (ds ++ [d]) := by
  unfold GrowD
  rw [flatD_append, List.map_append, List.length_append]
  exact h
theorem GrowD.own {a : Option Addr} {m cap : Nat} (h : GrowD lo e w (.slice a m cap) ds) : OwnD lo w.heap.size w a ds := by
  intro i hi
  obtain ⟨b, o, h1, h2, h3, h4, h5⟩ := World.ownsRow.own h (i := i) (by rw [flatD_len] at hi; omega)
  refine ⟨b, o, h1, h2, h3, ?_, h5⟩
  rw [h4, List.getElem?_map, List.getElem?_eq_getElem hi, List.getD_eq_getElem?_getD, List.getElem?_eq_getElem hi]
  rfl
end
theorem cell_three_at {w : World} {u v x : Value} {e : TypeId} {p : Nat} (hp : p = w.heap.size) : ∀ (j : Nat) (y : Value), [u, v, x][j]? = some y → (w.alloc (.cells #[u, v, x] e)).cell? ((⟨p, 0, none⟩ : Addr).add j) = some y := by
  subst hp
  intro j y hj
  rw [Addr.add_mk]
  match j, hj with
  | 0, hj => simp at hj; subst hj; simp [go_sem]
  | 1, hj => simp at hj; subst hj; simp [go_sem]
  | 2, hj => simp at hj; subst hj; simp [go_sem]
  | j + 3, hj => simp at hj
end Go.Proofs.Ytelaoimcaidoiaa
