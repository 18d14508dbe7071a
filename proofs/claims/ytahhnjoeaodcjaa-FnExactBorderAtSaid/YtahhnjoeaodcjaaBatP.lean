/- Plain: the border that a pixel's upper side is on. -/
import Derived.Test.YtahhnjoeaodcjaaBrdM
namespace Go.Proofs.Ytahhnjoeaodcjaa
open Go Go.RowKit
def bAtOk (ss : List ByteArray) (x y : Int) : Bool := picOk ss && (pxl (picW ss) ss.length (picL ss) x y && !pxl (picW ss) ss.length (picL ss) x (y - 1))
def bAtI (ss : List ByteArray) (x y : Int) : Nat := (bTo (pxl (picW ss) ss.length (picL ss)) (picW ss) (ss.length * picW ss)).findIdx fun j => inOrb (pxl (picW ss) ss.length (picL ss)) (stE (picW ss) j) ⟨x, y, 0⟩
def bAtR (ss : List ByteArray) (x y : Int) : Bord := if bAtOk ss x y then (bordA ss).getD (bAtI ss x y) bd0 else bd0
/-- What is told of the borders: where each begins, and which is the first one that is meant. -/
structure BAt (f : Int → Int → Bool) (W : Nat) (bs : List Bord) (x y : Nat) (i0 : Nat) : Prop where
  lt : i0 < bs.length
  few : bs.length ≤ 1200
  at_ : ∀ i, i < bs.length → ∃ e, EOk f e ∧ bs.getD i bd0 = (e.x, e.y, wrd f e) ∧ (i < i0 → inOrb f e ⟨(x : Int), (y : Int), 0⟩ = false) ∧ (i = i0 → inOrb f e ⟨(x : Int), (y : Int), 0⟩ = true)
theorem bAt_of {ss : List ByteArray} {x y : Int} (h : bAtOk ss x y = true) : ∃ X Y : Nat, x = (X : Int) ∧ y = (Y : Int) ∧ X < 16 ∧ Y < 16 ∧ picOk ss = true ∧ pxl (picW ss) ss.length (picL ss) x y = true ∧ pxl (picW ss) ss.length (picL ss) x (y - 1) = false ∧
    InBx (pxl (picW ss) ss.length (picL ss)) 16 16 ∧ BAt (pxl (picW ss) ss.length (picL ss)) (picW ss) (bordA ss) X Y (bAtI ss x y) ∧ bAtR ss x y = (bordA ss).getD (bAtI ss x y) bd0 := by
  have hR : bAtR ss x y = (bordA ss).getD (bAtI ss x y) bd0 := by unfold bAtR; rw [if_pos h]
  unfold bAtOk at h
  simp only [Bool.and_eq_true, Bool.not_eq_true'] at h
  obtain ⟨h0, h1, h2⟩ := h
  obtain ⟨v1, v2, v3, v4, -, -⟩ := picOk_spec h0
  have hb := inBx_pxl (picW ss) ss.length (picL ss)
  obtain ⟨p1, p2, p3, p4⟩ := hb x y h1
  obtain ⟨X, rfl⟩ := Int.eq_ofNat_of_zero_le p1
  obtain ⟨Y, rfl⟩ := Int.eq_ofNat_of_zero_le p3
  refine ⟨X, Y, rfl, rfl, by omega, by omega, h0, h1, h2, fun x y h => by have := hb x y h; omega, ?_, hR⟩
  have hcan : EOk (pxl (picW ss) ss.length (picL ss)) ⟨(X : Int), (Y : Int), 0⟩ := ⟨by show 0 < 4; omega, by
    show canB _ _ _ 0 = true
    unfold canB canQ
    simp [h1, h2]⟩
  have hd := all_done hb (by omega) (by omega) hcan
  unfold bAtI bordA brds
  generalize pxl (picW ss) ss.length (picL ss) = f at *
  have hmem : ∀ j, j ∈ bTo f (picW ss) (ss.length * picW ss) → EOk f (stE (picW ss) j) := fun j hj => isSt_ok (bTo_mem hj).2
  have hfew := brds_len f (picW ss) (ss.length * picW ss)
  unfold brds at hfew
  rw [List.length_map] at hfew
  have hmul := Nat.mul_le_mul v2 v4
  generalize bTo f (picW ss) (ss.length * picW ss) = js at *
  generalize picW ss = W at *
  have hex : ∃ j, j ∈ js ∧ inOrb f (stE W j) ⟨(X : Int), (Y : Int), 0⟩ = true := doneB_true.1 hd
  have hlt : (js.findIdx fun j => inOrb f (stE W j) ⟨(X : Int), (Y : Int), 0⟩) < js.length := List.findIdx_lt_length_of_exists hex
  refine ⟨by rw [List.length_map]; exact hlt, by rw [List.length_map]; omega, fun i hi => ?_⟩
  rw [List.length_map] at hi
  refine ⟨stE W js[i], hmem _ (List.getElem_mem hi), ?_, fun h => ?_, fun h => ?_⟩
  · rw [List.getD_eq_getElem?_getD, List.getElem?_map, List.getElem?_eq_getElem hi]
    rfl
  · exact List.not_of_lt_findIdx h
  · subst h
    exact List.findIdx_getElem (w := hlt)
theorem bAt_no {ss : List ByteArray} {x y : Int} (h : bAtOk ss x y = false) : bAtR ss x y = bd0 := by unfold bAtR; rw [h]; rfl
/-- A border and a word are returned. -/
def BordRet1 (w : World) (R : Bord) (ok : Bool) (e : Ending) (w' : World) : Prop := e = .returned (.tuple #[.agg #[.int .i64 R.1, .int .i64 R.2.1, .string R.2.2], .bool ok]) ∧ w.Ext w'
end Go.Proofs.Ytahhnjoeaodcjaa
