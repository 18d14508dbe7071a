/- Two pictures of one size; what is reconstructed. -/
import Derived.Test.YtelaoimcaidoiaaSprI
import Derived.Test.YtelaoimcaidoiaaSpotS
import Derived.Test.YtelaoimcaidoiaaDepF
import Derived.Deep.RegionWith
namespace Go.Proofs.Ytelaoimcaidoiaa
open Go.RowKit
theorem rowBits_rowStr (l : List Bool) : rowBits (rowStr l) = l := by
  unfold rowBits rowStr
  rw [strOfNums_data, List.map_map, List.map_map]
  conv => rhs; rw [← List.map_id l]
  refine List.map_congr_left fun b _ => ?_
  cases b <;> rfl
theorem rowStr_size (l : List Bool) : (rowStr l).size = l.length := by unfold rowStr; rw [strOfNums_size, List.length_map]
theorem picRows_at (W H : Nat) (l : List Bool) {y : Nat} (hy : y < H) : (picRows W H l).getD y ByteArray.empty = rowStr (rowAt W l y) := by
  unfold picRows
  simp [List.getD_eq_getElem?_getD, hy]
theorem picW_rows {W H : Nat} {l : List Bool} (h : 0 < H) (hl : l.length = W * H) : picW (picRows W H l) = W := by
  unfold picW
  rw [picRows_at W H l h, rowStr_size, rowAt_len W H l 0 hl h]
theorem even_rows {W H : Nat} {l : List Bool} (h : 0 < H) (hl : l.length = W * H) : Even (picRows W H l) :=
  ⟨by rw [picRows_len]; exact h, fun y hy => by
    rw [picRows_len] at hy
    rw [picRows_at W H l hy, rowStr_size, rowAt_len W H l y hl hy, picW_rows h hl]⟩
theorem rows_flat (W : Nat) (l : List Bool) : ∀ k, ((List.range k).map (rowAt W l)).flatten = l.take (k * W)
  | 0 => by simp
  | k + 1 => by
    rw [List.range_succ, List.map_append, List.flatten_append, rows_flat W l k, Nat.succ_mul, List.take_add]
    simp [rowAt]
theorem picL_rows {W H : Nat} {l : List Bool} (hl : l.length = W * H) : picL (picRows W H l) = l := by
  unfold picL picRows
  rw [List.map_map]
  have e : (rowBits ∘ fun y => rowStr (rowAt W l y)) = rowAt W l := by funext y; exact rowBits_rowStr _
  rw [e, rows_flat, Nat.mul_comm, ← hl, List.take_length]
def likeP (ss tt : List ByteArray) : Bool := picOk ss && picOk tt && decide (picW ss = picW tt) && decide (ss.length = tt.length)
theorem likeP_true {ss tt : List ByteArray} (h : likeP ss tt = true) : picOk ss = true ∧ picOk tt = true ∧ picW ss = picW tt ∧ ss.length = tt.length := by
  unfold likeP at h
  simp only [Bool.and_eq_true, decide_eq_true_eq] at h
  exact ⟨h.1.1.1, h.1.1.2, h.1.2, h.2⟩
/-- Two images of one size are returned, if both pictures are right. -/
def TwoRet (w : World) (ss tt : List ByteArray) (ok : Bool) (e : Ending) (w' : World) : Prop :=
  if ok then ∃ b ab b2 ab2, e = .returned (.tuple #[.pointer (some ⟨b, 0, none⟩), .pointer (some ⟨b2, 0, none⟩), .bool true]) ∧ w.Ext w' ∧ Img w' b ab (picW ss) ss.length (picL ss) ∧ Img w' b2 ab2 (picW tt) tt.length (picL tt)
  else ∃ u v, e = .returned (.tuple #[.pointer u, .pointer v, .bool false]) ∧ w.Ext w'
theorem TwoRet.no {w w' : World} {ss tt : List ByteArray} {u v : Option Addr} (hx : w.Ext w') : TwoRet w ss tt false (.returned (.tuple #[.pointer u, .pointer v, .bool false])) w' := ⟨u, v, rfl, hx⟩
theorem TwoRet.yes {w w' : World} {ss tt : List ByteArray} {b ab b2 ab2 : Nat} (hx : w.Ext w') (h1 : Img w' b ab (picW ss) ss.length (picL ss)) (h2 : Img w' b2 ab2 (picW tt) tt.length (picL tt)) :
    TwoRet w ss tt true (.returned (.tuple #[.pointer (some ⟨b, 0, none⟩), .pointer (some ⟨b2, 0, none⟩), .bool true])) w' := ⟨b, ab, b2, ab2, rfl, hx, h1, h2⟩
end Go.Proofs.Ytelaoimcaidoiaa
