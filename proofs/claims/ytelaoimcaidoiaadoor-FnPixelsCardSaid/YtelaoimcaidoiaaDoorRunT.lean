/- FnRuns: a picture comes back from its runs, which have its black pixels, and its edges are those at which neighbours differ. -/
import Derived.Test.YtelaoimcaidoiaaDoorSumP
import Derived.Test.YtelaoimcaidoiaaDoorGenA
namespace Go.Proofs.YtelaoimcaidoiaaDoor
open Go Go.RowKit
theorem listS_ext {xs ys : List ByteArray} (hl : xs.length = ys.length) (h : ∀ i, i < xs.length → xs.getD i ByteArray.empty = ys.getD i ByteArray.empty) : xs = ys := by
  apply List.ext_getElem hl
  intro i h1 h2
  have := h i h1
  rw [List.getD_eq_getElem?_getD, List.getD_eq_getElem?_getD, List.getElem?_eq_getElem h1, List.getElem?_eq_getElem h2] at this
  exact this
theorem str_ne {z z' : ByteArray} (h : ¬ z = z') : (z.toList == z'.toList) = false := by
  rw [beq_eq_false_iff_ne]
  intro e
  apply h
  rw [ByteArray.toList_eq, ByteArray.toList_eq] at e
  cases z; cases z'
  simp only [ByteArray.mk.injEq] at *
  exact Array.toList_inj.1 e
theorem rowStr_bits {s : ByteArray} (h : s.data.toList.all pixOk = true) : rowStr (rowBits s) = s := by
  obtain ⟨d⟩ := s
  unfold rowStr strOfNums rowBits
  rw [List.map_map, List.map_map]
  have e : List.map ((((fun n => UInt8.ofNat n.toNat) : Int → UInt8) ∘ byteOf) ∘ fun b => b == 35) d.toList = d.toList := by
    conv => rhs; rw [← List.map_id d.toList]
    refine List.map_congr_left fun b hb => ?_
    have h1 := List.all_eq_true.1 h b hb
    unfold pixOk at h1
    show UInt8.ofNat (byteOf (b == 35)).toNat = b
    cases h2 : (b == 35)
    · rw [h2, Bool.false_or] at h1
      rw [eq_of_beq h1]
      rfl
    · rw [eq_of_beq h2]
      rfl
  show ByteArray.mk (List.map _ d.toList).toArray = _
  rw [e, Array.toArray_toList]
theorem pic_self {ss : List ByteArray} (hok : picOk ss = true) : picRows (picW ss) ss.length (picL ss) = ss := by
  obtain ⟨v1, v2, v3, v4, v5, v6⟩ := picOk_spec hok
  refine listS_ext (picRows_len _ _ _) fun y hy => ?_
  rw [picRows_len] at hy
  rw [picRows_at _ _ _ hy]
  have hall : (ss.getD y ByteArray.empty).data.toList.all pixOk = true := by
    rw [List.all_eq_true]
    intro b hb
    obtain ⟨i, hi, e⟩ := List.getElem_of_mem hb
    have h := v6 y i hy (by rw [← v5.2 y hy]; simpa using hi)
    rw [List.getD_eq_getElem?_getD, List.getElem?_eq_getElem hi] at h
    rw [← e]
    exact h
  refine Eq.trans (congrArg rowStr ?_) (rowStr_bits hall)
  have hlen : (rowAt (picW ss) (picL ss) y).length = picW ss := rowAt_len _ ss.length _ _ (by rw [picL_len v5, Nat.mul_comm]) hy
  have hsz := v5.2 y hy
  apply List.ext_getElem (by rw [hlen, rowBits_len, hsz])
  intro i h1 h2
  have h1' := h1
  rw [hlen] at h1
  have e1 : (rowAt (picW ss) (picL ss) y)[i]? = some ((picL ss).getD (y * picW ss + i) false) := by
    unfold rowAt
    rw [List.getElem?_take, if_pos h1, List.getElem?_drop, List.getD_eq_getElem?_getD]
    have h3 : y * picW ss + i < (picL ss).length := by
      rw [picL_len v5]
      have := Nat.mul_le_mul_right (picW ss) (show y + 1 ≤ ss.length by omega)
      rw [Nat.succ_mul] at this
      omega
    rw [List.getElem?_eq_getElem h3]
    rfl
  have e2 := rowBits_at (ss.getD y ByteArray.empty) i (by rw [hsz]; exact h1)
  rw [List.getElem?_eq_getElem h1'] at e1
  rw [Option.some.inj e1, picL_at v5 i y h1 hy, ← e2, List.getD_eq_getElem?_getD, List.getElem?_eq_getElem h2]
  rfl
end Go.Proofs.YtelaoimcaidoiaaDoor
