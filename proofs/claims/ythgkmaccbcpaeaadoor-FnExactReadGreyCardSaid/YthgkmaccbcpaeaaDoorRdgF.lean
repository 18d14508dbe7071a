/- ReadGrey, the reference's last step; bounds. -/
import Derived.Test.YthgkmaccbcpaeaaDoorRdgK
namespace Go.Proofs.YthgkmaccbcpaeaaDoor
open Go Go.RowKit
set_option maxRecDepth 5000 in
set_option maxHeartbeats 800000 in
theorem specRdg_any (s : ByteArray) (w : World) (hs : s.size ≤ 1048576) : Calls Tryd.prog 27 #[.string s] w (GreyRet2 w (gyM s.data.toList) (gyB s.data.toList)) := by
  obtain ⟨W0, hW0⟩ : ∃ W0, W0 = w.alloc (.cells #[.slice none 0 0] 28) := ⟨_, rfl⟩
  have hx0 : w.Ext W0 := by rw [hW0]; repeat (first | exact World.Ext.refl _ | exact ⟨_, rfl⟩ | assumption | refine World.Ext.over ?_ _ | refine World.Ext.drewN ?_ _ | refine World.Ext.drew ?_ | refine World.Ext.alloc ?_ _ | refine World.Ext.setCell ?_ (by simp) _)
  have hone : One W0 w.heap.size 28 (.slice none 0 0) := by rw [hW0]; exact One.new _ _ _ _ rfl
  have HC := Lib.hid (l07Read_any s W0 hs)
  have HX0 := Lib.hid hx0
  have HONE := Lib.hid hone
  have hl0 : w.heap.size < W0.heap.size := hone.lt
  obtain ⟨M, hM⟩ : ∃ M, M = gyM s.data.toList := ⟨_, rfl⟩
  obtain ⟨B, hB⟩ : ∃ B, B = gyB s.data.toList := ⟨_, rfl⟩
  rw [← hM, ← hB] at HC ⊢
  clear hx0 hone hM hB
  go_enter Tryd.func27, Tryd.ntmps27
  go_upto_region 1 with fail
  rw [← hW0]
  clear hW0
  go_wp2_with fail
  refine HC.out.mono ?_
  rintro e w3 ⟨a, c, A, C, rfl, hx3, ho⟩
  obtain ⟨r1, r2, r3, HR⟩ := Res.storeM (.slice a M.length c) (HX0.out.trans hx3) (Nat.le_refl _) (HONE.out.ext hx3) hl0 ho
  have HE : Hid (GreyRet2 w M B (.returned (.tuple #[.agg #[.slice a M.length c], .bool B])) (w3.setCell ⟨w.heap.size, 0, none⟩ (.slice a M.length c))) := ⟨a, c, A, C, rfl, HR.out.1, HR.out.2⟩
  have lp := (HONE.out.ext hx3).lt
  clear hx3 ho HC HX0 HONE
  generalize M.length = mn at *
  go_wp2
  exact bodyPost_ret (v := .tuple #[.agg #[.slice a mn c], .bool B]) (by simp [results, Tryd.results27, go_sem, r3]) rfl HE.out
theorem offM_le300 (m : List (List Int)) (h : ∀ r, (m.getD r []).length ≤ 300) : ∀ k, offM m k ≤ k * 300
  | 0 => by simp [offM]
  | k + 1 => by
    have ih := offM_le300 m h k
    have := h k
    show offM m k + _ ≤ _
    rw [Nat.add_mul]
    omega
theorem gy_bnd (l : List UInt8) : MatBnd (gyM l) ∧ offM (gyM l) (gyM l).length ≤ 1048576 := by
  have key : (gyM l).length ≤ 16 ∧ ∀ r, ((gyM l).getD r []).length ≤ 300 := by
    unfold gyM
    cases h : gyB l
    · exact ⟨by simp, fun r => by simp⟩
    · rw [if_pos rfl]
      unfold gyB at h
      rw [Bool.and_eq_true, decide_eq_true_eq] at h
      refine ⟨by rw [List.length_map]; exact h.1, fun r => ?_⟩
      by_cases hr : r < (cutL 47 l).length
      · rw [getD_map lsV _ r [] [] hr]; exact lsV_len _
      · rw [List.getD_eq_getElem?_getD, List.getElem?_eq_none (by simp; omega)]
        exact Nat.zero_le _
  refine ⟨⟨by omega, fun r => Nat.le_trans (key.2 r) (by omega)⟩, ?_⟩
  have h := offM_le300 (gyM l) key.2 (gyM l).length
  have := Nat.mul_le_mul_right 300 key.1
  omega
end Go.Proofs.YthgkmaccbcpaeaaDoor
