/- CutPeaks and ReconstructGrey, both sides. -/
import Derived.Test.YtahhnjoeaodcjaaGreyI
import Derived.Deep.RegionHeld3
namespace Go.Proofs.Ytahhnjoeaodcjaa
open Go Go.RowKit
theorem grl_flatten {W H : Nat} {l : List Int} (hW : 0 < W) (hl : l.length = H * W) : (grl W H l).flatten = l := by
  have hr : ∀ r, r < (grl W H l).length → ((grl W H l).getD r []).length = W := fun r h => by rw [grl_len] at h; exact grl_row h
  have hfl := flat_len W (grl W H l) hr
  rw [grl_len] at hfl
  apply List.ext_getElem?
  intro k
  by_cases hk : k < H * W
  · have e2 : ∀ (m : List Int), k < m.length → m[k]? = some (m.getD k 0) := fun m hm => by rw [List.getD_eq_getElem?_getD, List.getElem?_eq_getElem hm]; rfl
    have hx : k % W < W := Nat.mod_lt _ hW
    have hy : k / W < H := by rw [Nat.div_lt_iff_lt_mul hW]; exact hk
    have he : k / W * W + k % W = k := by rw [Nat.mul_comm]; exact Nat.div_add_mod _ _
    have h := flat_at W (grl W H l) _ _ hr (by rw [grl_len]; exact hy) hx
    rw [he, grl_at hx hy, he] at h
    rw [e2 _ (by rw [hfl, Nat.mul_comm]; exact hk), e2 _ (by rw [hl]; exact hk), h]
  · rw [List.getElem?_eq_none (by rw [hfl, Nat.mul_comm]; omega), List.getElem?_eq_none (by omega)]
theorem cutL_at {h : Int} {l : List Int} {k : Nat} (hk : k < l.length) : (cutL h l).getD k 0 = cutF h (l.getD k 0) := by
  unfold cutL
  rw [List.getD_eq_getElem?_getD, List.getElem?_map, List.getD_eq_getElem?_getD, List.getElem?_eq_getElem hk]
  rfl
theorem keep1S {w : World} {p p2 : Nat} {v x : Value} (h : p2 ≠ p) (k : w.cell? ⟨p2, 0, none⟩ = some x) : (w.setCell ⟨p, 0, none⟩ v).cell? ⟨p2, 0, none⟩ = some x :=
  (Wrote.setCell (S := fun k => k = p) (Wrote.refl _ _) (p := ⟨p, 0, none⟩) rfl v : Wrote _ w _).cell k h
theorem cut_bnd (m : List (List Int)) (h : Int) (l : List Int) : MatBnd (optM (cutOk m h) (grl (m.getD 0 []).length m.length l)) ∧ offM (optM (cutOk m h) (grl (m.getD 0 []).length m.length l)) (optM (cutOk m h) (grl (m.getD 0 []).length m.length l)).length ≤ 1048576 := by
  cases hc : cutOk m h
  · exact ⟨⟨by simp [optM], fun r => by simp [optM]⟩, by simp [optM, offM]⟩
  · unfold cutOk at hc
    rw [Bool.and_eq_true] at hc
    obtain ⟨v1, v2, v3, v4, -, -⟩ := tableOk_spec hc.1
    exact optM_bnd true _ _ _ (by omega) (by omega)
end Go.Proofs.Ytahhnjoeaodcjaa
