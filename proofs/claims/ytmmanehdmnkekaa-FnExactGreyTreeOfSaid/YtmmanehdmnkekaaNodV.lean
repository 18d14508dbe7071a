/- Plain: what the reference's tree holds under way. -/
import Derived.Test.YtmmanehdmnkekaaNodU
namespace Go.Proofs.Ytmmanehdmnkekaa
open Go.RowKit
/-- The first number below i of which something holds, or -1. -/
def fiW (c : Nat → Bool) : Nat → Int
  | 0 => -1
  | i + 1 => if fiW c i < 0 ∧ c i = true then (i : Int) else fiW c i
def cntI (c : Nat → Bool) (i : Nat) : Nat := ((List.range i).filter c).length
section
variable {c : Nat → Bool}
theorem fiW_no {i : Nat} (h : c i = false) : fiW c (i + 1) = fiW c i := by
  conv => lhs; unfold fiW
  rw [if_neg (by rw [h]; simp)]
theorem fiW_neg {i : Nat} (h : c i = true) (h2 : fiW c i < 0) : fiW c (i + 1) = (i : Int) := by
  conv => lhs; unfold fiW
  rw [if_pos ⟨h2, h⟩]
theorem fiW_pos {i : Nat} (h2 : ¬ fiW c i < 0) : fiW c (i + 1) = fiW c i := by
  conv => lhs; unfold fiW
  rw [if_neg (fun h => h2 h.1)]
theorem fiW_lo : ∀ i, -1 ≤ fiW c i ∧ fiW c i < (i : Int)
  | 0 => by unfold fiW; omega
  | i + 1 => by
    have := fiW_lo i
    unfold fiW
    split <;> omega
theorem fiW_before {q : Nat} (h : ∀ j, j < q → c j = false) : ∀ i, i ≤ q → fiW c i = -1
  | 0, _ => rfl
  | i + 1, hi => by rw [fiW_no (h i (by omega)), fiW_before h i (by omega)]
theorem fiW_at {q : Nat} (hq : c q = true) (h : ∀ j, j < q → c j = false) : ∀ i, q < i → fiW c i = (q : Int)
  | 0, hi => by omega
  | i + 1, hi => by
    by_cases e : i = q
    · subst e
      exact fiW_neg hq (by rw [fiW_before h i (Nat.le_refl _)]; omega)
    · have ih := fiW_at hq h i (by omega)
      rw [fiW_pos (by rw [ih]; omega), ih]
theorem cntI_no {i : Nat} (h : c i = false) : cntI c (i + 1) = cntI c i := by
  unfold cntI
  rw [List.range_succ, List.filter_append]
  simp [h]
theorem cntI_yes {i : Nat} (h : c i = true) : cntI c (i + 1) = cntI c i + 1 := by
  unfold cntI
  rw [List.range_succ, List.filter_append]
  simp [h]
theorem cntI_le (i : Nat) : cntI c i ≤ i := by
  unfold cntI
  exact Nat.le_trans (List.length_filter_le _ _) (Nat.le_of_eq List.length_range)
theorem anyI_succ (f : Nat → Bool) (i : Nat) : (List.range (i + 1)).any f = ((List.range i).any f || f i) := by
  rw [List.range_succ, List.any_append]
  simp
end
noncomputable def mixT (W H : Nat) (l : List Int) (nds : List (Nat × Nat)) (c : Nat → Bool) (m i : Nat) : List Int := (List.range (H * W)).map fun j => if j < i ∧ c j = true then (m : Int) else lastIn W H l nds j
section
variable {W H : Nat} {l : List Int} {nds : List (Nat × Nat)} {c : Nat → Bool} {m i : Nat}
theorem nodT_len : (nodT W H l nds).length = H * W := by simp [nodT]
theorem nodT_at {j : Nat} (hj : j < H * W) : (nodT W H l nds).getD j 0 = lastIn W H l nds j := by
  unfold nodT
  rw [List.getD_eq_getElem?_getD, List.getElem?_map, List.getElem?_range hj]
  rfl
theorem mixT_len : (mixT W H l nds c m i).length = H * W := by simp [mixT]
theorem mixT_zero : mixT W H l nds c m 0 = nodT W H l nds := by
  unfold mixT nodT
  refine List.map_congr_left fun j _ => ?_
  rw [if_neg (fun h => by omega)]
theorem mixT_no (h : c i = false) : mixT W H l nds c m (i + 1) = mixT W H l nds c m i := by
  unfold mixT
  refine List.map_congr_left fun j _ => ?_
  by_cases e : j = i
  · subst e
    rw [if_neg (fun q => by rw [h] at q; exact Bool.noConfusion q.2), if_neg (fun q => by rw [h] at q; exact Bool.noConfusion q.2)]
  · by_cases hj : j < i ∧ c j = true
    · rw [if_pos hj, if_pos ⟨by omega, hj.2⟩]
    · rw [if_neg hj, if_neg (fun q => hj ⟨by omega, q.2⟩)]
theorem mixT_yes (h : c i = true) : mixT W H l nds c m (i + 1) = (mixT W H l nds c m i).set i (m : Int) := by
  apply List.ext_getElem?
  intro j
  rw [List.getElem?_set, mixT_len]
  by_cases hj : j < H * W
  · unfold mixT
    rw [List.getElem?_map, List.getElem?_map, List.getElem?_range hj]
    simp only [Option.map_some]
    by_cases e : i = j
    · subst e
      rw [if_pos rfl, if_pos hj, if_pos ⟨by omega, h⟩]
    · rw [if_neg e]
      by_cases hc : j < i ∧ c j = true
      · rw [if_pos hc, if_pos ⟨by omega, hc.2⟩]
      · rw [if_neg hc, if_neg (fun q => hc ⟨by omega, q.2⟩)]
  · rw [List.getElem?_eq_none (by rw [mixT_len]; omega), List.getElem?_eq_none (by rw [mixT_len]; omega)]
    split
    · rw [if_neg (by omega)]
    · rfl
theorem mixT_all {d : Nat × Nat} : mixT W H l nds (cnB W H l d.1 d.2) nds.length (H * W) = nodT W H l (nds ++ [d]) := by
  unfold mixT nodT
  refine List.map_congr_left fun j hj => ?_
  rw [List.mem_range] at hj
  rw [lastIn_snoc]
  by_cases hc : cnB W H l d.1 d.2 j = true
  · rw [if_pos ⟨hj, hc⟩, if_pos hc]
  · rw [if_neg (fun q => hc q.2), if_neg hc]
theorem nodT_nil : nodT W H l [] = List.replicate (H * W) (-1) := by
  unfold nodT
  rw [List.eq_replicate_iff]
  refine ⟨by simp, fun b hb => ?_⟩
  rw [List.mem_map] at hb
  obtain ⟨j, -, rfl⟩ := hb
  rfl
theorem levT_snoc {d : Nat × Nat} : levT (nds ++ [d]) = levT nds ++ [(d.1 : Int)] := by simp [levT]
theorem parT_snoc {d : Nat × Nat} : parT W H l (nds ++ [d]) = parT W H l nds ++ [parN W H l d] := by simp [parT]
theorem areT_snoc {d : Nat × Nat} : areT W H l (nds ++ [d]) = areT W H l nds ++ [(arN W H l d : Int)] := by simp [areT]
theorem levT_len : (levT nds).length = nds.length := by simp [levT]
theorem parT_len : (parT W H l nds).length = nds.length := by simp [parT]
theorem areT_len : (areT W H l nds).length = nds.length := by simp [areT]
theorem arN_eq {d : Nat × Nat} : cntI (cnB W H l d.1 d.2) (H * W) = arN W H l d := rfl
end
section
variable {W H : Nat} {l : List Int} {t k : Nat}
theorem fst_spec (hk : k < (fstL W H l t).length) : (fstL W H l t).getD k 0 < H * W ∧ cnB W H l t ((fstL W H l t).getD k 0) ((fstL W H l t).getD k 0) = true ∧ ∀ j, j < (fstL W H l t).getD k 0 → cnB W H l t ((fstL W H l t).getD k 0) j = false := by
  have hm := fstL_mem.1 (getD_memNat hk)
  have hf := firstB_iff.1 hm.2
  refine ⟨hm.1, cnB_iff.2 (Cn.refl hm.1 hf.1), fun j hj => cnB_not.2 (hf.2 j hj)⟩
theorem ndK_lt {d : Nat × Nat} (h : d ∈ ndK W H l t k) : d.1 ≤ t ∧ d.2 < H * W := by
  unfold ndK at h
  rw [List.mem_append] at h
  rcases h with h | h
  · rw [ndTo_mem] at h
    exact ⟨by omega, h.2.1⟩
  · rw [List.mem_map] at h
    obtain ⟨q, hq, rfl⟩ := h
    rw [List.mem_filter] at hq
    exact ⟨Nat.le_refl _, (fstL_mem.1 (List.mem_of_mem_take hq.1)).1⟩
theorem ndK_pre (ht : t < 100) : ∃ r, nodeL W H l = ndK W H l t k ++ r := by
  have h1 : ∃ r, ndTo W H l (t + 1) = ndK W H l t k ++ r := by
    rw [← ndK_all]
    unfold ndK
    refine ⟨((((fstL W H l t).take (fstL W H l t).length).drop k).filter (ownB W H l t)).map fun q => (t, q), ?_⟩
    rw [List.append_assoc, ← List.map_append, ← List.filter_append, List.take_length, List.take_append_drop]
  obtain ⟨r, hr⟩ := h1
  obtain ⟨r2, h2, -⟩ := ndTo_pre (W := W) (H := H) (l := l) (t + 1) (100 - (t + 1))
  rw [show t + 1 + (100 - (t + 1)) = 100 by omega] at h2
  exact ⟨r ++ r2, by unfold nodeL; rw [h2, hr, List.append_assoc]⟩
theorem ndK_len (hg : GrL W H l) (ht : t < 100) : (ndK W H l t k).length ≤ H * W := by
  obtain ⟨r, h⟩ := ndK_pre (W := W) (H := H) (l := l) (k := k) ht
  have := nodeL_len hg
  rw [h, List.length_append] at this
  omega
end
end Go.Proofs.Ytmmanehdmnkekaa
