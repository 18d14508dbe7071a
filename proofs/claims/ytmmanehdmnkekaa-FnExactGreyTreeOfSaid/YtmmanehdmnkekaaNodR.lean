/- Plain: the parts of a threshold in order, by the reference's numbers. -/
import Derived.Test.YtmmanehdmnkekaaNodQ
namespace Go.Proofs.Ytmmanehdmnkekaa
open Go.RowKit
def blkL (W H : Nat) (l : List Int) (t : Int) : List Nat := (List.range (H * W)).filter fun q => decide (t ≤ l.getD q 0)
noncomputable def fstTo (W H : Nat) (l : List Int) (t : Int) (k : Nat) : List Nat := ((blkL W H l t).take k).filter (firstB W H l t)
noncomputable def fstL (W H : Nat) (l : List Int) (t : Int) : List Nat := (List.range (H * W)).filter (firstB W H l t)
section
variable {W H : Nat} {l : List Int} {t : Int}
theorem blkL_mem {q : Nat} : q ∈ blkL W H l t ↔ q < H * W ∧ t ≤ l.getD q 0 := by
  unfold blkL
  rw [List.mem_filter, List.mem_range, decide_eq_true_iff]
theorem blkL_sorted : (blkL W H l t).Pairwise (· < ·) := List.Pairwise.filter _ List.pairwise_lt_range
theorem blkL_lt {i j : Nat} (hij : i < j) (hj : j < (blkL W H l t).length) : (blkL W H l t).getD i 0 < (blkL W H l t).getD j 0 := by
  have h := blkL_sorted (W := W) (H := H) (l := l) (t := t)
  rw [List.pairwise_iff_getElem] at h
  have := h i j (by omega) hj hij
  rw [List.getD_eq_getElem?_getD, List.getD_eq_getElem?_getD, List.getElem?_eq_getElem hj, List.getElem?_eq_getElem (show i < (blkL W H l t).length by omega)]
  exact this
theorem getD_memNat {xs : List Nat} {k : Nat} (h : k < xs.length) : xs.getD k 0 ∈ xs := by
  rw [List.getD_eq_getElem?_getD, List.getElem?_eq_getElem h]
  exact List.getElem_mem h
theorem fstL_eq : fstL W H l t = fstTo W H l t (blkL W H l t).length := by
  unfold fstL fstTo
  rw [List.take_length]
  unfold blkL
  rw [List.filter_filter]
  refine List.filter_congr fun q _ => ?_
  cases hf : firstB W H l t q
  · simp
  · rw [firstB_iff] at hf
    rw [Bool.true_and, decide_eq_true hf.1]
theorem fstTo_yes {k : Nat} (hk : k < (blkL W H l t).length) (h : firstB W H l t ((blkL W H l t).getD k 0) = true) : fstTo W H l t (k + 1) = fstTo W H l t k ++ [(blkL W H l t).getD k 0] := by
  unfold fstTo
  rw [List.take_succ_eq_append_getElem hk, List.filter_append]
  rw [List.getD_eq_getElem?_getD, List.getElem?_eq_getElem hk] at h ⊢
  simp only [Option.getD_some] at h ⊢
  simp [h]
theorem fstTo_no {k : Nat} (hk : k < (blkL W H l t).length) (h : firstB W H l t ((blkL W H l t).getD k 0) = false) : fstTo W H l t (k + 1) = fstTo W H l t k := by
  unfold fstTo
  rw [List.take_succ_eq_append_getElem hk, List.filter_append]
  rw [List.getD_eq_getElem?_getD, List.getElem?_eq_getElem hk] at h
  simp only [Option.getD_some] at h
  simp [h]
theorem fstTo_mem {k q : Nat} (h : q ∈ fstTo W H l t k) : ∃ i, i < k ∧ i < (blkL W H l t).length ∧ (blkL W H l t).getD i 0 = q := by
  unfold fstTo at h
  rw [List.mem_filter, List.mem_take_iff_getElem] at h
  obtain ⟨⟨i, hi, e⟩, -⟩ := h
  exact ⟨i, by omega, by omega, by rw [List.getD_eq_getElem?_getD, List.getElem?_eq_getElem (by omega)]; exact e⟩
/-- The reference's numbers behind the first k black spots. -/
theorem lab_first : ∀ (k : Nat) {F : Int × Int → Nat} {n : Nat}, k ≤ (blkL W H l t).length → LabK (lvR W H l t) (nbA false) ((blkL W H l t).map (spN W)) k F n →
    n = (fstTo W H l t k).length ∧ ∀ j, j < H * W → (0 < F (spN W j) ↔ ∃ i, i < k ∧ Cn W H l t ((blkL W H l t).getD i 0) j) ∧ ∀ m, m < n → (F (spN W j) = m + 1 ↔ Cn W H l t ((fstTo W H l t k).getD m 0) j)
  | 0, F, n, _, h => by
    obtain ⟨h1, h2⟩ := h
    refine ⟨by rw [h2]; simp [fstTo], fun j hj => ⟨⟨fun h => by rw [h1] at h; omega, fun ⟨i, h, _⟩ => by omega⟩, fun m hm => by omega⟩⟩
  | k + 1, F, n, hk, h => by
    obtain ⟨f0, n0, h1, h2⟩ := h
    obtain ⟨i1, i2⟩ := lab_first (F := f0) (n := n0) k (by omega) h1
    have hkl : k < (blkL W H l t).length := by omega
    have hsb := blkL_mem.1 (getD_memNat hkl)
    have hsp : ((blkL W H l t).map (spN W)).getD k (0, 0) = spN W ((blkL W H l t).getD k 0) := by
      rw [List.getD_eq_getElem?_getD, List.getElem?_map, List.getD_eq_getElem?_getD, List.getElem?_eq_getElem hkl]
      rfl
    rw [hsp] at h2
    generalize hs : (blkL W H l t).getD k 0 = s at *
    have hfirst : firstB W H l t s = true ↔ ∀ i, i < k → ¬ Cn W H l t ((blkL W H l t).getD i 0) s := by
      rw [firstB_iff]
      constructor
      · rintro ⟨-, hf⟩ i hi hc
        refine hf _ ?_ hc.symm
        rw [← hs]
        exact blkL_lt hi hkl
      · intro hf
        refine ⟨hsb.2, fun j hj hc => ?_⟩
        have hjb : j ∈ blkL W H l t := blkL_mem.2 ⟨by omega, hc.right (by omega)⟩
        obtain ⟨i, hi, e⟩ := List.mem_iff_getElem.1 hjb
        have e' : (blkL W H l t).getD i 0 = j := by rw [List.getD_eq_getElem?_getD, List.getElem?_eq_getElem hi]; exact e
        have hik : i < k := by
          rcases Nat.lt_trichotomy i k with h | h | h
          · exact h
          · rw [h, hs] at e'; omega
          · have := blkL_lt (W := W) (H := H) (l := l) (t := t) h hi
            omega
        exact hf i hik (by rw [e']; exact hc.symm)
    rcases h2 with ⟨a1, a2, a3⟩ | ⟨a1, a2, a3⟩
    · have hnf : firstB W H l t s = false := by
        cases hf : firstB W H l t s
        · rfl
        · rw [hfirst] at hf
          obtain ⟨i, hi, hc⟩ := (i2 s hsb.1).1.1 a1
          exact absurd hc (hf i hi)
      have hnf' := fstTo_no hkl (by rw [hs]; exact hnf)
      refine ⟨by rw [hnf', a3, i1], fun j hj => ⟨?_, fun m hm => ?_⟩⟩
      · rw [a2, (i2 j hj).1]
        constructor
        · rintro ⟨i, hi, hc⟩
          exact ⟨i, by omega, hc⟩
        · rintro ⟨i, hi, hc⟩
          by_cases e : i = k
          · subst e
            rw [hs] at hc
            obtain ⟨i', hi', hc'⟩ := (i2 s hsb.1).1.1 a1
            exact ⟨i', hi', hc'.trans hc⟩
          · exact ⟨i, by omega, hc⟩
      · rw [a2, hnf']
        exact (i2 j hj).2 m (by omega)
    · have hf : firstB W H l t s = true := by
        rw [hfirst]
        intro i hi hc
        have := (i2 s hsb.1).1.2 ⟨i, hi, hc⟩
        omega
      have hf' := fstTo_yes hkl (by rw [hs]; exact hf)
      rw [hs] at hf'
      have hln : (fstTo W H l t (k + 1)).length = n0 + 1 := by rw [hf', List.length_append, List.length_singleton, ← i1]
      refine ⟨by rw [hln, a2], fun j hj => ⟨?_, fun m hm => ?_⟩⟩
      · constructor
        · intro hp
          by_cases hc : Rch (lvR W H l t) (nbA false) [spN W s] (spN W j)
          · exact ⟨k, by omega, by rw [hs]; exact hc⟩
          · rw [(a3 _).2 hc] at hp
            obtain ⟨i, hi, hc'⟩ := (i2 j hj).1.1 hp
            exact ⟨i, by omega, hc'⟩
        · rintro ⟨i, hi, hc⟩
          by_cases hc' : Rch (lvR W H l t) (nbA false) [spN W s] (spN W j)
          · rw [(a3 _).1 hc']; omega
          · rw [(a3 _).2 hc']
            refine (i2 j hj).1.2 ⟨i, ?_, hc⟩
            by_cases e : i = k
            · subst e
              rw [hs] at hc
              exact absurd hc hc'
            · omega
      · have hgl : ∀ m, m < n0 → (fstTo W H l t (k + 1)).getD m 0 = (fstTo W H l t k).getD m 0 := fun m hm => by
          rw [hf', List.getD_eq_getElem?_getD, List.getD_eq_getElem?_getD, List.getElem?_append_left (by omega)]
        have hgn : (fstTo W H l t (k + 1)).getD n0 0 = s := by
          rw [hf', List.getD_eq_getElem?_getD, List.getElem?_append_right (by omega), ← i1, Nat.sub_self]
          rfl
        by_cases hc : Rch (lvR W H l t) (nbA false) [spN W s] (spN W j)
        · rw [(a3 _).1 hc]
          by_cases e : m = n0
          · subst e
            rw [hgn]
            exact ⟨fun _ => hc, fun _ => rfl⟩
          · have hm' : m < n0 := by omega
            constructor
            · intro h; omega
            · intro h
              rw [hgl m hm'] at h
              have hcs : Cn W H l t ((fstTo W H l t k).getD m 0) s := h.trans (Cn.symm hc)
              obtain ⟨i, hi, -, ei⟩ := fstTo_mem (getD_memNat (show m < (fstTo W H l t k).length by omega))
              rw [hfirst] at hf
              exact absurd (by rw [ei]; exact hcs) (hf i hi)
        · rw [(a3 _).2 hc]
          by_cases e : m = n0
          · subst e
            rw [hgn]
            constructor
            · intro h
              have := (h1.few).2 (spN W j)
              omega
            · intro h; exact absurd h hc
          · have hm' : m < n0 := by omega
            rw [hgl m hm']
            exact (i2 j hj).2 m hm'
theorem lab_parts {F : Int × Int → Nat} {n : Nat} (h : LabK (lvR W H l t) (nbA false) ((blkL W H l t).map (spN W)) (blkL W H l t).length F n) : n = (fstL W H l t).length ∧ ∀ j, j < H * W → ∀ m, m < n → (F (spN W j) = m + 1 ↔ Cn W H l t ((fstL W H l t).getD m 0) j) := by
  obtain ⟨h1, h2⟩ := lab_first (F := F) (n := n) _ (Nat.le_refl _) h
  rw [fstL_eq]
  exact ⟨h1, fun j hj m hm => (h2 j hj).2 m hm⟩
theorem fstL_sorted : (fstL W H l t).Pairwise (· < ·) := List.Pairwise.filter _ List.pairwise_lt_range
theorem fstL_mem {q : Nat} : q ∈ fstL W H l t ↔ q < H * W ∧ firstB W H l t q = true := by
  unfold fstL
  rw [List.mem_filter, List.mem_range]
theorem lvN_fst {t : Nat} : lvN W H l t = ((fstL W H l t).filter (ownB W H l t)).map fun q => (t, q) := by
  unfold lvN fstL
  rw [List.filter_filter]
  congr 1
  refine List.filter_congr fun q _ => ?_
  rw [Bool.and_comm]
/-- The nodes behind the first k parts of a level. -/
noncomputable def ndK (W H : Nat) (l : List Int) (t k : Nat) : List (Nat × Nat) := ndTo W H l t ++ (((fstL W H l t).take k).filter (ownB W H l t)).map fun q => (t, q)
theorem ndK_zero {t : Nat} : ndK W H l t 0 = ndTo W H l t := by unfold ndK; simp
theorem ndK_all {t : Nat} : ndK W H l t (fstL W H l t).length = ndTo W H l (t + 1) := by unfold ndK; rw [List.take_length, ndTo_succ, lvN_fst]
theorem ndK_yes {t k : Nat} (hk : k < (fstL W H l t).length) (h : ownB W H l t ((fstL W H l t).getD k 0) = true) : ndK W H l t (k + 1) = ndK W H l t k ++ [(t, (fstL W H l t).getD k 0)] := by
  unfold ndK
  rw [List.take_succ_eq_append_getElem hk, List.filter_append, List.map_append, ← List.append_assoc]
  rw [List.getD_eq_getElem?_getD, List.getElem?_eq_getElem hk] at h ⊢
  simp only [Option.getD_some] at h ⊢
  simp [h]
theorem ndK_no {t k : Nat} (hk : k < (fstL W H l t).length) (h : ownB W H l t ((fstL W H l t).getD k 0) = false) : ndK W H l t (k + 1) = ndK W H l t k := by
  unfold ndK
  rw [List.take_succ_eq_append_getElem hk, List.filter_append, List.map_append]
  rw [List.getD_eq_getElem?_getD, List.getElem?_eq_getElem hk] at h
  simp only [Option.getD_some] at h
  simp [h]
/-- A level that no pixel has. -/
theorem lvN_none {t : Nat} (h : ∀ s, s < H * W → l.getD s 0 ≠ (t : Int)) : lvN W H l t = [] := by
  unfold lvN
  rw [List.map_eq_nil_iff, List.filter_eq_nil_iff]
  intro q _ hq
  rw [Bool.and_eq_true, ownB_iff] at hq
  obtain ⟨-, s, h1, -, h2⟩ := hq
  exact h s h1 h2
end
/-- How many spots a node has. -/
noncomputable def arN (W H : Nat) (l : List Int) (d : Nat × Nat) : Nat := ((List.range (H * W)).filter (cnB W H l d.1 d.2)).length
def levT (nds : List (Nat × Nat)) : List Int := nds.map fun d => (d.1 : Int)
noncomputable def parT (W H : Nat) (l : List Int) (nds : List (Nat × Nat)) : List Int := nds.map (parN W H l)
noncomputable def areT (W H : Nat) (l : List Int) (nds : List (Nat × Nat)) : List Int := nds.map fun d => (arN W H l d : Int)
noncomputable def nodT (W H : Nat) (l : List Int) (nds : List (Nat × Nat)) : List Int := (List.range (H * W)).map (lastIn W H l nds)
end Go.Proofs.Ytmmanehdmnkekaa
