/- Plain: how the program finds the nodes, and what it makes of them. -/
import Derived.Test.YtmmanehdmnkekaaNodP
namespace Go.Proofs.Ytmmanehdmnkekaa
open Go.RowKit
noncomputable def doneB (W H : Nat) (l : List Int) (k q : Nat) : Bool := (List.range k).any fun i => decide (l.getD q 0 = l.getD i 0) && cnB W H l (l.getD i 0) i q
noncomputable def foundTo (W H : Nat) (l : List Int) (k : Nat) : List (Nat × Nat) := ((List.range k).filter fun j => !doneB W H l j j).map fun j => ((l.getD j 0).toNat, mnN W H l (l.getD j 0) j)
/-- Numbers of a grey picture. -/
def GrL (W H : Nat) (l : List Int) : Prop := ∀ k, k < H * W → 0 ≤ l.getD k 0 ∧ l.getD k 0 ≤ 99
section
variable {W H : Nat} {l : List Int} {j k q : Nat} {t : Int}
theorem doneB_iff : doneB W H l k q = true ↔ ∃ i, i < k ∧ l.getD q 0 = l.getD i 0 ∧ Cn W H l (l.getD i 0) i q := by
  unfold doneB
  rw [List.any_eq_true]
  constructor
  · rintro ⟨i, h1, h2⟩
    rw [Bool.and_eq_true, cnB_iff, decide_eq_true_iff] at h2
    exact ⟨i, List.mem_range.1 h1, h2⟩
  · rintro ⟨i, h1, h2⟩
    exact ⟨i, List.mem_range.2 h1, by rw [Bool.and_eq_true, cnB_iff, decide_eq_true_iff]; exact h2⟩
theorem doneB_zero : doneB W H l 0 q = false := rfl
theorem doneB_skip (h : doneB W H l k k = true) : doneB W H l (k + 1) q = doneB W H l k q := by
  rw [Bool.eq_iff_iff, doneB_iff, doneB_iff]
  constructor
  · rintro ⟨i, h1, h2, h3⟩
    by_cases e : i = k
    · subst e
      rw [doneB_iff] at h
      obtain ⟨i', a1, a2, a3⟩ := h
      exact ⟨i', a1, by rw [h2, a2], a3.trans (by rw [← a2]; exact h3)⟩
    · exact ⟨i, by omega, h2, h3⟩
  · rintro ⟨i, h1, h2⟩
    exact ⟨i, by omega, h2⟩
theorem doneB_more : doneB W H l (k + 1) q = (doneB W H l k q || (decide (l.getD q 0 = l.getD k 0) && cnB W H l (l.getD k 0) k q)) := by
  unfold doneB
  rw [List.range_succ, List.any_append]
  simp
theorem found_skip (h : doneB W H l k k = true) : foundTo W H l (k + 1) = foundTo W H l k := by
  unfold foundTo
  rw [List.range_succ, List.filter_append, List.map_append]
  simp [h]
theorem found_more (h : doneB W H l k k = false) : foundTo W H l (k + 1) = foundTo W H l k ++ [((l.getD k 0).toNat, mnN W H l (l.getD k 0) k)] := by
  unfold foundTo
  rw [List.range_succ, List.filter_append, List.map_append]
  simp [h]
theorem found_len : (foundTo W H l k).length ≤ k := by
  unfold foundTo
  rw [List.length_map]
  exact Nat.le_trans (List.length_filter_le _ _) (Nat.le_of_eq List.length_range)
theorem mnN_spec (hj : j < H * W) (ht : t ≤ l.getD j 0) : mnN W H l t j ≤ j ∧ Cn W H l t j (mnN W H l t j) ∧ ∀ i, i < mnN W H l t j → ¬ Cn W H l t j i := by
  unfold mnN
  have hr := Cn.refl (W := W) (H := H) (l := l) hj ht
  cases hf : (List.range (H * W)).find? (cnB W H l t j)
  · rw [List.find?_eq_none] at hf
    exact absurd (cnB_iff.2 hr) (hf j (List.mem_range.2 hj))
  · rename_i m
    rw [List.find?_range_eq_some] at hf
    obtain ⟨h1, h2, h3⟩ := hf
    refine ⟨?_, cnB_iff.1 h1, fun i hi => ?_⟩
    · rcases Nat.lt_or_ge j m with h | h
      · have := h3 j h
        rw [Bool.not_eq_true', cnB_not] at this
        exact absurd hr this
      · exact h
    · have := h3 i hi
      rw [Bool.not_eq_true', cnB_not] at this
      exact this
theorem mnN_eq {m : Nat} (hj : j < H * W) (ht : t ≤ l.getD j 0) (h1 : Cn W H l t j m) (h2 : ∀ i, i < m → ¬ Cn W H l t j i) : mnN W H l t j = m := by
  obtain ⟨-, a2, a3⟩ := mnN_spec (W := W) (H := H) hj ht
  rcases Nat.lt_trichotomy (mnN W H l t j) m with h | h | h
  · exact absurd a2 (h2 _ h)
  · exact h
  · exact absurd h1 (a3 _ h)
theorem mnN_same (hj : j < H * W) (hk : k < H * W) (h : Cn W H l t j k) : mnN W H l t j = mnN W H l t k := by
  obtain ⟨-, a2, a3⟩ := mnN_spec (W := W) (H := H) hk (h.right hk)
  exact mnN_eq hj (h.left hj) (h.trans a2) fun i hi h' => a3 i hi (h.symm.trans h')
theorem mnN_first (hj : j < H * W) (ht : t ≤ l.getD j 0) : firstB W H l t (mnN W H l t j) = true := by
  obtain ⟨a1, a2, a3⟩ := mnN_spec (W := W) (H := H) hj ht
  rw [firstB_iff]
  exact ⟨a2.right (by omega), fun i hi h => a3 i hi (a2.trans h)⟩
theorem mnN_of_first (_ : q < H * W) (h : firstB W H l t q = true) (hj : j < H * W) (hc : Cn W H l t q j) : mnN W H l t j = q := by
  rw [firstB_iff] at h
  exact mnN_eq hj (hc.right hj) hc.symm fun i hi h' => h.2 i hi (hc.trans h')
/-- The least spot of a node that has its own level. -/
theorem own_least (_ : q < H * W) (ho : ownB W H l t q = true) : ∃ s, s < H * W ∧ Cn W H l t q s ∧ l.getD s 0 = t ∧ doneB W H l s s = false := by
  rw [ownB_iff] at ho
  obtain ⟨s, hs⟩ := ho
  obtain ⟨m, hm, hl⟩ : ∃ m, (m < H * W ∧ Cn W H l t q m ∧ l.getD m 0 = t) ∧ ∀ i, i < m → ¬ (i < H * W ∧ Cn W H l t q i ∧ l.getD i 0 = t) := by
    have : ∀ n, (∃ s, s < n ∧ (s < H * W ∧ Cn W H l t q s ∧ l.getD s 0 = t)) → ∃ m, (m < H * W ∧ Cn W H l t q m ∧ l.getD m 0 = t) ∧ ∀ i, i < m → ¬ (i < H * W ∧ Cn W H l t q i ∧ l.getD i 0 = t) := by
      intro n
      induction n with
      | zero => rintro ⟨s, h, _⟩; omega
      | succ n ih =>
        rintro ⟨s, h1, h2⟩
        by_cases hx : ∃ s, s < n ∧ (s < H * W ∧ Cn W H l t q s ∧ l.getD s 0 = t)
        · exact ih hx
        · have e : s = n := by
            rcases Nat.lt_or_ge s n with h | h
            · exact absurd ⟨s, h, h2⟩ hx
            · omega
          subst e
          exact ⟨s, h2, fun i hi h => hx ⟨i, hi, h⟩⟩
    exact this (s + 1) ⟨s, by omega, hs⟩
  refine ⟨m, hm.1, hm.2.1, hm.2.2, ?_⟩
  cases hd : doneB W H l m m
  · rfl
  · rw [doneB_iff] at hd
    obtain ⟨i, h1, h2, h3⟩ := hd
    refine absurd ⟨by omega, ?_, ?_⟩ (hl i h1)
    · rw [← h2, hm.2.2] at h3
      exact hm.2.1.trans h3.symm
    · rw [← h2, hm.2.2]
/-- What is found are the nodes. -/
theorem found_mem (hg : GrL W H l) {d : Nat × Nat} : d ∈ foundTo W H l (H * W) ↔ d ∈ nodeL W H l := by
  unfold nodeL
  rw [ndTo_mem]
  unfold foundTo
  rw [List.mem_map]
  constructor
  · rintro ⟨j, hj, rfl⟩
    rw [List.mem_filter, List.mem_range] at hj
    obtain ⟨g1, g2⟩ := hg j hj.1
    have e : ((l.getD j 0).toNat : Int) = l.getD j 0 := by omega
    obtain ⟨a1, a2, a3⟩ := mnN_spec (W := W) (H := H) (l := l) hj.1 (Int.le_refl _)
    simp only [e]
    refine ⟨by omega, by omega, mnN_first hj.1 (Int.le_refl _), ?_⟩
    rw [ownB_iff]
    exact ⟨j, hj.1, a2.symm, rfl⟩
  · rintro ⟨h1, h2, h3, h4⟩
    obtain ⟨s, s1, s2, s3, s4⟩ := own_least h2 h4
    refine ⟨s, by rw [List.mem_filter, List.mem_range, s4]; exact ⟨s1, rfl⟩, ?_⟩
    rw [s3, mnN_of_first h2 h3 s1 s2]
    rfl
theorem found_nodup (hg : GrL W H l) : (foundTo W H l (H * W)).Nodup := by
  unfold foundTo
  rw [List.nodup_iff_pairwise_ne, List.pairwise_map]
  have hp : ((List.range (H * W)).filter fun j => !doneB W H l j j).Pairwise (· < ·) := List.Pairwise.filter _ List.pairwise_lt_range
  refine List.Pairwise.imp_of_mem (fun {a b} ha hb hab e => ?_) hp
  rw [List.mem_filter, List.mem_range, Bool.not_eq_true'] at ha hb
  simp only [Prod.mk.injEq] at e
  obtain ⟨e1, e2⟩ := e
  have ga := hg a ha.1
  have gb := hg b hb.1
  have el : l.getD a 0 = l.getD b 0 := by omega
  obtain ⟨-, a2, -⟩ := mnN_spec (W := W) (H := H) (l := l) ha.1 (Int.le_refl _)
  obtain ⟨-, b2, -⟩ := mnN_spec (W := W) (H := H) (l := l) hb.1 (Int.le_refl _)
  rw [e2, el] at a2
  have : doneB W H l b b = true := by
    rw [doneB_iff]
    exact ⟨a, hab, el.symm, by rw [el]; exact a2.trans b2.symm⟩
  rw [hb.2] at this
  cases this
end
section
variable {W H : Nat} {l : List Int} {p : Nat}
theorem nodeL_mem {d : Nat × Nat} : d ∈ nodeL W H l ↔ d.1 < 100 ∧ d.2 < H * W ∧ firstB W H l d.1 d.2 = true ∧ ownB W H l d.1 d.2 = true := ndTo_mem
theorem ndTo_pre : ∀ (a b : Nat), ∃ r, ndTo W H l (a + b) = ndTo W H l a ++ r ∧ ∀ d, d ∈ r → a ≤ d.1
  | a, 0 => ⟨[], by simp, fun d hd => by cases hd⟩
  | a, b + 1 => by
    obtain ⟨r, h1, h2⟩ := ndTo_pre a b
    refine ⟨r ++ lvN W H l (a + b), by rw [← Nat.add_assoc, ndTo_succ, h1, List.append_assoc], fun d hd => ?_⟩
    rw [List.mem_append] at hd
    rcases hd with hd | hd
    · exact h2 d hd
    · rw [lvN_mem] at hd; omega
noncomputable def parN (W H : Nat) (l : List Int) (d : Nat × Nat) : Int := lastIn W H l (ndTo W H l d.1) d.2
/-- The parent as the program tells it. -/
theorem parN_prog {i : Nat} (hi : i < (nodeL W H l).length) :
    lastW (fun k => decide (((nodeL W H l).getD k (0, 0)).1 < ((nodeL W H l).getD i (0, 0)).1) && cnB W H l ((nodeL W H l).getD k (0, 0)).1 ((nodeL W H l).getD k (0, 0)).2 ((nodeL W H l).getD i (0, 0)).2) i = parN W H l ((nodeL W H l).getD i (0, 0)) := by
  have hd := getD_memN hi
  generalize hD : (nodeL W H l).getD i (0, 0) = d at *
  have hd2 := hd
  unfold nodeL at hd2
  rw [ndTo_mem] at hd2
  obtain ⟨r, e, hr⟩ := ndTo_pre (W := W) (H := H) (l := l) d.1 (100 - d.1)
  rw [show d.1 + (100 - d.1) = 100 by omega] at e
  have e' : nodeL W H l = ndTo W H l d.1 ++ r := e
  have hli : (ndTo W H l d.1).length ≤ i := by
    rcases Nat.lt_or_ge i (ndTo W H l d.1).length with h | h
    · rw [e', getD_left h] at hD
      have := getD_memN h
      rw [hD, ndTo_mem] at this
      omega
    · exact h
  rw [lastW_skip hli fun j h1 h2 => ?_]
  · unfold parN lastIn
    refine lastW_congr fun j hj => ?_
    rw [e', getD_left hj]
    have := getD_memN hj
    rw [ndTo_mem] at this
    rw [decide_eq_true this.1, Bool.true_and]
  · have hj : j < (nodeL W H l).length := by omega
    have hm : (nodeL W H l).getD j (0, 0) ∈ r := by
      rw [e', List.getD_eq_getElem?_getD, List.getElem?_append_right h1]
      rw [e', List.length_append] at hj
      rw [List.getElem?_eq_getElem (by omega)]
      exact List.getElem_mem _
    have := hr _ hm
    rw [decide_eq_false (by omega), Bool.false_and]
theorem pairwise_at {xs : List (Nat × Nat)} (h : xs.Pairwise ndLt) {i j : Nat} (hij : i < j) (hj : j < xs.length) : ndLt (xs.getD i (0, 0)) (xs.getD j (0, 0)) := by
  rw [List.pairwise_iff_getElem] at h
  have := h i j (by omega) hj hij
  rw [List.getD_eq_getElem?_getD, List.getD_eq_getElem?_getD, List.getElem?_eq_getElem hj, List.getElem?_eq_getElem (show i < xs.length by omega)]
  exact this
/-- The node of a spot: the one that has its level. -/
theorem node_of (hg : GrL W H l) (hp : p < H * W) : ∃ k, k < (nodeL W H l).length ∧ lastIn W H l (nodeL W H l) p = (k : Int) ∧ (((nodeL W H l).getD k (0, 0)).1 : Int) = l.getD p 0 ∧ cnB W H l ((nodeL W H l).getD k (0, 0)).1 ((nodeL W H l).getD k (0, 0)).2 p = true ∧
    ∀ j, j < (nodeL W H l).length → (((nodeL W H l).getD j (0, 0)).1 : Int) = l.getD p 0 → cnB W H l ((nodeL W H l).getD j (0, 0)).1 ((nodeL W H l).getD j (0, 0)).2 p = true → j = k := by
  obtain ⟨g1, g2⟩ := hg p hp
  have e : ((l.getD p 0).toNat : Int) = l.getD p 0 := by omega
  obtain ⟨a1, a2, a3⟩ := mnN_spec (W := W) (H := H) (l := l) hp (Int.le_refl _)
  have hm : ((l.getD p 0).toNat, mnN W H l (l.getD p 0) p) ∈ nodeL W H l := by
    unfold nodeL
    rw [ndTo_mem]
    simp only [e]
    refine ⟨by omega, by omega, mnN_first hp (Int.le_refl _), ?_⟩
    rw [ownB_iff]
    exact ⟨p, hp, a2.symm, rfl⟩
  obtain ⟨k, hk, ek⟩ := memN_getD hm
  have huniq : ∀ j, j < (nodeL W H l).length → (((nodeL W H l).getD j (0, 0)).1 : Int) = l.getD p 0 → cnB W H l ((nodeL W H l).getD j (0, 0)).1 ((nodeL W H l).getD j (0, 0)).2 p = true → j = k := fun j hj h1 h2 => by
    have hmj := getD_memN hj
    have hnd := nodeL_mem.1 hmj
    rw [cnB_iff] at h2
    have h3 := mnN_of_first hnd.2.1 hnd.2.2.1 hp h2
    have hD : (nodeL W H l).getD j (0, 0) = (nodeL W H l).getD k (0, 0) := by
      rw [ek]
      refine Prod.ext ?_ ?_
      · simp only; omega
      · rw [← h3, h1]
    rcases Nat.lt_trichotomy j k with h | h | h
    · have := pairwise_at (ndTo_sorted (W := W) (H := H) (l := l) 100) h hk
      unfold nodeL at hD
      rw [hD] at this
      exact absurd this ndLt_irrefl
    · exact h
    · have := pairwise_at (ndTo_sorted (W := W) (H := H) (l := l) 100) h hj
      unfold nodeL at hD
      rw [hD] at this
      exact absurd this ndLt_irrefl
  have hck : cnB W H l ((nodeL W H l).getD k (0, 0)).1 ((nodeL W H l).getD k (0, 0)).2 p = true := by
    rw [ek, cnB_iff]
    simp only [e]
    exact a2.symm
  refine ⟨k, hk, ?_, by rw [ek]; exact e, hck, huniq⟩
  unfold lastIn
  refine lastW_at hk hck fun i h1 h2 => ?_
  cases hc : cnB W H l ((nodeL W H l).getD i (0, 0)).1 ((nodeL W H l).getD i (0, 0)).2 p
  · rfl
  · have hs := pairwise_at (ndTo_sorted (W := W) (H := H) (l := l) 100) h1 h2
    have hle := (cnB_iff.1 hc).right hp
    have hge : ((nodeL W H l).getD k (0, 0)).1 ≤ ((nodeL W H l).getD i (0, 0)).1 := by
      unfold ndLt at hs
      unfold nodeL
      omega
    rw [ek] at hge
    simp only at hge
    have := huniq i h2 (by omega) hc
    omega
end
end Go.Proofs.Ytmmanehdmnkekaa
