/- Plain: the nodes of a grey picture. -/
import Derived.Test.YtmmanehdmnkekaaLab
import Derived.Test.YtmmanehdmnkekaaGreyP
namespace Go.Proofs.Ytmmanehdmnkekaa
open Go.RowKit
section
variable {R R' : Int × Int → Bool} {N : Int × Int → List (Int × Int)} {S : List (Int × Int)} {p q r : Int × Int}
theorem rchTrans (h : Rch R N S p) (k : Rch R N [p] q) : Rch R N S q := by
  induction k with
  | start h1 _ => rw [List.mem_singleton] at h1; rw [h1]; exact h
  | step _ h1 h2 ih => exact .step ih h1 h2
theorem rchSymm (hN : ∀ p q, q ∈ N p → p ∈ N q) (h : Rch R N [p] q) : Rch R N [q] p := by
  induction h with
  | start h1 h2 => rw [List.mem_singleton] at h1; subst h1; exact .start (by simp) h2
  | step h0 h1 h2 ih => exact rchTrans (.step (.start (by simp) h2) (hN _ _ h1) h0.right) ih
theorem rchMono (hR : ∀ p, R p = true → R' p = true) (h : Rch R N S p) : Rch R' N S p := by
  induction h with
  | start h1 h2 => exact .start h1 (hR _ h2)
  | step _ h1 h2 ih => exact .step ih h1 (hR _ h2)
theorem rchLeft (h : Rch R N [p] q) : R p = true := by
  induction h with
  | start h1 h2 => rw [List.mem_singleton] at h1; rw [← h1]; exact h2
  | step _ _ _ ih => exact ih
theorem nbA_sym (p q : Int × Int) (h : q ∈ nbA false p) : p ∈ nbA false q := by
  unfold nbA arndL at *
  simp only [Bool.false_eq_true, if_false, List.map_cons, List.map_nil, List.mem_cons, List.not_mem_nil, or_false] at h ⊢
  rcases h with rfl | rfl | rfl | rfl
  · right; right; right; ext <;> simp <;> omega
  · right; right; left; ext <;> simp <;> omega
  · right; left; ext <;> simp <;> omega
  · left; ext <;> simp <;> omega
end
def spN (W k : Nat) : Int × Int := (((k % W : Nat) : Int), ((k / W : Nat) : Int))
def lvR (W H : Nat) (l : List Int) (t : Int) (p : Int × Int) : Bool := hasB W H p.1 p.2 && decide (t ≤ nbV W l p.1 p.2)
def Cn (W H : Nat) (l : List Int) (t : Int) (j k : Nat) : Prop := Rch (lvR W H l t) (nbA false) [spN W j] (spN W k)
noncomputable def cnB (W H : Nat) (l : List Int) (t : Int) (j k : Nat) : Bool := @decide (Cn W H l t j k) (Classical.propDecidable _)
section
variable {W H : Nat} {l : List Int} {t t' : Int} {i j k : Nat}
theorem cnB_iff : cnB W H l t j k = true ↔ Cn W H l t j k := by unfold cnB; exact @decide_eq_true_iff _ (Classical.propDecidable _)
theorem cnB_not : cnB W H l t j k = false ↔ ¬ Cn W H l t j k := by rw [← cnB_iff]; simp
theorem lvR_at (hk : k < H * W) : lvR W H l t (spN W k) = decide (t ≤ l.getD k 0) := by
  have hW : 0 < W := Nat.pos_of_ne_zero fun e => by rw [e] at hk; simp at hk
  have h1 : k % W < W := Nat.mod_lt _ hW
  have h2 : k / W < H := by rw [Nat.div_lt_iff_lt_mul hW]; exact hk
  unfold lvR spN
  have e1 : hasB W H ((k % W : Nat) : Int) ((k / W : Nat) : Int) = true := by rw [hasB_true]; exact ⟨Int.natCast_nonneg _, Int.ofNat_lt.2 h1, Int.natCast_nonneg _, Int.ofNat_lt.2 h2⟩
  have e2 : nbV W l ((k % W : Nat) : Int) ((k / W : Nat) : Int) = l.getD k 0 := by
    unfold nbV
    rw [show (((k / W : Nat) : Int) * (W : Int) + ((k % W : Nat) : Int)).toNat = k by rw [← Int.natCast_mul, ← Int.natCast_add, Int.toNat_natCast, Nat.mul_comm]; exact Nat.div_add_mod _ _]
  simp only [e1, e2, Bool.true_and]
theorem lvR_box {p : Int × Int} (h : lvR W H l t p = true) : ∃ k, k < H * W ∧ p = spN W k := by
  unfold lvR at h
  rw [Bool.and_eq_true, hasB_true] at h
  obtain ⟨⟨h1, h2, h3, h4⟩, -⟩ := h
  refine ⟨p.2.toNat * W + p.1.toNat, ?_, ?_⟩
  · have : p.2.toNat + 1 ≤ H := by omega
    have h5 := Nat.mul_le_mul_right W this
    rw [Nat.succ_mul] at h5
    omega
  · have hx : p.1.toNat < W := by omega
    unfold spN
    rw [Nat.mul_comm p.2.toNat W, Nat.mul_add_mod, Nat.mod_eq_of_lt hx, Nat.mul_add_div (by omega), Nat.div_eq_of_lt hx]
    ext <;> simp <;> omega
theorem Cn.symm (h : Cn W H l t j k) : Cn W H l t k j := rchSymm nbA_sym h
theorem Cn.trans (h : Cn W H l t i j) (h' : Cn W H l t j k) : Cn W H l t i k := rchTrans h h'
theorem Cn.mono (h : Cn W H l t j k) (ht : t' ≤ t) : Cn W H l t' j k := rchMono (fun p hp => by
  unfold lvR at *
  rw [Bool.and_eq_true, decide_eq_true_iff] at *
  exact ⟨hp.1, by omega⟩) h
theorem Cn.right (h : Cn W H l t j k) (hk : k < H * W) : t ≤ l.getD k 0 := by
  have := Rch.right h
  rw [lvR_at hk, decide_eq_true_iff] at this
  exact this
theorem Cn.refl (hk : k < H * W) (ht : t ≤ l.getD k 0) : Cn W H l t k k := .start (by simp) (by rw [lvR_at hk, decide_eq_true_iff]; exact ht)
theorem Cn.left (h : Cn W H l t j k) (hj : j < H * W) : t ≤ l.getD j 0 := h.symm.right hj
theorem Cn.cls (h : Cn W H l t i j) : cnB W H l t i k = cnB W H l t j k := by
  rw [Bool.eq_iff_iff, cnB_iff, cnB_iff]
  exact ⟨fun h' => h.symm.trans h', fun h' => h.trans h'⟩
end
/-- The least spot of a part. -/
noncomputable def mnN (W H : Nat) (l : List Int) (t : Int) (j : Nat) : Nat := ((List.range (H * W)).find? (cnB W H l t j)).getD 0
noncomputable def firstB (W H : Nat) (l : List Int) (t : Int) (q : Nat) : Bool := decide (t ≤ l.getD q 0) && (List.range q).all fun j => !cnB W H l t q j
noncomputable def ownB (W H : Nat) (l : List Int) (t : Int) (q : Nat) : Bool := (List.range (H * W)).any fun s => cnB W H l t q s && decide (l.getD s 0 = t)
noncomputable def lvN (W H : Nat) (l : List Int) (t : Nat) : List (Nat × Nat) := ((List.range (H * W)).filter fun q => firstB W H l t q && ownB W H l t q).map fun q => (t, q)
noncomputable def ndTo (W H : Nat) (l : List Int) (t : Nat) : List (Nat × Nat) := (List.range t).flatMap (lvN W H l)
noncomputable def nodeL (W H : Nat) (l : List Int) : List (Nat × Nat) := ndTo W H l 100
section
variable {W H : Nat} {l : List Int} {t : Nat} {q : Nat}
theorem firstB_iff {t : Int} : firstB W H l t q = true ↔ t ≤ l.getD q 0 ∧ ∀ j, j < q → ¬ Cn W H l t q j := by
  unfold firstB
  rw [Bool.and_eq_true, decide_eq_true_iff, List.all_eq_true]
  refine and_congr Iff.rfl ⟨fun h j hj => ?_, fun h j hj => ?_⟩
  · have := h j (List.mem_range.2 hj)
    rw [Bool.not_eq_true', cnB_not] at this
    exact this
  · rw [Bool.not_eq_true', cnB_not]
    exact h j (List.mem_range.1 hj)
theorem ownB_iff {t : Int} : ownB W H l t q = true ↔ ∃ s, s < H * W ∧ Cn W H l t q s ∧ l.getD s 0 = t := by
  unfold ownB
  rw [List.any_eq_true]
  constructor
  · rintro ⟨s, h1, h2⟩
    rw [Bool.and_eq_true, cnB_iff, decide_eq_true_iff] at h2
    exact ⟨s, List.mem_range.1 h1, h2⟩
  · rintro ⟨s, h1, h2⟩
    exact ⟨s, List.mem_range.2 h1, by rw [Bool.and_eq_true, cnB_iff, decide_eq_true_iff]; exact h2⟩
theorem lvN_mem {d : Nat × Nat} : d ∈ lvN W H l t ↔ d.1 = t ∧ d.2 < H * W ∧ firstB W H l t d.2 = true ∧ ownB W H l t d.2 = true := by
  unfold lvN
  rw [List.mem_map]
  constructor
  · rintro ⟨q, hq, rfl⟩
    rw [List.mem_filter, List.mem_range, Bool.and_eq_true] at hq
    exact ⟨rfl, hq.1, hq.2⟩
  · rintro ⟨h1, h2, h3⟩
    exact ⟨d.2, by rw [List.mem_filter, List.mem_range, Bool.and_eq_true]; exact ⟨h2, h3⟩, by rw [← h1]⟩
theorem ndTo_mem {d : Nat × Nat} : d ∈ ndTo W H l t ↔ d.1 < t ∧ d.2 < H * W ∧ firstB W H l d.1 d.2 = true ∧ ownB W H l d.1 d.2 = true := by
  unfold ndTo
  rw [List.mem_flatMap]
  constructor
  · rintro ⟨a, h1, h2⟩
    rw [List.mem_range] at h1
    rw [lvN_mem] at h2
    obtain ⟨rfl, h⟩ := h2
    exact ⟨h1, h⟩
  · rintro ⟨h1, h⟩
    exact ⟨d.1, List.mem_range.2 h1, lvN_mem.2 ⟨rfl, h⟩⟩
theorem ndTo_succ : ndTo W H l (t + 1) = ndTo W H l t ++ lvN W H l t := by unfold ndTo; rw [List.range_succ, List.flatMap_append]; simp
/-- In order: by levels, then by spots. -/
def ndLt (a b : Nat × Nat) : Prop := a.1 < b.1 ∨ (a.1 = b.1 ∧ a.2 < b.2)
theorem lvN_sorted : (lvN W H l t).Pairwise ndLt := by
  unfold lvN
  rw [List.pairwise_map]
  exact List.Pairwise.imp (fun h => .inr ⟨rfl, h⟩) (List.Pairwise.filter _ List.pairwise_lt_range)
theorem ndTo_sorted : ∀ t, (ndTo W H l t).Pairwise ndLt
  | 0 => List.Pairwise.nil
  | t + 1 => by
    rw [ndTo_succ, List.pairwise_append]
    refine ⟨ndTo_sorted t, lvN_sorted, fun a ha b hb => .inl ?_⟩
    rw [ndTo_mem] at ha
    rw [lvN_mem] at hb
    omega
theorem ndLt_irrefl {a : Nat × Nat} : ¬ ndLt a a := fun h => by unfold ndLt at h; omega
theorem ndLt_trans {a b c : Nat × Nat} (h : ndLt a b) (h' : ndLt b c) : ndLt a c := by unfold ndLt at *; omega
/-- Lists in order that have the same members are the same. -/
theorem sorted_same : ∀ (a b : List (Nat × Nat)), a.Pairwise ndLt → b.Pairwise ndLt → (∀ d, d ∈ a ↔ d ∈ b) → a = b
  | [], [], _, _, _ => rfl
  | [], b :: bl, _, _, h => by have := (h b).2 (by simp); cases this
  | a :: al, [], _, _, h => by have := (h a).1 (by simp); cases this
  | a :: al, b :: bl, ha, hb, h => by
    rw [List.pairwise_cons] at ha hb
    have e : a = b := by
      have h1 := (h a).1 (by simp)
      have h2 := (h b).2 (by simp)
      rw [List.mem_cons] at h1 h2
      rcases h1 with h1 | h1
      · exact h1
      · rcases h2 with h2 | h2
        · exact h2.symm
        · exact absurd (ndLt_trans (ha.1 b h2) (hb.1 a h1)) ndLt_irrefl
    subst e
    rw [sorted_same al bl ha.2 hb.2 fun d => ⟨fun hd => ?_, fun hd => ?_⟩]
    · have := (h d).1 (by simp [hd])
      rw [List.mem_cons] at this
      rcases this with rfl | this
      · exact absurd (ha.1 _ hd) ndLt_irrefl
      · exact this
    · have := (h d).2 (by simp [hd])
      rw [List.mem_cons] at this
      rcases this with rfl | this
      · exact absurd (hb.1 _ hd) ndLt_irrefl
      · exact this
end
/-- The last number below k of which something holds, or -1. -/
def lastW (c : Nat → Bool) : Nat → Int
  | 0 => -1
  | k + 1 => if c k = true then (k : Int) else lastW c k
theorem lastW_congr {c c' : Nat → Bool} : ∀ {k : Nat}, (∀ j, j < k → c j = c' j) → lastW c k = lastW c' k
  | 0, _ => rfl
  | k + 1, h => by
    unfold lastW
    rw [h k (by omega), lastW_congr fun j hj => h j (by omega)]
theorem lastW_skip {c : Nat → Bool} {a : Nat} : ∀ {b : Nat}, a ≤ b → (∀ j, a ≤ j → j < b → c j = false) → lastW c b = lastW c a
  | 0, h, _ => by rw [show a = 0 by omega]
  | b + 1, h, hc => by
    by_cases e : a = b + 1
    · rw [e]
    · rw [← lastW_skip (b := b) (by omega) fun j h1 h2 => hc j h1 (by omega)]
      conv => lhs; unfold lastW
      rw [hc b (by omega) (by omega)]
      rfl
theorem lastW_spec (c : Nat → Bool) : ∀ k, (lastW c k = -1 ∧ ∀ j, j < k → c j = false) ∨ ∃ j, j < k ∧ lastW c k = (j : Int) ∧ c j = true ∧ ∀ i, j < i → i < k → c i = false
  | 0 => .inl ⟨rfl, fun j hj => by omega⟩
  | k + 1 => by
    unfold lastW
    cases hc : c k
    · rw [if_neg (by simp)]
      rcases lastW_spec c k with ⟨h1, h2⟩ | ⟨j, h1, h2, h3, h4⟩
      · refine .inl ⟨h1, fun j hj => ?_⟩
        by_cases e : j = k
        · rw [e]; exact hc
        · exact h2 j (by omega)
      · refine .inr ⟨j, by omega, h2, h3, fun i hi1 hi2 => ?_⟩
        by_cases e : i = k
        · rw [e]; exact hc
        · exact h4 i hi1 (by omega)
    · rw [if_pos rfl]
      exact .inr ⟨k, by omega, rfl, hc, fun i h1 h2 => by omega⟩
theorem lastW_at {c : Nat → Bool} {j k : Nat} (h1 : j < k) (h2 : c j = true) (h3 : ∀ i, j < i → i < k → c i = false) : lastW c k = (j : Int) := by
  rw [lastW_skip (a := j + 1) (by omega) fun i h4 h5 => h3 i (by omega) h5]
  unfold lastW
  rw [if_pos h2]
theorem lastW_lo (c : Nat → Bool) (k : Nat) : -1 ≤ lastW c k ∧ lastW c k < (k : Int) := by
  rcases lastW_spec c k with ⟨h1, h2⟩ | ⟨j, h1, h2, h3, h4⟩ <;> omega
/-- The last of some nodes that has a spot. -/
noncomputable def lastIn (W H : Nat) (l : List Int) (nds : List (Nat × Nat)) (p : Nat) : Int := lastW (fun k => cnB W H l (nds.getD k (0, 0)).1 (nds.getD k (0, 0)).2 p) nds.length
section
variable {W H : Nat} {l : List Int}
theorem getD_left {nds ms : List (Nat × Nat)} {k : Nat} (h : k < nds.length) : (nds ++ ms).getD k (0, 0) = nds.getD k (0, 0) := by
  rw [List.getD_eq_getElem?_getD, List.getD_eq_getElem?_getD, List.getElem?_append_left h]
theorem getD_last {nds : List (Nat × Nat)} {d : Nat × Nat} : (nds ++ [d]).getD nds.length (0, 0) = d := by
  rw [List.getD_eq_getElem?_getD, List.getElem?_append_right (Nat.le_refl _), Nat.sub_self]
  rfl
theorem getD_memN {nds : List (Nat × Nat)} {k : Nat} (h : k < nds.length) : nds.getD k (0, 0) ∈ nds := by
  rw [List.getD_eq_getElem?_getD, List.getElem?_eq_getElem h]
  exact List.getElem_mem h
theorem memN_getD {nds : List (Nat × Nat)} {d : Nat × Nat} (h : d ∈ nds) : ∃ k, k < nds.length ∧ nds.getD k (0, 0) = d := by
  obtain ⟨k, hk, e⟩ := List.mem_iff_getElem.1 h
  exact ⟨k, hk, by rw [List.getD_eq_getElem?_getD, List.getElem?_eq_getElem hk]; exact e⟩
theorem lastIn_snoc (nds : List (Nat × Nat)) (d : Nat × Nat) (p : Nat) : lastIn W H l (nds ++ [d]) p = if cnB W H l d.1 d.2 p = true then (nds.length : Int) else lastIn W H l nds p := by
  unfold lastIn
  rw [List.length_append, List.length_singleton]
  conv => lhs; unfold lastW
  rw [getD_last, lastW_congr (c' := fun k => cnB W H l (nds.getD k (0, 0)).1 (nds.getD k (0, 0)).2 p) fun j hj => by rw [getD_left hj]]
theorem lastIn_pre {nds ms : List (Nat × Nat)} {p : Nat} : lastW (fun k => cnB W H l ((nds ++ ms).getD k (0, 0)).1 ((nds ++ ms).getD k (0, 0)).2 p) nds.length = lastIn W H l nds p :=
  lastW_congr fun j hj => by rw [getD_left hj]
end
end Go.Proofs.Ytmmanehdmnkekaa
