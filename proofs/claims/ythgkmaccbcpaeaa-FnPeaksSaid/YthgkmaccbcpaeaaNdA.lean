/- Rows of integers that grow, apart from each other. -/
import Derived.Test.YthgkmaccbcpaeaaKit
import Derived.Test.YthgkmaccbcpaeaaLab
import Derived.Test.YthgkmaccbcpaeaaGreyP
namespace Go.Proofs.Ythgkmaccbcpaeaa
open Go Go.RowKit
def iv (z : Int) : Value := .int .i64 z
abbrev GrI (lo : Nat) (w : World) (v : Value) (xs : List Int) : Prop := GrowOf iv lo 2 w v xs
/-- Rows apart. -/
def ApV (v u : Value) : Prop := ∀ k, v.ownBlock = some k → u.ownBlock ≠ some k
theorem ApV.symm {v u : Value} (h : ApV v u) : ApV u v := fun k h1 h2 => h k h2 h1
theorem GrI.lt {lo : Nat} {w : World} {v : Value} {xs : List Int} (h : GrI lo w v xs) {k : Nat} (hk : v.ownBlock = some k) : lo ≤ k ∧ k < w.heap.size := h.block hk
theorem GrI.ne {lo : Nat} {w : World} {v u : Value} {xs : List Int} (_ : GrI lo w v xs) (ha : ApV v u) : v.ownBlock = none ∨ v.ownBlock ≠ u.ownBlock := by
  cases hv : v.ownBlock with
  | none => exact .inl rfl
  | some k => exact .inr fun e => ha k hv e.symm
theorem apV_at {v u v' : Value} {n : Nat} (h : ApV v u) (hu : ∀ k, u.ownBlock = some k → k < n) (hat : v'.ownBlock = v.ownBlock ∨ v'.ownBlock = some n) : ApV v' u := by
  intro k hk hk2
  rcases hat with e | e
  · exact h k (by rw [← e]; exact hk) hk2
  · rw [e] at hk
    cases hk
    exact Nat.lt_irrefl _ (hu _ hk2)
end Go.Proofs.Ythgkmaccbcpaeaa

/- Plain: the nodes of a grey picture. -/
namespace Go.Proofs.Ythgkmaccbcpaeaa
open Go.RowKit
section
variable {R R' : Int × Int → Bool} {N : Int × Int → List (Int × Int)} {S : List (Int × Int)} {p q r : Int × Int}
theorem rchTrans (h : Rch R N S p) (k : Rch R N [p] q) : Rch R N S q := by
  induction k with
  | start h1 _ => rw [List.mem_singleton] at h1; rw [h1]; exact h
  | step _ h1 h2 ih => exact .step ih h1 h2
theorem rchSymm (hN : ∀ p q, q ∈ N p → p ∈ N q) (h : Rch R N [p] q) : Rch R N [q] p := by
  induction h with
  | start h1 h2 => rw [List.mem_singleton] at h1; subst h1; exact .start (by simp) h2
  | step h0 h1 h2 ih => exact rchTrans (.step (.start (by simp) h2) (hN _ _ h1) h0.right) ih
theorem rchMono (hR : ∀ p, R p = true → R' p = true) (h : Rch R N S p) : Rch R' N S p := by
  induction h with
  | start h1 h2 => exact .start h1 (hR _ h2)
  | step _ h1 h2 ih => exact .step ih h1 (hR _ h2)
theorem rchLeft (h : Rch R N [p] q) : R p = true := by
  induction h with
  | start h1 h2 => rw [List.mem_singleton] at h1; rw [← h1]; exact h2
  | step _ _ _ ih => exact ih
theorem nbA_sym (p q : Int × Int) (h : q ∈ nbA false p) : p ∈ nbA false q := by
  unfold nbA arndL at *
  simp only [Bool.false_eq_true, if_false, List.map_cons, List.map_nil, List.mem_cons, List.not_mem_nil, or_false] at h ⊢
  rcases h with rfl | rfl | rfl | rfl
  · right; right; right; ext <;> simp <;> omega
  · right; right; left; ext <;> simp <;> omega
  · right; left; ext <;> simp <;> omega
  · left; ext <;> simp <;> omega
end
def spN (W k : Nat) : Int × Int := (((k % W : Nat) : Int), ((k / W : Nat) : Int))
def lvR (W H : Nat) (l : List Int) (t : Int) (p : Int × Int) : Bool := hasB W H p.1 p.2 && decide (t ≤ nbV W l p.1 p.2)
def Cn (W H : Nat) (l : List Int) (t : Int) (j k : Nat) : Prop := Rch (lvR W H l t) (nbA false) [spN W j] (spN W k)
noncomputable def cnB (W H : Nat) (l : List Int) (t : Int) (j k : Nat) : Bool := @decide (Cn W H l t j k) (Classical.propDecidable _)
section
variable {W H : Nat} {l : List Int} {t t' : Int} {i j k : Nat}
theorem cnB_iff : cnB W H l t j k = true ↔ Cn W H l t j k := by unfold cnB; exact @decide_eq_true_iff _ (Classical.propDecidable _)
theorem cnB_not : cnB W H l t j k = false ↔ ¬ Cn W H l t j k := by rw [← cnB_iff]; simp
theorem lvR_at (hk : k < H * W) : lvR W H l t (spN W k) = decide (t ≤ l.getD k 0) := by
  have hW : 0 < W := Nat.pos_of_ne_zero fun e => by rw [e] at hk; simp at hk
  have h1 : k % W < W := Nat.mod_lt _ hW
  have h2 : k / W < H := by rw [Nat.div_lt_iff_lt_mul hW]; exact hk
  unfold lvR spN
  have e1 : hasB W H ((k % W : Nat) : Int) ((k / W : Nat) : Int) = true := by rw [hasB_true]; exact ⟨Int.natCast_nonneg _, Int.ofNat_lt.2 h1, Int.natCast_nonneg _, Int.ofNat_lt.2 h2⟩
  have e2 : nbV W l ((k % W : Nat) : Int) ((k / W : Nat) : Int) = l.getD k 0 := by
    unfold nbV
    rw [show (((k / W : Nat) : Int) * (W : Int) + ((k % W : Nat) : Int)).toNat = k by rw [← Int.natCast_mul, ← Int.natCast_add, Int.toNat_natCast, Nat.mul_comm]; exact Nat.div_add_mod _ _]
  simp only [e1, e2, Bool.true_and]
theorem lvR_box {p : Int × Int} (h : lvR W H l t p = true) : ∃ k, k < H * W ∧ p = spN W k := by
  unfold lvR at h
  rw [Bool.and_eq_true, hasB_true] at h
  obtain ⟨⟨h1, h2, h3, h4⟩, -⟩ := h
  refine ⟨p.2.toNat * W + p.1.toNat, ?_, ?_⟩
  · have : p.2.toNat + 1 ≤ H := by omega
    have h5 := Nat.mul_le_mul_right W this
    rw [Nat.succ_mul] at h5
    omega
  · have hx : p.1.toNat < W := by omega
    unfold spN
    rw [Nat.mul_comm p.2.toNat W, Nat.mul_add_mod, Nat.mod_eq_of_lt hx, Nat.mul_add_div (by omega), Nat.div_eq_of_lt hx]
    ext <;> simp <;> omega
theorem Cn.symm (h : Cn W H l t j k) : Cn W H l t k j := rchSymm nbA_sym h
theorem Cn.trans (h : Cn W H l t i j) (h' : Cn W H l t j k) : Cn W H l t i k := rchTrans h h'
theorem Cn.mono (h : Cn W H l t j k) (ht : t' ≤ t) : Cn W H l t' j k := rchMono (fun p hp => by
  unfold lvR at *
  rw [Bool.and_eq_true, decide_eq_true_iff] at *
  exact ⟨hp.1, by omega⟩) h
theorem Cn.right (h : Cn W H l t j k) (hk : k < H * W) : t ≤ l.getD k 0 := by
  have := Rch.right h
  rw [lvR_at hk, decide_eq_true_iff] at this
  exact this
theorem Cn.refl (hk : k < H * W) (ht : t ≤ l.getD k 0) : Cn W H l t k k := .start (by simp) (by rw [lvR_at hk, decide_eq_true_iff]; exact ht)
theorem Cn.left (h : Cn W H l t j k) (hj : j < H * W) : t ≤ l.getD j 0 := h.symm.right hj
theorem Cn.cls (h : Cn W H l t i j) : cnB W H l t i k = cnB W H l t j k := by
  rw [Bool.eq_iff_iff, cnB_iff, cnB_iff]
  exact ⟨fun h' => h.symm.trans h', fun h' => h.trans h'⟩
end
/-- The least spot of a part. -/
noncomputable def mnN (W H : Nat) (l : List Int) (t : Int) (j : Nat) : Nat := ((List.range (H * W)).find? (cnB W H l t j)).getD 0
noncomputable def firstB (W H : Nat) (l : List Int) (t : Int) (q : Nat) : Bool := decide (t ≤ l.getD q 0) && (List.range q).all fun j => !cnB W H l t q j
noncomputable def ownB (W H : Nat) (l : List Int) (t : Int) (q : Nat) : Bool := (List.range (H * W)).any fun s => cnB W H l t q s && decide (l.getD s 0 = t)
noncomputable def lvN (W H : Nat) (l : List Int) (t : Nat) : List (Nat × Nat) := ((List.range (H * W)).filter fun q => firstB W H l t q && ownB W H l t q).map fun q => (t, q)
noncomputable def ndTo (W H : Nat) (l : List Int) (t : Nat) : List (Nat × Nat) := (List.range t).flatMap (lvN W H l)
noncomputable def nodeL (W H : Nat) (l : List Int) : List (Nat × Nat) := ndTo W H l 100
section
variable {W H : Nat} {l : List Int} {t : Nat} {q : Nat}
theorem firstB_iff {t : Int} : firstB W H l t q = true ↔ t ≤ l.getD q 0 ∧ ∀ j, j < q → ¬ Cn W H l t q j := by
  unfold firstB
  rw [Bool.and_eq_true, decide_eq_true_iff, List.all_eq_true]
  refine and_congr Iff.rfl ⟨fun h j hj => ?_, fun h j hj => ?_⟩
  · have := h j (List.mem_range.2 hj)
    rw [Bool.not_eq_true', cnB_not] at this
    exact this
  · rw [Bool.not_eq_true', cnB_not]
    exact h j (List.mem_range.1 hj)
theorem ownB_iff {t : Int} : ownB W H l t q = true ↔ ∃ s, s < H * W ∧ Cn W H l t q s ∧ l.getD s 0 = t := by
  unfold ownB
  rw [List.any_eq_true]
  constructor
  · rintro ⟨s, h1, h2⟩
    rw [Bool.and_eq_true, cnB_iff, decide_eq_true_iff] at h2
    exact ⟨s, List.mem_range.1 h1, h2⟩
  · rintro ⟨s, h1, h2⟩
    exact ⟨s, List.mem_range.2 h1, by rw [Bool.and_eq_true, cnB_iff, decide_eq_true_iff]; exact h2⟩
theorem lvN_mem {d : Nat × Nat} : d ∈ lvN W H l t ↔ d.1 = t ∧ d.2 < H * W ∧ firstB W H l t d.2 = true ∧ ownB W H l t d.2 = true := by
  unfold lvN
  rw [List.mem_map]
  constructor
  · rintro ⟨q, hq, rfl⟩
    rw [List.mem_filter, List.mem_range, Bool.and_eq_true] at hq
    exact ⟨rfl, hq.1, hq.2⟩
  · rintro ⟨h1, h2, h3⟩
    exact ⟨d.2, by rw [List.mem_filter, List.mem_range, Bool.and_eq_true]; exact ⟨h2, h3⟩, by rw [← h1]⟩
theorem ndTo_mem {d : Nat × Nat} : d ∈ ndTo W H l t ↔ d.1 < t ∧ d.2 < H * W ∧ firstB W H l d.1 d.2 = true ∧ ownB W H l d.1 d.2 = true := by
  unfold ndTo
  rw [List.mem_flatMap]
  constructor
  · rintro ⟨a, h1, h2⟩
    rw [List.mem_range] at h1
    rw [lvN_mem] at h2
    obtain ⟨rfl, h⟩ := h2
    exact ⟨h1, h⟩
  · rintro ⟨h1, h⟩
    exact ⟨d.1, List.mem_range.2 h1, lvN_mem.2 ⟨rfl, h⟩⟩
theorem ndTo_succ : ndTo W H l (t + 1) = ndTo W H l t ++ lvN W H l t := by unfold ndTo; rw [List.range_succ, List.flatMap_append]; simp
/-- In order: by levels, then by spots. -/
def ndLt (a b : Nat × Nat) : Prop := a.1 < b.1 ∨ (a.1 = b.1 ∧ a.2 < b.2)
theorem lvN_sorted : (lvN W H l t).Pairwise ndLt := by
  unfold lvN
  rw [List.pairwise_map]
  exact List.Pairwise.imp (fun h => .inr ⟨rfl, h⟩) (List.Pairwise.filter _ List.pairwise_lt_range)
theorem ndTo_sorted : ∀ t, (ndTo W H l t).Pairwise ndLt
  | 0 => List.Pairwise.nil
  | t + 1 => by
    rw [ndTo_succ, List.pairwise_append]
    refine ⟨ndTo_sorted t, lvN_sorted, fun a ha b hb => .inl ?_⟩
    rw [ndTo_mem] at ha
    rw [lvN_mem] at hb
    omega
theorem ndLt_irrefl {a : Nat × Nat} : ¬ ndLt a a := fun h => by unfold ndLt at h; omega
theorem ndLt_trans {a b c : Nat × Nat} (h : ndLt a b) (h' : ndLt b c) : ndLt a c := by unfold ndLt at *; omega
/-- Lists in order that have the same members are the same. -/
theorem sorted_same : ∀ (a b : List (Nat × Nat)), a.Pairwise ndLt → b.Pairwise ndLt → (∀ d, d ∈ a ↔ d ∈ b) → a = b
  | [], [], _, _, _ => rfl
  | [], b :: bl, _, _, h => by have := (h b).2 (by simp); cases this
  | a :: al, [], _, _, h => by have := (h a).1 (by simp); cases this
  | a :: al, b :: bl, ha, hb, h => by
    rw [List.pairwise_cons] at ha hb
    have e : a = b := by
      have h1 := (h a).1 (by simp)
      have h2 := (h b).2 (by simp)
      rw [List.mem_cons] at h1 h2
      rcases h1 with h1 | h1
      · exact h1
      · rcases h2 with h2 | h2
        · exact h2.symm
        · exact absurd (ndLt_trans (ha.1 b h2) (hb.1 a h1)) ndLt_irrefl
    subst e
    rw [sorted_same al bl ha.2 hb.2 fun d => ⟨fun hd => ?_, fun hd => ?_⟩]
    · have := (h d).1 (by simp [hd])
      rw [List.mem_cons] at this
      rcases this with rfl | this
      · exact absurd (ha.1 _ hd) ndLt_irrefl
      · exact this
    · have := (h d).2 (by simp [hd])
      rw [List.mem_cons] at this
      rcases this with rfl | this
      · exact absurd (hb.1 _ hd) ndLt_irrefl
      · exact this
end
/-- The last number below k of which something holds, or -1. -/
def lastW (c : Nat → Bool) : Nat → Int
  | 0 => -1
  | k + 1 => if c k = true then (k : Int) else lastW c k
theorem lastW_congr {c c' : Nat → Bool} : ∀ {k : Nat}, (∀ j, j < k → c j = c' j) → lastW c k = lastW c' k
  | 0, _ => rfl
  | k + 1, h => by
    unfold lastW
    rw [h k (by omega), lastW_congr fun j hj => h j (by omega)]
theorem lastW_skip {c : Nat → Bool} {a : Nat} : ∀ {b : Nat}, a ≤ b → (∀ j, a ≤ j → j < b → c j = false) → lastW c b = lastW c a
  | 0, h, _ => by rw [show a = 0 by omega]
  | b + 1, h, hc => by
    by_cases e : a = b + 1
    · rw [e]
    · rw [← lastW_skip (b := b) (by omega) fun j h1 h2 => hc j h1 (by omega)]
      conv => lhs; unfold lastW
      rw [hc b (by omega) (by omega)]
      rfl
theorem lastW_spec (c : Nat → Bool) : ∀ k, (lastW c k = -1 ∧ ∀ j, j < k → c j = false) ∨ ∃ j, j < k ∧ lastW c k = (j : Int) ∧ c j = true ∧ ∀ i, j < i → i < k → c i = false
  | 0 => .inl ⟨rfl, fun j hj => by omega⟩
  | k + 1 => by
    unfold lastW
    cases hc : c k
    · rw [if_neg (by simp)]
      rcases lastW_spec c k with ⟨h1, h2⟩ | ⟨j, h1, h2, h3, h4⟩
      · refine .inl ⟨h1, fun j hj => ?_⟩
        by_cases e : j = k
        · rw [e]; exact hc
        · exact h2 j (by omega)
      · refine .inr ⟨j, by omega, h2, h3, fun i hi1 hi2 => ?_⟩
        by_cases e : i = k
        · rw [e]; exact hc
        · exact h4 i hi1 (by omega)
    · rw [if_pos rfl]
      exact .inr ⟨k, by omega, rfl, hc, fun i h1 h2 => by omega⟩
theorem lastW_at {c : Nat → Bool} {j k : Nat} (h1 : j < k) (h2 : c j = true) (h3 : ∀ i, j < i → i < k → c i = false) : lastW c k = (j : Int) := by
  rw [lastW_skip (a := j + 1) (by omega) fun i h4 h5 => h3 i (by omega) h5]
  unfold lastW
  rw [if_pos h2]
theorem lastW_lo (c : Nat → Bool) (k : Nat) : -1 ≤ lastW c k ∧ lastW c k < (k : Int) := by
  rcases lastW_spec c k with ⟨h1, h2⟩ | ⟨j, h1, h2, h3, h4⟩ <;> omega
/-- The last of some nodes that has a spot. -/
noncomputable def lastIn (W H : Nat) (l : List Int) (nds : List (Nat × Nat)) (p : Nat) : Int := lastW (fun k => cnB W H l (nds.getD k (0, 0)).1 (nds.getD k (0, 0)).2 p) nds.length
section
variable {W H : Nat} {l : List Int}
theorem getD_left {nds ms : List (Nat × Nat)} {k : Nat} (h : k < nds.length) : (nds ++ ms).getD k (0, 0) = nds.getD k (0, 0) := by
  rw [List.getD_eq_getElem?_getD, List.getD_eq_getElem?_getD, List.getElem?_append_left h]
theorem getD_last {nds : List (Nat × Nat)} {d : Nat × Nat} : (nds ++ [d]).getD nds.length (0, 0) = d := by
  rw [List.getD_eq_getElem?_getD, List.getElem?_append_right (Nat.le_refl _), Nat.sub_self]
  rfl
theorem getD_memN {nds : List (Nat × Nat)} {k : Nat} (h : k < nds.length) : nds.getD k (0, 0) ∈ nds := by
  rw [List.getD_eq_getElem?_getD, List.getElem?_eq_getElem h]
  exact List.getElem_mem h
theorem memN_getD {nds : List (Nat × Nat)} {d : Nat × Nat} (h : d ∈ nds) : ∃ k, k < nds.length ∧ nds.getD k (0, 0) = d := by
  obtain ⟨k, hk, e⟩ := List.mem_iff_getElem.1 h
  exact ⟨k, hk, by rw [List.getD_eq_getElem?_getD, List.getElem?_eq_getElem hk]; exact e⟩
theorem lastIn_snoc (nds : List (Nat × Nat)) (d : Nat × Nat) (p : Nat) : lastIn W H l (nds ++ [d]) p = if cnB W H l d.1 d.2 p = true then (nds.length : Int) else lastIn W H l nds p := by
  unfold lastIn
  rw [List.length_append, List.length_singleton]
  conv => lhs; unfold lastW
  rw [getD_last, lastW_congr (c' := fun k => cnB W H l (nds.getD k (0, 0)).1 (nds.getD k (0, 0)).2 p) fun j hj => by rw [getD_left hj]]
theorem lastIn_pre {nds ms : List (Nat × Nat)} {p : Nat} : lastW (fun k => cnB W H l ((nds ++ ms).getD k (0, 0)).1 ((nds ++ ms).getD k (0, 0)).2 p) nds.length = lastIn W H l nds p :=
  lastW_congr fun j hj => by rw [getD_left hj]
end
end Go.Proofs.Ythgkmaccbcpaeaa

/- Plain: how the program finds the nodes, and what it makes of them. -/
namespace Go.Proofs.Ythgkmaccbcpaeaa
open Go.RowKit
noncomputable def doneB (W H : Nat) (l : List Int) (k q : Nat) : Bool := (List.range k).any fun i => decide (l.getD q 0 = l.getD i 0) && cnB W H l (l.getD i 0) i q
noncomputable def foundTo (W H : Nat) (l : List Int) (k : Nat) : List (Nat × Nat) := ((List.range k).filter fun j => !doneB W H l j j).map fun j => ((l.getD j 0).toNat, mnN W H l (l.getD j 0) j)
/-- Numbers of a grey picture. -/
def GrL (W H : Nat) (l : List Int) : Prop := ∀ k, k < H * W → 0 ≤ l.getD k 0 ∧ l.getD k 0 ≤ 99
section
variable {W H : Nat} {l : List Int} {j k q : Nat} {t : Int}
theorem doneB_iff : doneB W H l k q = true ↔ ∃ i, i < k ∧ l.getD q 0 = l.getD i 0 ∧ Cn W H l (l.getD i 0) i q := by
  unfold doneB
  rw [List.any_eq_true]
  constructor
  · rintro ⟨i, h1, h2⟩
    rw [Bool.and_eq_true, cnB_iff, decide_eq_true_iff] at h2
    exact ⟨i, List.mem_range.1 h1, h2⟩
  · rintro ⟨i, h1, h2⟩
    exact ⟨i, List.mem_range.2 h1, by rw [Bool.and_eq_true, cnB_iff, decide_eq_true_iff]; exact h2⟩
theorem doneB_zero : doneB W H l 0 q = false := rfl
theorem doneB_skip (h : doneB W H l k k = true) : doneB W H l (k + 1) q = doneB W H l k q := by
  rw [Bool.eq_iff_iff, doneB_iff, doneB_iff]
  constructor
  · rintro ⟨i, h1, h2, h3⟩
    by_cases e : i = k
    · subst e
      rw [doneB_iff] at h
      obtain ⟨i', a1, a2, a3⟩ := h
      exact ⟨i', a1, by rw [h2, a2], a3.trans (by rw [← a2]; exact h3)⟩
    · exact ⟨i, by omega, h2, h3⟩
  · rintro ⟨i, h1, h2⟩
    exact ⟨i, by omega, h2⟩
theorem doneB_more : doneB W H l (k + 1) q = (doneB W H l k q || (decide (l.getD q 0 = l.getD k 0) && cnB W H l (l.getD k 0) k q)) := by
  unfold doneB
  rw [List.range_succ, List.any_append]
  simp
theorem found_skip (h : doneB W H l k k = true) : foundTo W H l (k + 1) = foundTo W H l k := by
  unfold foundTo
  rw [List.range_succ, List.filter_append, List.map_append]
  simp [h]
theorem found_more (h : doneB W H l k k = false) : foundTo W H l (k + 1) = foundTo W H l k ++ [((l.getD k 0).toNat, mnN W H l (l.getD k 0) k)] := by
  unfold foundTo
  rw [List.range_succ, List.filter_append, List.map_append]
  simp [h]
theorem found_len : (foundTo W H l k).length ≤ k := by
  unfold foundTo
  rw [List.length_map]
  exact Nat.le_trans (List.length_filter_le _ _) (Nat.le_of_eq List.length_range)
theorem mnN_spec (hj : j < H * W) (ht : t ≤ l.getD j 0) : mnN W H l t j ≤ j ∧ Cn W H l t j (mnN W H l t j) ∧ ∀ i, i < mnN W H l t j → ¬ Cn W H l t j i := by
  unfold mnN
  have hr := Cn.refl (W := W) (H := H) (l := l) hj ht
  cases hf : (List.range (H * W)).find? (cnB W H l t j)
  · rw [List.find?_eq_none] at hf
    exact absurd (cnB_iff.2 hr) (hf j (List.mem_range.2 hj))
  · rename_i m
    rw [List.find?_range_eq_some] at hf
    obtain ⟨h1, h2, h3⟩ := hf
    refine ⟨?_, cnB_iff.1 h1, fun i hi => ?_⟩
    · rcases Nat.lt_or_ge j m with h | h
      · have := h3 j h
        rw [Bool.not_eq_true', cnB_not] at this
        exact absurd hr this
      · exact h
    · have := h3 i hi
      rw [Bool.not_eq_true', cnB_not] at this
      exact this
theorem mnN_eq {m : Nat} (hj : j < H * W) (ht : t ≤ l.getD j 0) (h1 : Cn W H l t j m) (h2 : ∀ i, i < m → ¬ Cn W H l t j i) : mnN W H l t j = m := by
  obtain ⟨-, a2, a3⟩ := mnN_spec (W := W) (H := H) hj ht
  rcases Nat.lt_trichotomy (mnN W H l t j) m with h | h | h
  · exact absurd a2 (h2 _ h)
  · exact h
  · exact absurd h1 (a3 _ h)
theorem mnN_same (hj : j < H * W) (hk : k < H * W) (h : Cn W H l t j k) : mnN W H l t j = mnN W H l t k := by
  obtain ⟨-, a2, a3⟩ := mnN_spec (W := W) (H := H) hk (h.right hk)
  exact mnN_eq hj (h.left hj) (h.trans a2) fun i hi h' => a3 i hi (h.symm.trans h')
theorem mnN_first (hj : j < H * W) (ht : t ≤ l.getD j 0) : firstB W H l t (mnN W H l t j) = true := by
  obtain ⟨a1, a2, a3⟩ := mnN_spec (W := W) (H := H) hj ht
  rw [firstB_iff]
  exact ⟨a2.right (by omega), fun i hi h => a3 i hi (a2.trans h)⟩
theorem mnN_of_first (_ : q < H * W) (h : firstB W H l t q = true) (hj : j < H * W) (hc : Cn W H l t q j) : mnN W H l t j = q := by
  rw [firstB_iff] at h
  exact mnN_eq hj (hc.right hj) hc.symm fun i hi h' => h.2 i hi (hc.trans h')
/-- The least spot of a node that has its own level. -/
theorem own_least (_ : q < H * W) (ho : ownB W H l t q = true) : ∃ s, s < H * W ∧ Cn W H l t q s ∧ l.getD s 0 = t ∧ doneB W H l s s = false := by
  rw [ownB_iff] at ho
  obtain ⟨s, hs⟩ := ho
  obtain ⟨m, hm, hl⟩ : ∃ m, (m < H * W ∧ Cn W H l t q m ∧ l.getD m 0 = t) ∧ ∀ i, i < m → ¬ (i < H * W ∧ Cn W H l t q i ∧ l.getD i 0 = t) := by
    have : ∀ n, (∃ s, s < n ∧ (s < H * W ∧ Cn W H l t q s ∧ l.getD s 0 = t)) → ∃ m, (m < H * W ∧ Cn W H l t q m ∧ l.getD m 0 = t) ∧ ∀ i, i < m → ¬ (i < H * W ∧ Cn W H l t q i ∧ l.getD i 0 = t) := by
      intro n
      induction n with
      | zero => rintro ⟨s, h, _⟩; omega
      | succ n ih =>
        rintro ⟨s, h1, h2⟩
        by_cases hx : ∃ s, s < n ∧ (s < H * W ∧ Cn W H l t q s ∧ l.getD s 0 = t)
        · exact ih hx
        · have e : s = n := by
            rcases Nat.lt_or_ge s n with h | h
            · exact absurd ⟨s, h, h2⟩ hx
            · omega
          subst e
          exact ⟨s, h2, fun i hi h => hx ⟨i, hi, h⟩⟩
    exact this (s + 1) ⟨s, by omega, hs⟩
  refine ⟨m, hm.1, hm.2.1, hm.2.2, ?_⟩
  cases hd : doneB W H l m m
  · rfl
  · rw [doneB_iff] at hd
    obtain ⟨i, h1, h2, h3⟩ := hd
    refine absurd ⟨by omega, ?_, ?_⟩ (hl i h1)
    · rw [← h2, hm.2.2] at h3
      exact hm.2.1.trans h3.symm
    · rw [← h2, hm.2.2]
/-- What is found are the nodes. -/
theorem found_mem (hg : GrL W H l) {d : Nat × Nat} : d ∈ foundTo W H l (H * W) ↔ d ∈ nodeL W H l := by
  unfold nodeL
  rw [ndTo_mem]
  unfold foundTo
  rw [List.mem_map]
  constructor
  · rintro ⟨j, hj, rfl⟩
    rw [List.mem_filter, List.mem_range] at hj
    obtain ⟨g1, g2⟩ := hg j hj.1
    have e : ((l.getD j 0).toNat : Int) = l.getD j 0 := by omega
    obtain ⟨a1, a2, a3⟩ := mnN_spec (W := W) (H := H) (l := l) hj.1 (Int.le_refl _)
    simp only [e]
    refine ⟨by omega, by omega, mnN_first hj.1 (Int.le_refl _), ?_⟩
    rw [ownB_iff]
    exact ⟨j, hj.1, a2.symm, rfl⟩
  · rintro ⟨h1, h2, h3, h4⟩
    obtain ⟨s, s1, s2, s3, s4⟩ := own_least h2 h4
    refine ⟨s, by rw [List.mem_filter, List.mem_range, s4]; exact ⟨s1, rfl⟩, ?_⟩
    rw [s3, mnN_of_first h2 h3 s1 s2]
    rfl
theorem found_nodup (hg : GrL W H l) : (foundTo W H l (H * W)).Nodup := by
  unfold foundTo
  rw [List.nodup_iff_pairwise_ne, List.pairwise_map]
  have hp : ((List.range (H * W)).filter fun j => !doneB W H l j j).Pairwise (· < ·) := List.Pairwise.filter _ List.pairwise_lt_range
  refine List.Pairwise.imp_of_mem (fun {a b} ha hb hab e => ?_) hp
  rw [List.mem_filter, List.mem_range, Bool.not_eq_true'] at ha hb
  simp only [Prod.mk.injEq] at e
  obtain ⟨e1, e2⟩ := e
  have ga := hg a ha.1
  have gb := hg b hb.1
  have el : l.getD a 0 = l.getD b 0 := by omega
  obtain ⟨-, a2, -⟩ := mnN_spec (W := W) (H := H) (l := l) ha.1 (Int.le_refl _)
  obtain ⟨-, b2, -⟩ := mnN_spec (W := W) (H := H) (l := l) hb.1 (Int.le_refl _)
  rw [e2, el] at a2
  have : doneB W H l b b = true := by
    rw [doneB_iff]
    exact ⟨a, hab, el.symm, by rw [el]; exact a2.trans b2.symm⟩
  rw [hb.2] at this
  cases this
end
section
variable {W H : Nat} {l : List Int} {p : Nat}
theorem nodeL_mem {d : Nat × Nat} : d ∈ nodeL W H l ↔ d.1 < 100 ∧ d.2 < H * W ∧ firstB W H l d.1 d.2 = true ∧ ownB W H l d.1 d.2 = true := ndTo_mem
theorem ndTo_pre : ∀ (a b : Nat), ∃ r, ndTo W H l (a + b) = ndTo W H l a ++ r ∧ ∀ d, d ∈ r → a ≤ d.1
  | a, 0 => ⟨[], by simp, fun d hd => by cases hd⟩
  | a, b + 1 => by
    obtain ⟨r, h1, h2⟩ := ndTo_pre a b
    refine ⟨r ++ lvN W H l (a + b), by rw [← Nat.add_assoc, ndTo_succ, h1, List.append_assoc], fun d hd => ?_⟩
    rw [List.mem_append] at hd
    rcases hd with hd | hd
    · exact h2 d hd
    · rw [lvN_mem] at hd; omega
noncomputable def parN (W H : Nat) (l : List Int) (d : Nat × Nat) : Int := lastIn W H l (ndTo W H l d.1) d.2
/-- The parent as the program tells it. -/
theorem parN_prog {i : Nat} (hi : i < (nodeL W H l).length) :
    lastW (fun k => decide (((nodeL W H l).getD k (0, 0)).1 < ((nodeL W H l).getD i (0, 0)).1) && cnB W H l ((nodeL W H l).getD k (0, 0)).1 ((nodeL W H l).getD k (0, 0)).2 ((nodeL W H l).getD i (0, 0)).2) i = parN W H l ((nodeL W H l).getD i (0, 0)) := by
  have hd := getD_memN hi
  generalize hD : (nodeL W H l).getD i (0, 0) = d at *
  have hd2 := hd
  unfold nodeL at hd2
  rw [ndTo_mem] at hd2
  obtain ⟨r, e, hr⟩ := ndTo_pre (W := W) (H := H) (l := l) d.1 (100 - d.1)
  rw [show d.1 + (100 - d.1) = 100 by omega] at e
  have e' : nodeL W H l = ndTo W H l d.1 ++ r := e
  have hli : (ndTo W H l d.1).length ≤ i := by
    rcases Nat.lt_or_ge i (ndTo W H l d.1).length with h | h
    · rw [e', getD_left h] at hD
      have := getD_memN h
      rw [hD, ndTo_mem] at this
      omega
    · exact h
  rw [lastW_skip hli fun j h1 h2 => ?_]
  · unfold parN lastIn
    refine lastW_congr fun j hj => ?_
    rw [e', getD_left hj]
    have := getD_memN hj
    rw [ndTo_mem] at this
    rw [decide_eq_true this.1, Bool.true_and]
  · have hj : j < (nodeL W H l).length := by omega
    have hm : (nodeL W H l).getD j (0, 0) ∈ r := by
      rw [e', List.getD_eq_getElem?_getD, List.getElem?_append_right h1]
      rw [e', List.length_append] at hj
      rw [List.getElem?_eq_getElem (by omega)]
      exact List.getElem_mem _
    have := hr _ hm
    rw [decide_eq_false (by omega), Bool.false_and]
theorem pairwise_at {xs : List (Nat × Nat)} (h : xs.Pairwise ndLt) {i j : Nat} (hij : i < j) (hj : j < xs.length) : ndLt (xs.getD i (0, 0)) (xs.getD j (0, 0)) := by
  rw [List.pairwise_iff_getElem] at h
  have := h i j (by omega) hj hij
  rw [List.getD_eq_getElem?_getD, List.getD_eq_getElem?_getD, List.getElem?_eq_getElem hj, List.getElem?_eq_getElem (show i < xs.length by omega)]
  exact this
/-- The node of a spot: the one that has its level. -/
theorem node_of (hg : GrL W H l) (hp : p < H * W) : ∃ k, k < (nodeL W H l).length ∧ lastIn W H l (nodeL W H l) p = (k : Int) ∧ (((nodeL W H l).getD k (0, 0)).1 : Int) = l.getD p 0 ∧ cnB W H l ((nodeL W H l).getD k (0, 0)).1 ((nodeL W H l).getD k (0, 0)).2 p = true ∧
    ∀ j, j < (nodeL W H l).length → (((nodeL W H l).getD j (0, 0)).1 : Int) = l.getD p 0 → cnB W H l ((nodeL W H l).getD j (0, 0)).1 ((nodeL W H l).getD j (0, 0)).2 p = true → j = k := by
  obtain ⟨g1, g2⟩ := hg p hp
  have e : ((l.getD p 0).toNat : Int) = l.getD p 0 := by omega
  obtain ⟨a1, a2, a3⟩ := mnN_spec (W := W) (H := H) (l := l) hp (Int.le_refl _)
  have hm : ((l.getD p 0).toNat, mnN W H l (l.getD p 0) p) ∈ nodeL W H l := by
    unfold nodeL
    rw [ndTo_mem]
    simp only [e]
    refine ⟨by omega, by omega, mnN_first hp (Int.le_refl _), ?_⟩
    rw [ownB_iff]
    exact ⟨p, hp, a2.symm, rfl⟩
  obtain ⟨k, hk, ek⟩ := memN_getD hm
  have huniq : ∀ j, j < (nodeL W H l).length → (((nodeL W H l).getD j (0, 0)).1 : Int) = l.getD p 0 → cnB W H l ((nodeL W H l).getD j (0, 0)).1 ((nodeL W H l).getD j (0, 0)).2 p = true → j = k := fun j hj h1 h2 => by
    have hmj := getD_memN hj
    have hnd := nodeL_mem.1 hmj
    rw [cnB_iff] at h2
    have h3 := mnN_of_first hnd.2.1 hnd.2.2.1 hp h2
    have hD : (nodeL W H l).getD j (0, 0) = (nodeL W H l).getD k (0, 0) := by
      rw [ek]
      refine Prod.ext ?_ ?_
      · simp only; omega
      · rw [← h3, h1]
    rcases Nat.lt_trichotomy j k with h | h | h
    · have := pairwise_at (ndTo_sorted (W := W) (H := H) (l := l) 100) h hk
      unfold nodeL at hD
      rw [hD] at this
      exact absurd this ndLt_irrefl
    · exact h
    · have := pairwise_at (ndTo_sorted (W := W) (H := H) (l := l) 100) h hj
      unfold nodeL at hD
      rw [hD] at this
      exact absurd this ndLt_irrefl
  have hck : cnB W H l ((nodeL W H l).getD k (0, 0)).1 ((nodeL W H l).getD k (0, 0)).2 p = true := by
    rw [ek, cnB_iff]
    simp only [e]
    exact a2.symm
  refine ⟨k, hk, ?_, by rw [ek]; exact e, hck, huniq⟩
  unfold lastIn
  refine lastW_at hk hck fun i h1 h2 => ?_
  cases hc : cnB W H l ((nodeL W H l).getD i (0, 0)).1 ((nodeL W H l).getD i (0, 0)).2 p
  · rfl
  · have hs := pairwise_at (ndTo_sorted (W := W) (H := H) (l := l) 100) h1 h2
    have hle := (cnB_iff.1 hc).right hp
    have hge : ((nodeL W H l).getD k (0, 0)).1 ≤ ((nodeL W H l).getD i (0, 0)).1 := by
      unfold ndLt at hs
      unfold nodeL
      omega
    rw [ek] at hge
    simp only at hge
    have := huniq i h2 (by omega) hc
    omega
end
end Go.Proofs.Ythgkmaccbcpaeaa

/- Plain: the parts of a threshold in order, by the reference's numbers. -/
namespace Go.Proofs.Ythgkmaccbcpaeaa
open Go.RowKit
def blkL (W H : Nat) (l : List Int) (t : Int) : List Nat := (List.range (H * W)).filter fun q => decide (t ≤ l.getD q 0)
noncomputable def fstTo (W H : Nat) (l : List Int) (t : Int) (k : Nat) : List Nat := ((blkL W H l t).take k).filter (firstB W H l t)
noncomputable def fstL (W H : Nat) (l : List Int) (t : Int) : List Nat := (List.range (H * W)).filter (firstB W H l t)
section
variable {W H : Nat} {l : List Int} {t : Int}
theorem blkL_mem {q : Nat} : q ∈ blkL W H l t ↔ q < H * W ∧ t ≤ l.getD q 0 := by
  unfold blkL
  rw [List.mem_filter, List.mem_range, decide_eq_true_iff]
theorem blkL_sorted : (blkL W H l t).Pairwise (· < ·) := List.Pairwise.filter _ List.pairwise_lt_range
theorem blkL_lt {i j : Nat} (hij : i < j) (hj : j < (blkL W H l t).length) : (blkL W H l t).getD i 0 < (blkL W H l t).getD j 0 := by
  have h := blkL_sorted (W := W) (H := H) (l := l) (t := t)
  rw [List.pairwise_iff_getElem] at h
  have := h i j (by omega) hj hij
  rw [List.getD_eq_getElem?_getD, List.getD_eq_getElem?_getD, List.getElem?_eq_getElem hj, List.getElem?_eq_getElem (show i < (blkL W H l t).length by omega)]
  exact this
theorem getD_memNat {xs : List Nat} {k : Nat} (h : k < xs.length) : xs.getD k 0 ∈ xs := by
  rw [List.getD_eq_getElem?_getD, List.getElem?_eq_getElem h]
  exact List.getElem_mem h
theorem fstL_eq : fstL W H l t = fstTo W H l t (blkL W H l t).length := by
  unfold fstL fstTo
  rw [List.take_length]
  unfold blkL
  rw [List.filter_filter]
  refine List.filter_congr fun q _ => ?_
  cases hf : firstB W H l t q
  · simp
  · rw [firstB_iff] at hf
    rw [Bool.true_and, decide_eq_true hf.1]
theorem fstTo_yes {k : Nat} (hk : k < (blkL W H l t).length) (h : firstB W H l t ((blkL W H l t).getD k 0) = true) : fstTo W H l t (k + 1) = fstTo W H l t k ++ [(blkL W H l t).getD k 0] := by
  unfold fstTo
  rw [List.take_succ_eq_append_getElem hk, List.filter_append]
  rw [List.getD_eq_getElem?_getD, List.getElem?_eq_getElem hk] at h ⊢
  simp only [Option.getD_some] at h ⊢
  simp [h]
theorem fstTo_no {k : Nat} (hk : k < (blkL W H l t).length) (h : firstB W H l t ((blkL W H l t).getD k 0) = false) : fstTo W H l t (k + 1) = fstTo W H l t k := by
  unfold fstTo
  rw [List.take_succ_eq_append_getElem hk, List.filter_append]
  rw [List.getD_eq_getElem?_getD, List.getElem?_eq_getElem hk] at h
  simp only [Option.getD_some] at h
  simp [h]
theorem fstTo_mem {k q : Nat} (h : q ∈ fstTo W H l t k) : ∃ i, i < k ∧ i < (blkL W H l t).length ∧ (blkL W H l t).getD i 0 = q := by
  unfold fstTo at h
  rw [List.mem_filter, List.mem_take_iff_getElem] at h
  obtain ⟨⟨i, hi, e⟩, -⟩ := h
  exact ⟨i, by omega, by omega, by rw [List.getD_eq_getElem?_getD, List.getElem?_eq_getElem (by omega)]; exact e⟩
/-- The reference's numbers behind the first k black spots. -/
theorem lab_first : ∀ (k : Nat) {F : Int × Int → Nat} {n : Nat}, k ≤ (blkL W H l t).length → LabK (lvR W H l t) (nbA false) ((blkL W H l t).map (spN W)) k F n →
    n = (fstTo W H l t k).length ∧ ∀ j, j < H * W → (0 < F (spN W j) ↔ ∃ i, i < k ∧ Cn W H l t ((blkL W H l t).getD i 0) j) ∧ ∀ m, m < n → (F (spN W j) = m + 1 ↔ Cn W H l t ((fstTo W H l t k).getD m 0) j)
  | 0, F, n, _, h => by
    obtain ⟨h1, h2⟩ := h
    refine ⟨by rw [h2]; simp [fstTo], fun j hj => ⟨⟨fun h => by rw [h1] at h; omega, fun ⟨i, h, _⟩ => by omega⟩, fun m hm => by omega⟩⟩
  | k + 1, F, n, hk, h => by
    obtain ⟨f0, n0, h1, h2⟩ := h
    obtain ⟨i1, i2⟩ := lab_first (F := f0) (n := n0) k (by omega) h1
    have hkl : k < (blkL W H l t).length := by omega
    have hsb := blkL_mem.1 (getD_memNat hkl)
    have hsp : ((blkL W H l t).map (spN W)).getD k (0, 0) = spN W ((blkL W H l t).getD k 0) := by
      rw [List.getD_eq_getElem?_getD, List.getElem?_map, List.getD_eq_getElem?_getD, List.getElem?_eq_getElem hkl]
      rfl
    rw [hsp] at h2
    generalize hs : (blkL W H l t).getD k 0 = s at *
    have hfirst : firstB W H l t s = true ↔ ∀ i, i < k → ¬ Cn W H l t ((blkL W H l t).getD i 0) s := by
      rw [firstB_iff]
      constructor
      · rintro ⟨-, hf⟩ i hi hc
        refine hf _ ?_ hc.symm
        rw [← hs]
        exact blkL_lt hi hkl
      · intro hf
        refine ⟨hsb.2, fun j hj hc => ?_⟩
        have hjb : j ∈ blkL W H l t := blkL_mem.2 ⟨by omega, hc.right (by omega)⟩
        obtain ⟨i, hi, e⟩ := List.mem_iff_getElem.1 hjb
        have e' : (blkL W H l t).getD i 0 = j := by rw [List.getD_eq_getElem?_getD, List.getElem?_eq_getElem hi]; exact e
        have hik : i < k := by
          rcases Nat.lt_trichotomy i k with h | h | h
          · exact h
          · rw [h, hs] at e'; omega
          · have := blkL_lt (W := W) (H := H) (l := l) (t := t) h hi
            omega
        exact hf i hik (by rw [e']; exact hc.symm)
    rcases h2 with ⟨a1, a2, a3⟩ | ⟨a1, a2, a3⟩
    · have hnf : firstB W H l t s = false := by
        cases hf : firstB W H l t s
        · rfl
        · rw [hfirst] at hf
          obtain ⟨i, hi, hc⟩ := (i2 s hsb.1).1.1 a1
          exact absurd hc (hf i hi)
      have hnf' := fstTo_no hkl (by rw [hs]; exact hnf)
      refine ⟨by rw [hnf', a3, i1], fun j hj => ⟨?_, fun m hm => ?_⟩⟩
      · rw [a2, (i2 j hj).1]
        constructor
        · rintro ⟨i, hi, hc⟩
          exact ⟨i, by omega, hc⟩
        · rintro ⟨i, hi, hc⟩
          by_cases e : i = k
          · subst e
            rw [hs] at hc
            obtain ⟨i', hi', hc'⟩ := (i2 s hsb.1).1.1 a1
            exact ⟨i', hi', hc'.trans hc⟩
          · exact ⟨i, by omega, hc⟩
      · rw [a2, hnf']
        exact (i2 j hj).2 m (by omega)
    · have hf : firstB W H l t s = true := by
        rw [hfirst]
        intro i hi hc
        have := (i2 s hsb.1).1.2 ⟨i, hi, hc⟩
        omega
      have hf' := fstTo_yes hkl (by rw [hs]; exact hf)
      rw [hs] at hf'
      have hln : (fstTo W H l t (k + 1)).length = n0 + 1 := by rw [hf', List.length_append, List.length_singleton, ← i1]
      refine ⟨by rw [hln, a2], fun j hj => ⟨?_, fun m hm => ?_⟩⟩
      · constructor
        · intro hp
          by_cases hc : Rch (lvR W H l t) (nbA false) [spN W s] (spN W j)
          · exact ⟨k, by omega, by rw [hs]; exact hc⟩
          · rw [(a3 _).2 hc] at hp
            obtain ⟨i, hi, hc'⟩ := (i2 j hj).1.1 hp
            exact ⟨i, by omega, hc'⟩
        · rintro ⟨i, hi, hc⟩
          by_cases hc' : Rch (lvR W H l t) (nbA false) [spN W s] (spN W j)
          · rw [(a3 _).1 hc']; omega
          · rw [(a3 _).2 hc']
            refine (i2 j hj).1.2 ⟨i, ?_, hc⟩
            by_cases e : i = k
            · subst e
              rw [hs] at hc
              exact absurd hc hc'
            · omega
      · have hgl : ∀ m, m < n0 → (fstTo W H l t (k + 1)).getD m 0 = (fstTo W H l t k).getD m 0 := fun m hm => by
          rw [hf', List.getD_eq_getElem?_getD, List.getD_eq_getElem?_getD, List.getElem?_append_left (by omega)]
        have hgn : (fstTo W H l t (k + 1)).getD n0 0 = s := by
          rw [hf', List.getD_eq_getElem?_getD, List.getElem?_append_right (by omega), ← i1, Nat.sub_self]
          rfl
        by_cases hc : Rch (lvR W H l t) (nbA false) [spN W s] (spN W j)
        · rw [(a3 _).1 hc]
          by_cases e : m = n0
          · subst e
            rw [hgn]
            exact ⟨fun _ => hc, fun _ => rfl⟩
          · have hm' : m < n0 := by omega
            constructor
            · intro h; omega
            · intro h
              rw [hgl m hm'] at h
              have hcs : Cn W H l t ((fstTo W H l t k).getD m 0) s := h.trans (Cn.symm hc)
              obtain ⟨i, hi, -, ei⟩ := fstTo_mem (getD_memNat (show m < (fstTo W H l t k).length by omega))
              rw [hfirst] at hf
              exact absurd (by rw [ei]; exact hcs) (hf i hi)
        · rw [(a3 _).2 hc]
          by_cases e : m = n0
          · subst e
            rw [hgn]
            constructor
            · intro h
              have := (h1.few).2 (spN W j)
              omega
            · intro h; exact absurd h hc
          · have hm' : m < n0 := by omega
            rw [hgl m hm']
            exact (i2 j hj).2 m hm'
theorem lab_parts {F : Int × Int → Nat} {n : Nat} (h : LabK (lvR W H l t) (nbA false) ((blkL W H l t).map (spN W)) (blkL W H l t).length F n) : n = (fstL W H l t).length ∧ ∀ j, j < H * W → ∀ m, m < n → (F (spN W j) = m + 1 ↔ Cn W H l t ((fstL W H l t).getD m 0) j) := by
  obtain ⟨h1, h2⟩ := lab_first (F := F) (n := n) _ (Nat.le_refl _) h
  rw [fstL_eq]
  exact ⟨h1, fun j hj m hm => (h2 j hj).2 m hm⟩
theorem fstL_sorted : (fstL W H l t).Pairwise (· < ·) := List.Pairwise.filter _ List.pairwise_lt_range
theorem fstL_mem {q : Nat} : q ∈ fstL W H l t ↔ q < H * W ∧ firstB W H l t q = true := by
  unfold fstL
  rw [List.mem_filter, List.mem_range]
theorem lvN_fst {t : Nat} : lvN W H l t = ((fstL W H l t).filter (ownB W H l t)).map fun q => (t, q) := by
  unfold lvN fstL
  rw [List.filter_filter]
  congr 1
  refine List.filter_congr fun q _ => ?_
  rw [Bool.and_comm]
/-- The nodes behind the first k parts of a level. -/
noncomputable def ndK (W H : Nat) (l : List Int) (t k : Nat) : List (Nat × Nat) := ndTo W H l t ++ (((fstL W H l t).take k).filter (ownB W H l t)).map fun q => (t, q)
theorem ndK_zero {t : Nat} : ndK W H l t 0 = ndTo W H l t := by unfold ndK; simp
theorem ndK_all {t : Nat} : ndK W H l t (fstL W H l t).length = ndTo W H l (t + 1) := by unfold ndK; rw [List.take_length, ndTo_succ, lvN_fst]
theorem ndK_yes {t k : Nat} (hk : k < (fstL W H l t).length) (h : ownB W H l t ((fstL W H l t).getD k 0) = true) : ndK W H l t (k + 1) = ndK W H l t k ++ [(t, (fstL W H l t).getD k 0)] := by
  unfold ndK
  rw [List.take_succ_eq_append_getElem hk, List.filter_append, List.map_append, ← List.append_assoc]
  rw [List.getD_eq_getElem?_getD, List.getElem?_eq_getElem hk] at h ⊢
  simp only [Option.getD_some] at h ⊢
  simp [h]
theorem ndK_no {t k : Nat} (hk : k < (fstL W H l t).length) (h : ownB W H l t ((fstL W H l t).getD k 0) = false) : ndK W H l t (k + 1) = ndK W H l t k := by
  unfold ndK
  rw [List.take_succ_eq_append_getElem hk, List.filter_append, List.map_append]
  rw [List.getD_eq_getElem?_getD, List.getElem?_eq_getElem hk] at h
  simp only [Option.getD_some] at h
  simp [h]
/-- A level that no pixel has. -/
theorem lvN_none {t : Nat} (h : ∀ s, s < H * W → l.getD s 0 ≠ (t : Int)) : lvN W H l t = [] := by
  unfold lvN
  rw [List.map_eq_nil_iff, List.filter_eq_nil_iff]
  intro q _ hq
  rw [Bool.and_eq_true, ownB_iff] at hq
  obtain ⟨-, s, h1, -, h2⟩ := hq
  exact h s h1 h2
end
/-- How many spots a node has. -/
noncomputable def arN (W H : Nat) (l : List Int) (d : Nat × Nat) : Nat := ((List.range (H * W)).filter (cnB W H l d.1 d.2)).length
def levT (nds : List (Nat × Nat)) : List Int := nds.map fun d => (d.1 : Int)
noncomputable def parT (W H : Nat) (l : List Int) (nds : List (Nat × Nat)) : List Int := nds.map (parN W H l)
noncomputable def areT (W H : Nat) (l : List Int) (nds : List (Nat × Nat)) : List Int := nds.map fun d => (arN W H l d : Int)
noncomputable def nodT (W H : Nat) (l : List Int) (nds : List (Nat × Nat)) : List Int := (List.range (H * W)).map (lastIn W H l nds)
end Go.Proofs.Ythgkmaccbcpaeaa

/- Plain: the nodes that hold a spot, and their parents. -/
namespace Go.Proofs.Ythgkmaccbcpaeaa
open Go.RowKit
/-- Which nodes hold a spot. -/
noncomputable def holdN (W H : Nat) (l : List Int) (p j : Nat) : Bool := cnB W H l ((nodeL W H l).getD j (0, 0)).1 ((nodeL W H l).getD j (0, 0)).2 p
section
variable {W H : Nat} {l : List Int} {p j k : Nat}
theorem holdN_iff : holdN W H l p j = true ↔ Cn W H l ((nodeL W H l).getD j (0, 0)).1 ((nodeL W H l).getD j (0, 0)).2 p := by unfold holdN; exact cnB_iff
theorem node_at (hj : j < (nodeL W H l).length) : ((nodeL W H l).getD j (0, 0)).1 < 100 ∧ ((nodeL W H l).getD j (0, 0)).2 < H * W ∧ firstB W H l ((nodeL W H l).getD j (0, 0)).1 ((nodeL W H l).getD j (0, 0)).2 = true ∧ ownB W H l ((nodeL W H l).getD j (0, 0)).1 ((nodeL W H l).getD j (0, 0)).2 = true := nodeL_mem.1 (getD_memN hj)
theorem node_lt (hjk : j < k) (hk : k < (nodeL W H l).length) : ndLt ((nodeL W H l).getD j (0, 0)) ((nodeL W H l).getD k (0, 0)) := pairwise_at (ndTo_sorted (W := W) (H := H) (l := l) 100) hjk hk
theorem node_le (hjk : j ≤ k) (hk : k < (nodeL W H l).length) : ((nodeL W H l).getD j (0, 0)).1 ≤ ((nodeL W H l).getD k (0, 0)).1 := by
  rcases Nat.lt_or_ge j k with h | h
  · have := node_lt h hk
    unfold ndLt at this
    omega
  · rw [show j = k by omega]; exact Nat.le_refl _
/-- Of two nodes that hold one spot the earlier one has the lesser level. -/
theorem hold_lt (hp : p < H * W) (hjk : j < k) (hk : k < (nodeL W H l).length) (h1 : holdN W H l p j = true) (h2 : holdN W H l p k = true) : ((nodeL W H l).getD j (0, 0)).1 < ((nodeL W H l).getD k (0, 0)).1 := by
  have hl := node_lt hjk hk
  rw [holdN_iff] at h1 h2
  obtain ⟨-, a2, a3, -⟩ := node_at (W := W) (H := H) (l := l) (show j < (nodeL W H l).length by omega)
  obtain ⟨-, b2, b3, -⟩ := node_at (W := W) (H := H) (l := l) hk
  rcases hl with hl | ⟨hl, hl2⟩
  · exact hl
  · exfalso
    have e1 := mnN_of_first a2 a3 hp h1
    have e2 := mnN_of_first b2 b3 hp h2
    rw [hl] at e1
    omega
/-- A node's spot tells which lesser nodes hold it. -/
theorem hold_first (h : holdN W H l p k = true) (hl : ((nodeL W H l).getD j (0, 0)).1 ≤ ((nodeL W H l).getD k (0, 0)).1) : holdN W H l ((nodeL W H l).getD k (0, 0)).2 j = holdN W H l p j := by
  rw [holdN_iff] at h
  have hm := Cn.mono h (t' := ((((nodeL W H l).getD j (0, 0)).1 : Nat) : Int)) (by omega)
  rw [Bool.eq_iff_iff, holdN_iff, holdN_iff]
  exact ⟨fun h' => h'.trans hm, fun h' => h'.trans hm.symm⟩
/-- The parent is the last one before that holds the spot. -/
theorem par_last (hp : p < H * W) (hk : k < (nodeL W H l).length) (h : holdN W H l p k = true) : parN W H l ((nodeL W H l).getD k (0, 0)) = lastW (holdN W H l p) k := by
  rw [← parN_prog hk]
  refine lastW_congr fun j hj => ?_
  have hf := hold_first (j := j) h (node_le (by omega) hk)
  unfold holdN at hf ⊢
  rw [hf]
  cases hc : cnB W H l ((nodeL W H l).getD j (0, 0)).1 ((nodeL W H l).getD j (0, 0)).2 p
  · rw [Bool.and_false]
  · rw [decide_eq_true (hold_lt hp hj hk hc h), Bool.true_and]
theorem nodeL_pos (hg : GrL W H l) (hp : p < H * W) : 0 < (nodeL W H l).length := by
  obtain ⟨k, hk, -⟩ := node_of hg hp
  omega
theorem nodeL_nodup : (nodeL W H l).Nodup := by
  rw [List.nodup_iff_pairwise_ne]
  exact List.Pairwise.imp (fun {a b} h e => by subst e; exact ndLt_irrefl h) (ndTo_sorted 100)
theorem nodeL_len (hg : GrL W H l) : (nodeL W H l).length ≤ H * W := by
  have hp := (List.perm_ext_iff_of_nodup (found_nodup hg) (nodeL_nodup (W := W) (H := H) (l := l))).2 fun d => found_mem hg
  rw [← hp.length_eq]
  exact found_len
/-- All spots are joined at a level that none is below. -/
theorem all_joined {t : Int} (ht : ∀ q, q < H * W → t ≤ l.getD q 0) : ∀ {p q : Nat}, p < H * W → q < H * W → Cn W H l t p q := by
  have hx : ∀ (x y : Nat), x < W → y < H → Cn W H l t (y * W) (y * W + x) := by
    intro x
    induction x with
    | zero => intro y h1 h2; exact Cn.refl (by have := Nat.mul_le_mul_right W (show y + 1 ≤ H by omega); rw [Nat.succ_mul] at this; omega) (ht _ (by have := Nat.mul_le_mul_right W (show y + 1 ≤ H by omega); rw [Nat.succ_mul] at this; omega))
    | succ x ih =>
      intro y h1 h2
      have hb := Nat.mul_le_mul_right W (show y + 1 ≤ H by omega)
      rw [Nat.succ_mul] at hb
      refine .step (ih y (by omega) h2) ?_ (by rw [lvR_at (by omega), decide_eq_true_iff]; exact ht _ (by omega))
      unfold spN nbA arndL
      rw [Nat.mul_comm y W, Nat.mul_add_mod, Nat.mul_add_mod, Nat.mul_add_div (by omega), Nat.mul_add_div (by omega), Nat.mod_eq_of_lt h1, Nat.mod_eq_of_lt (show x < W by omega), Nat.div_eq_of_lt h1, Nat.div_eq_of_lt (show x < W by omega)]
      simp
  have hy : ∀ (y : Nat), y < H → 0 < W → Cn W H l t 0 (y * W) := by
    intro y
    induction y with
    | zero => intro h1 h2; rw [Nat.zero_mul]; exact Cn.refl (Nat.mul_pos h1 h2) (ht _ (Nat.mul_pos h1 h2))
    | succ y ih =>
      intro h1 h2
      have hb := Nat.mul_le_mul_right W (show y + 1 + 1 ≤ H by omega)
      rw [Nat.succ_mul] at hb
      refine .step (ih (by omega) h2) ?_ (by rw [lvR_at (by omega), decide_eq_true_iff]; exact ht _ (by omega))
      unfold spN nbA arndL
      rw [Nat.mul_mod_left, Nat.mul_mod_left, Nat.mul_div_cancel _ h2, Nat.mul_div_cancel _ h2]
      simp
  intro p q hp hq
  have hW : 0 < W := Nat.pos_of_ne_zero fun e => by rw [e] at hp; simp at hp
  have h0 : ∀ r, r < H * W → Cn W H l t 0 r := fun r hr => by
    have h2 : r / W < H := by rw [Nat.div_lt_iff_lt_mul hW]; exact hr
    have h3 := (hy (r / W) h2 hW).trans (hx (r % W) (r / W) (Nat.mod_lt _ hW) h2)
    rw [Nat.mul_comm, Nat.div_add_mod] at h3
    exact h3
  exact (h0 p hp).symm.trans (h0 q hq)
/-- The first node has the least level. -/
theorem node0_least (hg : GrL W H l) {q : Nat} (hq : q < H * W) : (((nodeL W H l).getD 0 (0, 0)).1 : Int) ≤ l.getD q 0 := by
  obtain ⟨k, hk, -, h1, -⟩ := node_of hg hq
  rw [← h1]
  have := node_le (W := W) (H := H) (l := l) (Nat.zero_le k) hk
  omega
theorem hold_zero (hg : GrL W H l) (hp : p < H * W) : holdN W H l p 0 = true := by
  rw [holdN_iff]
  have h0 := node_at (W := W) (H := H) (l := l) (nodeL_pos hg hp)
  exact all_joined (fun q hq => node0_least hg hq) h0.2.1 hp
end
/-- What is left of a spot where small parts are taken away. -/
noncomputable def openK (W H : Nat) (l : List Int) (least : Int) (p i : Nat) : Int := lastW (fun j => holdN W H l p j && decide (least ≤ (arN W H l ((nodeL W H l).getD j (0, 0)) : Int))) i
noncomputable def openV (W H : Nat) (l : List Int) (least : Int) (p i : Nat) : Int := (((nodeL W H l).getD (openK W H l least p i).toNat (0, 0)).1 : Int)
section
variable {W H : Nat} {l : List Int} {p j k : Nat} {least : Int}
theorem openV_zero : openV W H l least p 0 = (((nodeL W H l).getD 0 (0, 0)).1 : Int) := rfl
theorem openV_no (h : (holdN W H l p k && decide (least ≤ (arN W H l ((nodeL W H l).getD k (0, 0)) : Int))) = false) : openV W H l least p (k + 1) = openV W H l least p k := by
  unfold openV openK
  conv => lhs; unfold lastW
  rw [h, if_neg (by simp)]
theorem openV_yes (hk : k < (nodeL W H l).length) (h : (holdN W H l p k && decide (least ≤ (arN W H l ((nodeL W H l).getD k (0, 0)) : Int))) = true) :
    openV W H l least p (k + 1) = (((nodeL W H l).getD k (0, 0)).1 : Int) ∧ openV W H l least p k ≤ (((nodeL W H l).getD k (0, 0)).1 : Int) := by
  refine ⟨?_, ?_⟩
  · unfold openV openK
    conv => lhs; unfold lastW
    rw [h, if_pos rfl]
    rfl
  · have := lastW_lo (fun j => holdN W H l p j && decide (least ≤ (arN W H l ((nodeL W H l).getD j (0, 0)) : Int))) k
    have hle : (openK W H l least p k).toNat ≤ k := by unfold openK; omega
    have := node_le (W := W) (H := H) (l := l) hle hk
    unfold openV
    omega
/-- Where the climb ends. -/
theorem openV_end (hg : GrL W H l) (hp : p < H * W) (hk : k < (nodeL W H l).length) (h1 : holdN W H l p k = true) (h2 : ∀ j, k < j → j < (nodeL W H l).length → holdN W H l p j = true → (arN W H l ((nodeL W H l).getD j (0, 0)) : Int) < least)
    (h3 : least ≤ (arN W H l ((nodeL W H l).getD k (0, 0)) : Int) ∨ parN W H l ((nodeL W H l).getD k (0, 0)) < 0) : openV W H l least p (nodeL W H l).length = (((nodeL W H l).getD k (0, 0)).1 : Int) := by
  have hno : ∀ j, k < j → j < (nodeL W H l).length → (holdN W H l p j && decide (least ≤ (arN W H l ((nodeL W H l).getD j (0, 0)) : Int))) = false := fun j hj1 hj2 => by
    cases hh : holdN W H l p j
    · rfl
    · rw [decide_eq_false (by have := h2 j hj1 hj2 hh; omega)]; rfl
  by_cases ha : least ≤ (arN W H l ((nodeL W H l).getD k (0, 0)) : Int)
  · unfold openV openK
    rw [lastW_at hk (by rw [h1, decide_eq_true ha]; rfl) hno]
    rfl
  · rcases h3 with h3 | h3
    · exact absurd h3 ha
    rw [par_last hp hk h1] at h3
    have hk0 : k = 0 := by
      rcases lastW_spec (holdN W H l p) k with ⟨-, h⟩ | ⟨j, -, h, -⟩
      · rcases Nat.eq_zero_or_pos k with h0 | h0
        · exact h0
        · have := h 0 h0
          rw [hold_zero hg hp] at this
          cases this
      · omega
    subst hk0
    unfold openV openK
    rw [lastW_skip (a := 0) (Nat.zero_le _) fun j _ hj2 => ?_]
    · rfl
    · rcases Nat.eq_zero_or_pos j with h0 | h0
      · rw [h0, decide_eq_false ha, Bool.and_false]
      · exact hno j h0 hj2
/-- One step of the climb. -/
theorem climb_step (hp : p < H * W) (hk : k < (nodeL W H l).length) (h1 : holdN W H l p k = true) (h2 : ∀ j, k < j → j < (nodeL W H l).length → holdN W H l p j = true → (arN W H l ((nodeL W H l).getD j (0, 0)) : Int) < least) (ha : (arN W H l ((nodeL W H l).getD k (0, 0)) : Int) < least) (h3 : 0 ≤ parN W H l ((nodeL W H l).getD k (0, 0))) :
    ∃ j : Nat, j < k ∧ parN W H l ((nodeL W H l).getD k (0, 0)) = (j : Int) ∧ holdN W H l p j = true ∧ ∀ i, j < i → i < (nodeL W H l).length → holdN W H l p i = true → (arN W H l ((nodeL W H l).getD i (0, 0)) : Int) < least := by
  rw [par_last hp hk h1] at h3 ⊢
  rcases lastW_spec (holdN W H l p) k with ⟨h, -⟩ | ⟨j, q1, q2, q3, q4⟩
  · omega
  · refine ⟨j, q1, q2, q3, fun i hi1 hi2 hi3 => ?_⟩
    rcases Nat.lt_trichotomy i k with h | h | h
    · rw [q4 i hi1 h] at hi3; cases hi3
    · rw [h]; exact ha
    · exact h2 i h hi2 hi3
end
end Go.Proofs.Ythgkmaccbcpaeaa

/- Plain: what the reference's tree holds under way. -/
namespace Go.Proofs.Ythgkmaccbcpaeaa
open Go.RowKit
/-- The first number below i of which something holds, or -1. -/
def fiW (c : Nat → Bool) : Nat → Int
  | 0 => -1
  | i + 1 => if fiW c i < 0 ∧ c i = true then (i : Int) else fiW c i
def cntI (c : Nat → Bool) (i : Nat) : Nat := ((List.range i).filter c).length
section
variable {c : Nat → Bool}
theorem fiW_no {i : Nat} (h : c i = false) : fiW c (i + 1) = fiW c i := by
  conv => lhs; unfold fiW
  rw [if_neg (by rw [h]; simp)]
theorem fiW_neg {i : Nat} (h : c i = true) (h2 : fiW c i < 0) : fiW c (i + 1) = (i : Int) := by
  conv => lhs; unfold fiW
  rw [if_pos ⟨h2, h⟩]
theorem fiW_pos {i : Nat} (h2 : ¬ fiW c i < 0) : fiW c (i + 1) = fiW c i := by
  conv => lhs; unfold fiW
  rw [if_neg (fun h => h2 h.1)]
theorem fiW_lo : ∀ i, -1 ≤ fiW c i ∧ fiW c i < (i : Int)
  | 0 => by unfold fiW; omega
  | i + 1 => by
    have := fiW_lo i
    unfold fiW
    split <;> omega
theorem fiW_before {q : Nat} (h : ∀ j, j < q → c j = false) : ∀ i, i ≤ q → fiW c i = -1
  | 0, _ => rfl
  | i + 1, hi => by rw [fiW_no (h i (by omega)), fiW_before h i (by omega)]
theorem fiW_at {q : Nat} (hq : c q = true) (h : ∀ j, j < q → c j = false) : ∀ i, q < i → fiW c i = (q : Int)
  | 0, hi => by omega
  | i + 1, hi => by
    by_cases e : i = q
    · subst e
      exact fiW_neg hq (by rw [fiW_before h i (Nat.le_refl _)]; omega)
    · have ih := fiW_at hq h i (by omega)
      rw [fiW_pos (by rw [ih]; omega), ih]
theorem cntI_no {i : Nat} (h : c i = false) : cntI c (i + 1) = cntI c i := by
  unfold cntI
  rw [List.range_succ, List.filter_append]
  simp [h]
theorem cntI_yes {i : Nat} (h : c i = true) : cntI c (i + 1) = cntI c i + 1 := by
  unfold cntI
  rw [List.range_succ, List.filter_append]
  simp [h]
theorem cntI_le (i : Nat) : cntI c i ≤ i := by
  unfold cntI
  exact Nat.le_trans (List.length_filter_le _ _) (Nat.le_of_eq List.length_range)
theorem anyI_succ (f : Nat → Bool) (i : Nat) : (List.range (i + 1)).any f = ((List.range i).any f || f i) := by
  rw [List.range_succ, List.any_append]
  simp
end
noncomputable def mixT (W H : Nat) (l : List Int) (nds : List (Nat × Nat)) (c : Nat → Bool) (m i : Nat) : List Int := (List.range (H * W)).map fun j => if j < i ∧ c j = true then (m : Int) else lastIn W H l nds j
section
variable {W H : Nat} {l : List Int} {nds : List (Nat × Nat)} {c : Nat → Bool} {m i : Nat}
theorem nodT_len : (nodT W H l nds).length = H * W := by simp [nodT]
theorem nodT_at {j : Nat} (hj : j < H * W) : (nodT W H l nds).getD j 0 = lastIn W H l nds j := by
  unfold nodT
  rw [List.getD_eq_getElem?_getD, List.getElem?_map, List.getElem?_range hj]
  rfl
theorem mixT_len : (mixT W H l nds c m i).length = H * W := by simp [mixT]
theorem mixT_zero : mixT W H l nds c m 0 = nodT W H l nds := by
  unfold mixT nodT
  refine List.map_congr_left fun j _ => ?_
  rw [if_neg (fun h => by omega)]
theorem mixT_no (h : c i = false) : mixT W H l nds c m (i + 1) = mixT W H l nds c m i := by
  unfold mixT
  refine List.map_congr_left fun j _ => ?_
  by_cases e : j = i
  · subst e
    rw [if_neg (fun q => by rw [h] at q; exact Bool.noConfusion q.2), if_neg (fun q => by rw [h] at q; exact Bool.noConfusion q.2)]
  · by_cases hj : j < i ∧ c j = true
    · rw [if_pos hj, if_pos ⟨by omega, hj.2⟩]
    · rw [if_neg hj, if_neg (fun q => hj ⟨by omega, q.2⟩)]
theorem mixT_yes (h : c i = true) : mixT W H l nds c m (i + 1) = (mixT W H l nds c m i).set i (m : Int) := by
  apply List.ext_getElem?
  intro j
  rw [List.getElem?_set, mixT_len]
  by_cases hj : j < H * W
  · unfold mixT
    rw [List.getElem?_map, List.getElem?_map, List.getElem?_range hj]
    simp only [Option.map_some]
    by_cases e : i = j
    · subst e
      rw [if_pos rfl, if_pos hj, if_pos ⟨by omega, h⟩]
    · rw [if_neg e]
      by_cases hc : j < i ∧ c j = true
      · rw [if_pos hc, if_pos ⟨by omega, hc.2⟩]
      · rw [if_neg hc, if_neg (fun q => hc ⟨by omega, q.2⟩)]
  · rw [List.getElem?_eq_none (by rw [mixT_len]; omega), List.getElem?_eq_none (by rw [mixT_len]; omega)]
    split
    · rw [if_neg (by omega)]
    · rfl
theorem mixT_all {d : Nat × Nat} : mixT W H l nds (cnB W H l d.1 d.2) nds.length (H * W) = nodT W H l (nds ++ [d]) := by
  unfold mixT nodT
  refine List.map_congr_left fun j hj => ?_
  rw [List.mem_range] at hj
  rw [lastIn_snoc]
  by_cases hc : cnB W H l d.1 d.2 j = true
  · rw [if_pos ⟨hj, hc⟩, if_pos hc]
  · rw [if_neg (fun q => hc q.2), if_neg hc]
theorem nodT_nil : nodT W H l [] = List.replicate (H * W) (-1) := by
  unfold nodT
  rw [List.eq_replicate_iff]
  refine ⟨by simp, fun b hb => ?_⟩
  rw [List.mem_map] at hb
  obtain ⟨j, -, rfl⟩ := hb
  rfl
theorem levT_snoc {d : Nat × Nat} : levT (nds ++ [d]) = levT nds ++ [(d.1 : Int)] := by simp [levT]
theorem parT_snoc {d : Nat × Nat} : parT W H l (nds ++ [d]) = parT W H l nds ++ [parN W H l d] := by simp [parT]
theorem areT_snoc {d : Nat × Nat} : areT W H l (nds ++ [d]) = areT W H l nds ++ [(arN W H l d : Int)] := by simp [areT]
theorem levT_len : (levT nds).length = nds.length := by simp [levT]
theorem parT_len : (parT W H l nds).length = nds.length := by simp [parT]
theorem areT_len : (areT W H l nds).length = nds.length := by simp [areT]
theorem arN_eq {d : Nat × Nat} : cntI (cnB W H l d.1 d.2) (H * W) = arN W H l d := rfl
end
section
variable {W H : Nat} {l : List Int} {t k : Nat}
theorem fst_spec (hk : k < (fstL W H l t).length) : (fstL W H l t).getD k 0 < H * W ∧ cnB W H l t ((fstL W H l t).getD k 0) ((fstL W H l t).getD k 0) = true ∧ ∀ j, j < (fstL W H l t).getD k 0 → cnB W H l t ((fstL W H l t).getD k 0) j = false := by
  have hm := fstL_mem.1 (getD_memNat hk)
  have hf := firstB_iff.1 hm.2
  refine ⟨hm.1, cnB_iff.2 (Cn.refl hm.1 hf.1), fun j hj => cnB_not.2 (hf.2 j hj)⟩
theorem ndK_lt {d : Nat × Nat} (h : d ∈ ndK W H l t k) : d.1 ≤ t ∧ d.2 < H * W := by
  unfold ndK at h
  rw [List.mem_append] at h
  rcases h with h | h
  · rw [ndTo_mem] at h
    exact ⟨by omega, h.2.1⟩
  · rw [List.mem_map] at h
    obtain ⟨q, hq, rfl⟩ := h
    rw [List.mem_filter] at hq
    exact ⟨Nat.le_refl _, (fstL_mem.1 (List.mem_of_mem_take hq.1)).1⟩
theorem ndK_pre (ht : t < 100) : ∃ r, nodeL W H l = ndK W H l t k ++ r := by
  have h1 : ∃ r, ndTo W H l (t + 1) = ndK W H l t k ++ r := by
    rw [← ndK_all]
    unfold ndK
    refine ⟨((((fstL W H l t).take (fstL W H l t).length).drop k).filter (ownB W H l t)).map fun q => (t, q), ?_⟩
    rw [List.append_assoc, ← List.map_append, ← List.filter_append, List.take_length, List.take_append_drop]
  obtain ⟨r, hr⟩ := h1
  obtain ⟨r2, h2, -⟩ := ndTo_pre (W := W) (H := H) (l := l) (t + 1) (100 - (t + 1))
  rw [show t + 1 + (100 - (t + 1)) = 100 by omega] at h2
  exact ⟨r ++ r2, by unfold nodeL; rw [h2, hr, List.append_assoc]⟩
theorem ndK_len (hg : GrL W H l) (ht : t < 100) : (ndK W H l t k).length ≤ H * W := by
  obtain ⟨r, h⟩ := ndK_pre (W := W) (H := H) (l := l) (k := k) ht
  have := nodeL_len hg
  rw [h, List.length_append] at this
  omega
end
end Go.Proofs.Ythgkmaccbcpaeaa
