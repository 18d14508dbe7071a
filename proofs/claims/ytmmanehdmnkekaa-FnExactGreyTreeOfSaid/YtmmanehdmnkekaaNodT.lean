/- Plain: what the program's nodes are under way, and sorted. -/
import Derived.Test.YtmmanehdmnkekaaNodQ
import Derived.Test.YtmmanehdmnkekaaNodS
namespace Go.Proofs.Ytmmanehdmnkekaa
open Go Go.RowKit
section
variable {W H : Nat} {l : List Int}
theorem spN_inj {j k : Nat} (h : spN W j = spN W k) : j = k := by
  unfold spN at h
  simp only [Prod.mk.injEq] at h
  have h1 := Nat.div_add_mod j W
  have h2 := Nat.div_add_mod k W
  rw [← h1, ← h2, Int.ofNat_inj.1 h.1, Int.ofNat_inj.1 h.2]
theorem spN_ord {j k : Nat} (hW : 0 < W) : ordJ (spN W j) (spN W k) < 0 ↔ j < k := by
  rw [ordJ_neg]
  unfold spN
  simp only
  have h1 := Nat.div_add_mod j W
  have h2 := Nat.div_add_mod k W
  have m1 := Nat.mod_lt j hW
  have m2 := Nat.mod_lt k hW
  constructor
  · rintro (h | ⟨h, h'⟩)
    · have h3 : j / W + 1 ≤ k / W := by omega
      have h4 := Nat.mul_le_mul_left W h3
      rw [Nat.mul_succ] at h4
      omega
    · have h3 : j / W = k / W := by omega
      rw [h3] at h1
      omega
  · intro h
    have h3 : j / W ≤ k / W := Nat.div_le_div_right (Nat.le_of_lt h)
    rcases Nat.lt_or_ge (j / W) (k / W) with h4 | h4
    · left; omega
    · right
      have e : j / W = k / W := by omega
      rw [e] at h1 ⊢
      exact ⟨rfl, by omega⟩
/-- Which spots are done behind the first k. -/
noncomputable def dnP (W H : Nat) (l : List Int) (k : Nat) (p : Int × Int) : Bool := hasB W H p.1 p.2 && doneB W H l k (p.2 * W + p.1).toNat
theorem spN_idx {j : Nat} : ((spN W j).2 * (W : Int) + (spN W j).1).toNat = j := by
  unfold spN
  simp only
  rw [← Int.natCast_mul, ← Int.natCast_add, Int.toNat_natCast, Nat.mul_comm]
  exact Nat.div_add_mod _ _
theorem spN_has {j : Nat} (hj : j < H * W) : hasB W H (spN W j).1 (spN W j).2 = true := by
  have hW : 0 < W := Nat.pos_of_ne_zero fun e => by rw [e] at hj; simp at hj
  rw [hasB_true]
  exact ⟨Int.natCast_nonneg _, Int.ofNat_lt.2 (Nat.mod_lt _ hW), Int.natCast_nonneg _, Int.ofNat_lt.2 (by rw [Nat.div_lt_iff_lt_mul hW]; exact hj)⟩
theorem dnP_at {k j : Nat} (hj : j < H * W) : dnP W H l k (spN W j) = doneB W H l k j := by unfold dnP; rw [spN_has hj, spN_idx, Bool.true_and]
theorem dnP_zero (p : Int × Int) : dnP W H l 0 p = false := by unfold dnP; rw [doneB_zero, Bool.and_false]
theorem hasB_sp {p : Int × Int} (h : hasB W H p.1 p.2 = true) : ∃ j, j < H * W ∧ p = spN W j := lvR_box (W := W) (H := H) (l := []) (t := nbV W [] p.1 p.2) (by unfold lvR; rw [h]; simp)
theorem dnP_skip {k : Nat} (h : doneB W H l k k = true) (p : Int × Int) : dnP W H l (k + 1) p = dnP W H l k p := by unfold dnP; rw [doneB_skip h]
/-- Under way: those done before, and those of the part that are seen and have its level. -/
noncomputable def dnL (W H : Nat) (l : List Int) (k : Nat) (ds : List (Int × Int)) (left : Int × Int → Bool) (p : Int × Int) : Bool := dnP W H l k p || (decide (p ∈ ds) && (!left p && decide (nbV W l p.1 p.2 = l.getD k 0)))
theorem dnL_start {k : Nat} {ds : List (Int × Int)} {left : Int × Int → Bool} (h : ∀ q, q ∈ ds → left q = true) (p : Int × Int) : dnP W H l k p = dnL W H l k ds left p := by
  unfold dnL
  by_cases hp : p ∈ ds
  · rw [h p hp]; simp
  · rw [decide_eq_false hp]; simp
theorem dnL_step {k : Nat} {ds : List (Int × Int)} {left : Int × Int → Bool} {q : Int × Int} (hq : q ∈ ds) (hl : nbV W l q.1 q.2 = l.getD k 0) (p : Int × Int) : (if p = q then true else dnL W H l k ds left p) = dnL W H l k ds (fun r => left r && !(r == q)) p := by
  unfold dnL
  by_cases e : p = q
  · subst e
    rw [if_pos rfl, decide_eq_true hq, decide_eq_true hl]
    simp
  · rw [if_neg e]
    have : (p == q) = false := by simpa using e
    dsimp only
    rw [this]
    simp
theorem dnL_same {k : Nat} {ds : List (Int × Int)} {left : Int × Int → Bool} {q : Int × Int} (hl : nbV W l q.1 q.2 ≠ l.getD k 0) (p : Int × Int) : dnL W H l k ds left p = dnL W H l k ds (fun r => left r && !(r == q)) p := by
  unfold dnL
  by_cases e : p = q
  · subst e
    rw [decide_eq_false hl]
    simp
  · have : (p == q) = false := by simpa using e
    dsimp only
    rw [this]
    simp
theorem dnL_done {k : Nat} (_ : k < H * W) {ds : List (Int × Int)} {left : Int × Int → Bool} (h0 : ∀ p, left p = false) (hds : ∀ p, p ∈ ds ↔ Rch (lvR W H l (l.getD k 0)) (nbA false) [spN W k] p) (p : Int × Int) : dnL W H l k ds left p = dnP W H l (k + 1) p := by
  unfold dnL
  rw [h0 p, Bool.not_false, Bool.true_and]
  cases hb : hasB W H p.1 p.2
  · have hn : ¬ p ∈ ds := fun h => by
      have h1 := ((hds p).1 h).right
      unfold lvR at h1
      rw [hb] at h1
      cases h1
    rw [decide_eq_false hn]
    unfold dnP
    rw [hb]
    rfl
  · obtain ⟨j, hj, rfl⟩ := hasB_sp hb
    rw [dnP_at hj, dnP_at hj, doneB_more]
    have e : decide (spN W j ∈ ds) = cnB W H l (l.getD k 0) k j := by
      rw [Bool.eq_iff_iff, decide_eq_true_iff, cnB_iff]
      exact hds _
    have e2 : nbV W l (spN W j).1 (spN W j).2 = l.getD j 0 := by
      unfold nbV
      rw [spN_idx]
    rw [e, e2, Bool.and_comm (cnB W H l (l.getD k 0) k j)]
/-- The first spot so far. -/
def MinL (W H : Nat) (ds : List (Int × Int)) (left : Int × Int → Bool) (k m : Nat) : Prop :=
  (m = k ∨ (spN W m ∈ ds ∧ left (spN W m) = false)) ∧ m ≤ k ∧ ∀ j, j < H * W → spN W j ∈ ds → left (spN W j) = false → m ≤ j
theorem MinL.start {ds : List (Int × Int)} {left : Int × Int → Bool} {k : Nat} (h : ∀ q, q ∈ ds → left q = true) : MinL W H ds left k k := ⟨.inl rfl, Nat.le_refl _, fun j _ h1 h2 => by rw [h _ h1] at h2; cases h2⟩
theorem MinL.less {ds : List (Int × Int)} {left : Int × Int → Bool} {k m j : Nat} (h : MinL W H ds left k m) (hj : spN W j ∈ ds) (hjm : j < m) : MinL W H ds (fun r => left r && !(r == spN W j)) k j := by
  refine ⟨.inr ⟨hj, by simp⟩, by have := h.2.1; omega, fun i hi h1 h2 => ?_⟩
  simp only [Bool.and_eq_false_iff, Bool.not_eq_false', beq_iff_eq] at h2
  rcases h2 with h2 | h2
  · have := h.2.2 i hi h1 h2; omega
  · rw [spN_inj h2]; exact Nat.le_refl _
theorem MinL.more {ds : List (Int × Int)} {left : Int × Int → Bool} {k m j : Nat} (h : MinL W H ds left k m) (hjm : m ≤ j) : MinL W H ds (fun r => left r && !(r == spN W j)) k m := by
  refine ⟨h.1.imp id fun h1 => ⟨h1.1, by dsimp only; rw [h1.2]; rfl⟩, h.2.1, fun i hi h1 h2 => ?_⟩
  simp only [Bool.and_eq_false_iff, Bool.not_eq_false', beq_iff_eq] at h2
  rcases h2 with h2 | h2
  · exact h.2.2 i hi h1 h2
  · rw [spN_inj h2]; exact hjm
theorem MinL.done {ds : List (Int × Int)} {left : Int × Int → Bool} {k m : Nat} (h : MinL W H ds left k m) (hk : k < H * W) (h0 : ∀ p, left p = false) (hds : ∀ p, p ∈ ds ↔ Rch (lvR W H l (l.getD k 0)) (nbA false) [spN W k] p) : mnN W H l (l.getD k 0) k = m := by
  refine mnN_eq hk (Int.le_refl _) ?_ fun i hi hc => ?_
  · rcases h.1 with e | ⟨h1, -⟩
    · rw [e]; exact Cn.refl hk (Int.le_refl _)
    · exact (hds _).1 h1
  · have := h.2.2 i (by have := h.2.1; omega) ((hds _).2 hc) (h0 _)
    omega
/-- What a node is known by. -/
def ndKey (W : Nat) (d : NdV) : Nat × Nat := (d.1.toNat, (d.2.2.1 * W + d.2.1).toNat)
/-- A node's level and first spot. -/
def NdIs (W H : Nat) (d : NdV) : Prop := d.1 = ((ndKey W d).1 : Int) ∧ (d.2.1, d.2.2.1) = spN W (ndKey W d).2 ∧ (ndKey W d).2 < H * W
theorem ndKey_mk {t : Int} {q b : Nat} (_ : 0 ≤ t) : ndKey W (t, (spN W q).1, (spN W q).2, b) = (t.toNat, q) := by
  unfold ndKey
  simp only
  rw [spN_idx]
theorem NdIs.mk' {t : Int} {q b : Nat} (ht : 0 ≤ t) (hq : q < H * W) : NdIs W H (t, (spN W q).1, (spN W q).2, b) := by
  unfold NdIs
  rw [ndKey_mk ht]
  exact ⟨by simp only; omega, rfl, hq⟩
/-- Sorted nodes are the nodes in order. -/
theorem nodes_sorted (hg : GrL W H l) {ds qs : List NdV} (hds : ds.map (ndKey W) = foundTo W H l (H * W)) (hI : ∀ d, d ∈ ds → NdIs W H d) (hp : qs.Perm ds) (hs : qs.Pairwise fun a b => ltOf cmpNd b a = false) : qs.map (ndKey W) = nodeL W H l := by
  have hm : (qs.map (ndKey W)).Perm (foundTo W H l (H * W)) := by rw [← hds]; exact hp.map _
  have hnd := hm.nodup_iff.2 (found_nodup hg)
  refine sorted_same _ _ ?_ (ndTo_sorted 100) fun d => ?_
  · rw [List.pairwise_map]
    rw [List.nodup_iff_pairwise_ne, List.pairwise_map] at hnd
    refine List.Pairwise.imp_of_mem (fun {a b} ha hb h => ?_) (List.Pairwise.and hs hnd)
    obtain ⟨h1, h2⟩ := h
    have ia := hI a (hp.mem_iff.1 ha)
    have ib := hI b (hp.mem_iff.1 hb)
    unfold ltOf at h1
    rw [decide_eq_false_iff_not, cmpNd_neg] at h1
    obtain ⟨a1, a2, a3⟩ := ia
    obtain ⟨b1, b2, b3⟩ := ib
    have hW : 0 < W := Nat.pos_of_ne_zero fun e => by rw [e] at a3; simp at a3
    have ho := spN_ord (W := W) (j := (ndKey W b).2) (k := (ndKey W a).2) hW
    rw [← a2, ← b2, ordJ_neg] at ho
    simp only at ho
    unfold ndLt
    rcases Nat.lt_trichotomy (ndKey W a).1 (ndKey W b).1 with h3 | h3 | h3
    · exact .inl h3
    · refine .inr ⟨h3, ?_⟩
      rcases Nat.lt_trichotomy (ndKey W a).2 (ndKey W b).2 with h4 | h4 | h4
      · exact h4
      · exact absurd (Prod.ext h3 h4) h2
      · exact absurd (.inr ⟨by omega, ho.2 h4⟩) h1
    · exact absurd (.inl (by omega)) h1
  · rw [hm.mem_iff, found_mem hg]
    first | done | rfl
end
end Go.Proofs.Ytmmanehdmnkekaa
