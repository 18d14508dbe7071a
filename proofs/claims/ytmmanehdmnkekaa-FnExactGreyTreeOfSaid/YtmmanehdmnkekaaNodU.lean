/- Plain: the nodes that hold a spot, and their parents. -/
import Derived.Test.YtmmanehdmnkekaaNodR
namespace Go.Proofs.Ytmmanehdmnkekaa
open Go.RowKit
/-- Which nodes hold a spot. -/
noncomputable def holdN (W H : Nat) (l : List Int) (p j : Nat) : Bool := cnB W H l ((nodeL W H l).getD j (0, 0)).1 ((nodeL W H l).getD j (0, 0)).2 p
section
variable {W H : Nat} {l : List Int} {p j k : Nat}
theorem holdN_iff : holdN W H l p j = true ↔ Cn W H l ((nodeL W H l).getD j (0, 0)).1 ((nodeL W H l).getD j (0, 0)).2 p := by unfold holdN; exact cnB_iff
theorem node_at (hj : j < (nodeL W H l).length) : ((nodeL W H l).getD j (0, 0)).1 < 100 ∧ ((nodeL W H l).getD j (0, 0)).2 < H * W ∧ firstB W H l ((nodeL W H l).getD j (0, 0)).1 ((nodeL W H l).getD j (0, 0)).2 = true ∧ ownB W H l ((nodeL W H l).getD j (0, 0)).1 ((nodeL W H l).getD j (0, 0)).2 = true := nodeL_mem.1 (getD_memN hj)
theorem node_lt (hjk : j < k) (hk : k < (nodeL W H l).length) : ndLt ((nodeL W H l).getD j (0, 0)) ((nodeL W H l).getD k (0, 0)) := pairwise_at (ndTo_sorted (W := W) (H := H) (l := l) 100) hjk hk
theorem node_le (hjk : j ≤ k) (hk : k < (nodeL W H l).length) : ((nodeL W H l).getD j (0, 0)).1 ≤ ((nodeL W H l).getD k (0, 0)).1 := by
  rcases Nat.lt_or_ge j k with h | h
  · have := node_lt h hk
    unfold ndLt at this
    omega
  · rw [show j = k by omega]; exact Nat.le_refl _
/-- Of two nodes that hold one spot the earlier one has the lesser level. -/
theorem hold_lt (hp : p < H * W) (hjk : j < k) (hk : k < (nodeL W H l).length) (h1 : holdN W H l p j = true) (h2 : holdN W H l p k = true) : ((nodeL W H l).getD j (0, 0)).1 < ((nodeL W H l).getD k (0, 0)).1 := by
  have hl := node_lt hjk hk
  rw [holdN_iff] at h1 h2
  obtain ⟨-, a2, a3, -⟩ := node_at (W := W) (H := H) (l := l) (show j < (nodeL W H l).length by omega)
  obtain ⟨-, b2, b3, -⟩ := node_at (W := W) (H := H) (l := l) hk
  rcases hl with hl | ⟨hl, hl2⟩
  · exact hl
  · exfalso
    have e1 := mnN_of_first a2 a3 hp h1
    have e2 := mnN_of_first b2 b3 hp h2
    rw [hl] at e1
    omega
/-- A node's spot tells which lesser nodes hold it. -/
theorem hold_first (h : holdN W H l p k = true) (hl : ((nodeL W H l).getD j (0, 0)).1 ≤ ((nodeL W H l).getD k (0, 0)).1) : holdN W H l ((nodeL W H l).getD k (0, 0)).2 j = holdN W H l p j := by
  rw [holdN_iff] at h
  have hm := Cn.mono h (t' := ((((nodeL W H l).getD j (0, 0)).1 : Nat) : Int)) (by omega)
  rw [Bool.eq_iff_iff, holdN_iff, holdN_iff]
  exact ⟨fun h' => h'.trans hm, fun h' => h'.trans hm.symm⟩
/-- The parent is the last one before that holds the spot. -/
theorem par_last (hp : p < H * W) (hk : k < (nodeL W H l).length) (h : holdN W H l p k = true) : parN W H l ((nodeL W H l).getD k (0, 0)) = lastW (holdN W H l p) k := by
  rw [← parN_prog hk]
  refine lastW_congr fun j hj => ?_
  have hf := hold_first (j := j) h (node_le (by omega) hk)
  unfold holdN at hf ⊢
  rw [hf]
  cases hc : cnB W H l ((nodeL W H l).getD j (0, 0)).1 ((nodeL W H l).getD j (0, 0)).2 p
  · rw [Bool.and_false]
  · rw [decide_eq_true (hold_lt hp hj hk hc h), Bool.true_and]
theorem nodeL_pos (hg : GrL W H l) (hp : p < H * W) : 0 < (nodeL W H l).length := by
  obtain ⟨k, hk, -⟩ := node_of hg hp
  omega
theorem nodeL_nodup : (nodeL W H l).Nodup := by
  rw [List.nodup_iff_pairwise_ne]
  exact List.Pairwise.imp (fun {a b} h e => by subst e; exact ndLt_irrefl h) (ndTo_sorted 100)
theorem nodeL_len (hg : GrL W H l) : (nodeL W H l).length ≤ H * W := by
  have hp := (List.perm_ext_iff_of_nodup (found_nodup hg) (nodeL_nodup (W := W) (H := H) (l := l))).2 fun d => found_mem hg
  rw [← hp.length_eq]
  exact found_len
/-- All spots are joined at a level that none is below. -/
theorem all_joined {t : Int} (ht : ∀ q, q < H * W → t ≤ l.getD q 0) : ∀ {p q : Nat}, p < H * W → q < H * W → Cn W H l t p q := by
  have hx : ∀ (x y : Nat), x < W → y < H → Cn W H l t (y * W) (y * W + x) := by
    intro x
    induction x with
    | zero => intro y h1 h2; exact Cn.refl (by have := Nat.mul_le_mul_right W (show y + 1 ≤ H by omega); rw [Nat.succ_mul] at this; omega) (ht _ (by have := Nat.mul_le_mul_right W (show y + 1 ≤ H by omega); rw [Nat.succ_mul] at this; omega))
    | succ x ih =>
      intro y h1 h2
      have hb := Nat.mul_le_mul_right W (show y + 1 ≤ H by omega)
      rw [Nat.succ_mul] at hb
      refine .step (ih y (by omega) h2) ?_ (by rw [lvR_at (by omega), decide_eq_true_iff]; exact ht _ (by omega))
      unfold spN nbA arndL
      rw [Nat.mul_comm y W, Nat.mul_add_mod, Nat.mul_add_mod, Nat.mul_add_div (by omega), Nat.mul_add_div (by omega), Nat.mod_eq_of_lt h1, Nat.mod_eq_of_lt (show x < W by omega), Nat.div_eq_of_lt h1, Nat.div_eq_of_lt (show x < W by omega)]
      simp
  have hy : ∀ (y : Nat), y < H → 0 < W → Cn W H l t 0 (y * W) := by
    intro y
    induction y with
    | zero => intro h1 h2; rw [Nat.zero_mul]; exact Cn.refl (Nat.mul_pos h1 h2) (ht _ (Nat.mul_pos h1 h2))
    | succ y ih =>
      intro h1 h2
      have hb := Nat.mul_le_mul_right W (show y + 1 + 1 ≤ H by omega)
      rw [Nat.succ_mul] at hb
      refine .step (ih (by omega) h2) ?_ (by rw [lvR_at (by omega), decide_eq_true_iff]; exact ht _ (by omega))
      unfold spN nbA arndL
      rw [Nat.mul_mod_left, Nat.mul_mod_left, Nat.mul_div_cancel _ h2, Nat.mul_div_cancel _ h2]
      simp
  intro p q hp hq
  have hW : 0 < W := Nat.pos_of_ne_zero fun e => by rw [e] at hp; simp at hp
  have h0 : ∀ r, r < H * W → Cn W H l t 0 r := fun r hr => by
    have h2 : r / W < H := by rw [Nat.div_lt_iff_lt_mul hW]; exact hr
    have h3 := (hy (r / W) h2 hW).trans (hx (r % W) (r / W) (Nat.mod_lt _ hW) h2)
    rw [Nat.mul_comm, Nat.div_add_mod] at h3
    exact h3
  exact (h0 p hp).symm.trans (h0 q hq)
/-- The first node has the least level. -/
theorem node0_least (hg : GrL W H l) {q : Nat} (hq : q < H * W) : (((nodeL W H l).getD 0 (0, 0)).1 : Int) ≤ l.getD q 0 := by
  obtain ⟨k, hk, -, h1, -⟩ := node_of hg hq
  rw [← h1]
  have := node_le (W := W) (H := H) (l := l) (Nat.zero_le k) hk
  omega
theorem hold_zero (hg : GrL W H l) (hp : p < H * W) : holdN W H l p 0 = true := by
  rw [holdN_iff]
  have h0 := node_at (W := W) (H := H) (l := l) (nodeL_pos hg hp)
  exact all_joined (fun q hq => node0_least hg hq) h0.2.1 hp
end
/-- What is left of a spot where small parts are taken away. -/
noncomputable def openK (W H : Nat) (l : List Int) (least : Int) (p i : Nat) : Int := lastW (fun j => holdN W H l p j && decide (least ≤ (arN W H l ((nodeL W H l).getD j (0, 0)) : Int))) i
noncomputable def openV (W H : Nat) (l : List Int) (least : Int) (p i : Nat) : Int := (((nodeL W H l).getD (openK W H l least p i).toNat (0, 0)).1 : Int)
section
variable {W H : Nat} {l : List Int} {p j k : Nat} {least : Int}
theorem openV_zero : openV W H l least p 0 = (((nodeL W H l).getD 0 (0, 0)).1 : Int) := rfl
theorem openV_no (h : (holdN W H l p k && decide (least ≤ (arN W H l ((nodeL W H l).getD k (0, 0)) : Int))) = false) : openV W H l least p (k + 1) = openV W H l least p k := by
  unfold openV openK
  conv => lhs; unfold lastW
  rw [h, if_neg (by simp)]
theorem openV_yes (hk : k < (nodeL W H l).length) (h : (holdN W H l p k && decide (least ≤ (arN W H l ((nodeL W H l).getD k (0, 0)) : Int))) = true) :
    openV W H l least p (k + 1) = (((nodeL W H l).getD k (0, 0)).1 : Int) ∧ openV W H l least p k ≤ (((nodeL W H l).getD k (0, 0)).1 : Int) := by
  refine ⟨?_, ?_⟩
  · unfold openV openK
    conv => lhs; unfold lastW
    rw [h, if_pos rfl]
    rfl
  · have := lastW_lo (fun j => holdN W H l p j && decide (least ≤ (arN W H l ((nodeL W H l).getD j (0, 0)) : Int))) k
    have hle : (openK W H l least p k).toNat ≤ k := by unfold openK; omega
    have := node_le (W := W) (H := H) (l := l) hle hk
    unfold openV
    omega
/-- Where the climb ends. -/
theorem openV_end (hg : GrL W H l) (hp : p < H * W) (hk : k < (nodeL W H l).length) (h1 : holdN W H l p k = true) (h2 : ∀ j, k < j → j < (nodeL W H l).length → holdN W H l p j = true → (arN W H l ((nodeL W H l).getD j (0, 0)) : Int) < least)
    (h3 : least ≤ (arN W H l ((nodeL W H l).getD k (0, 0)) : Int) ∨ parN W H l ((nodeL W H l).getD k (0, 0)) < 0) : openV W H l least p (nodeL W H l).length = (((nodeL W H l).getD k (0, 0)).1 : Int) := by
  have hno : ∀ j, k < j → j < (nodeL W H l).length → (holdN W H l p j && decide (least ≤ (arN W H l ((nodeL W H l).getD j (0, 0)) : Int))) = false := fun j hj1 hj2 => by
    cases hh : holdN W H l p j
    · rfl
    · rw [decide_eq_false (by have := h2 j hj1 hj2 hh; omega)]; rfl
  by_cases ha : least ≤ (arN W H l ((nodeL W H l).getD k (0, 0)) : Int)
  · unfold openV openK
    rw [lastW_at hk (by rw [h1, decide_eq_true ha]; rfl) hno]
    rfl
  · rcases h3 with h3 | h3
    · exact absurd h3 ha
    rw [par_last hp hk h1] at h3
    have hk0 : k = 0 := by
      rcases lastW_spec (holdN W H l p) k with ⟨-, h⟩ | ⟨j, -, h, -⟩
      · rcases Nat.eq_zero_or_pos k with h0 | h0
        · exact h0
        · have := h 0 h0
          rw [hold_zero hg hp] at this
          cases this
      · omega
    subst hk0
    unfold openV openK
    rw [lastW_skip (a := 0) (Nat.zero_le _) fun j _ hj2 => ?_]
    · rfl
    · rcases Nat.eq_zero_or_pos j with h0 | h0
      · rw [h0, decide_eq_false ha, Bool.and_false]
      · exact hno j h0 hj2
/-- One step of the climb. -/
theorem climb_step (hp : p < H * W) (hk : k < (nodeL W H l).length) (h1 : holdN W H l p k = true) (h2 : ∀ j, k < j → j < (nodeL W H l).length → holdN W H l p j = true → (arN W H l ((nodeL W H l).getD j (0, 0)) : Int) < least) (ha : (arN W H l ((nodeL W H l).getD k (0, 0)) : Int) < least) (h3 : 0 ≤ parN W H l ((nodeL W H l).getD k (0, 0))) :
    ∃ j : Nat, j < k ∧ parN W H l ((nodeL W H l).getD k (0, 0)) = (j : Int) ∧ holdN W H l p j = true ∧ ∀ i, j < i → i < (nodeL W H l).length → holdN W H l p i = true → (arN W H l ((nodeL W H l).getD i (0, 0)) : Int) < least := by
  rw [par_last hp hk h1] at h3 ⊢
  rcases lastW_spec (holdN W H l p) k with ⟨h, -⟩ | ⟨j, q1, q2, q3, q4⟩
  · omega
  · refine ⟨j, q1, q2, q3, fun i hi1 hi2 hi3 => ?_⟩
    rcases Nat.lt_trichotomy i k with h | h | h
    · rw [q4 i hi1 h] at hi3; cases hi3
    · rw [h]; exact ha
    · exact h2 i h hi2 hi3
end
end Go.Proofs.Ytmmanehdmnkekaa
