/- Peaks of grey pictures: the plain facts that a law asks for. -/
import Derived.Test.YthgkmaccbcpaeaaGrB
import Derived.Test.YthgkmaccbcpaeaaMaxI
namespace Go.Proofs.Ythgkmaccbcpaeaa
open Go Go.RowKit
theorem pasR_end {α : Type} {C : List α → Nat → Bool} {V : List α → Nat → α} {M : Nat} {l res : List α} (h : PasR C V M l res) : PasR C V M res res := by
  induction h with
  | done h => exact .done h
  | more _ _ ih => exact ih
theorem cut_facts {W H : Nat} {l res : List Int} {h : Int} (h0 : 0 ≤ h) (hl : ∀ k, k < l.length → 0 ≤ l.getD k 0) (hR : PasR (greC W H l) (greV W H l) l.length (cutL h l) res) : Under l res ∧ ∀ k, k < l.length → l.getD k 0 - h ≤ res.getD k 0 := by
  have hf : Falls (greC W H l) (greV W H l) l.length (fun x => Under l x ∧ ∀ k, k < l.length → l.getD k 0 - h ≤ x.getD k 0) (gap l) := by
    have hg := gre_falls W H l l.length rfl
    refine ⟨fun x k hk hx hc => ⟨hg.keep x k hk hx.1 hc, fun j hj => ?_⟩, fun x k hk hx hc => hg.less x k hk hx.1 hc⟩
    have hc' : x.getD k 0 < greV W H l x k := of_decide_eq_true hc
    rw [getD_set x k j _ (by rw [hx.1.1]; exact hk)]
    have := hx.2 j hj
    by_cases e : j = k
    · rw [if_pos e]; rw [e] at this ⊢; omega
    · rw [if_neg e]; exact this
  refine PasR.keep hf ⟨cut_under h0 hl, fun k hk => ?_⟩ hR
  rw [cutL_at hk]
  unfold cutF mxK
  split <;> omega
theorem tableOk_grlP {W H : Nat} {xs : List Int} {N : Int} (hW1 : 1 ≤ W) (hW2 : W ≤ 16) (hH1 : 1 ≤ H) (hH2 : H ≤ 16) (hx : ∀ k, k < H * W → 0 ≤ xs.getD k 0 ∧ xs.getD k 0 ≤ N) : tableOk (grl W H xs) N = true := by
  unfold tableOk
  rw [grl_len, grl_row (by omega : 0 < H), inB_true.2 (by omega), inB_true.2 (by omega), Bool.true_and, Bool.true_and, all_getD (d := [])]
  intro i hi
  rw [grl_len] at hi
  unfold rowOk
  rw [grl_row hi, decide_eq_true rfl, Bool.true_and, all_getD (d := 0)]
  intro j hj
  rw [grl_row hi] at hj
  rw [grl_at hj hi]
  have hb := Nat.mul_le_mul_right W (show i + 1 ≤ H by omega)
  rw [Nat.succ_mul] at hb
  exact inB_true.2 (hx _ (by omega))
theorem grl_flattenP {W H : Nat} {l : List Int} (hW : 0 < W) (hl : l.length = H * W) : (grl W H l).flatten = l := by
  have hr : ∀ r, r < (grl W H l).length → ((grl W H l).getD r []).length = W := fun r h => by rw [grl_len] at h; exact grl_row h
  have hfl := flat_len W (grl W H l) hr
  rw [grl_len] at hfl
  apply List.ext_getElem?
  intro k
  by_cases hk : k < H * W
  · have e2 : ∀ (m : List Int), k < m.length → m[k]? = some (m.getD k 0) := fun m hm => by rw [List.getD_eq_getElem?_getD, List.getElem?_eq_getElem hm]; rfl
    have hx : k % W < W := Nat.mod_lt _ hW
    have hy : k / W < H := by rw [Nat.div_lt_iff_lt_mul hW]; exact hk
    have he : k / W * W + k % W = k := by rw [Nat.mul_comm]; exact Nat.div_add_mod _ _
    have h := flat_at W (grl W H l) _ _ hr (by rw [grl_len]; exact hy) hx
    rw [he, grl_at hx hy, he] at h
    rw [e2 _ (by rw [hfl, Nat.mul_comm]; exact hk), e2 _ (by rw [hl]; exact hk), h]
  · rw [List.getElem?_eq_none (by rw [hfl, Nat.mul_comm]; omega), List.getElem?_eq_none (by omega)]
/-- What is left of the peaks comes back by reconstruction. -/
theorem peak_rec {m : List (List Int)} {h : Int} {res : List Int} (hok : tableOk m 99 = true) (h0 : 0 ≤ h) (hR : PasR (greC (m.getD 0 []).length m.length m.flatten) (greV (m.getD 0 []).length m.length m.flatten) m.flatten.length (cutL h m.flatten) res) :
    recOk (grl (m.getD 0 []).length m.length res) m = true ∧ RecO (grl (m.getD 0 []).length m.length res) m res ∧ tableOk (grl (m.getD 0 []).length m.length res) 99 = true ∧
      ∀ x y, x < (m.getD 0 []).length → y < m.length → ((grl (m.getD 0 []).length m.length res).getD y []).getD x 0 ≤ (m.getD y []).getD x 0 ∧ (m.getD y []).getD x 0 - h ≤ ((grl (m.getD 0 []).length m.length res).getD y []).getD x 0 := by
  obtain ⟨v1, v2, v3, v4, v5, v6⟩ := tableOk_spec hok
  have hl : m.flatten.length = m.length * (m.getD 0 []).length := by rw [flat_len _ m v5, Nat.mul_comm]
  obtain ⟨hu, hlo⟩ := cut_facts h0 (fun k hk => (flat_get hok hk).1) hR
  have hrl : res.length = m.length * (m.getD 0 []).length := by rw [hu.1, hl]
  have hfl : (grl (m.getD 0 []).length m.length res).flatten = res := grl_flattenP v3 hrl
  have hg0 : ((grl (m.getD 0 []).length m.length res).getD 0 []).length = (m.getD 0 []).length := grl_row v1
  have htb : tableOk (grl (m.getD 0 []).length m.length res) 99 = true := tableOk_grlP v3 v4 v1 v2 fun k hk => by
    have h1 := hu.2 k (by rw [hrl]; exact hk)
    have h2 := (flat_get hok (k := k) (by rw [hl]; exact hk)).2
    omega
  refine ⟨?_, fun _ => ?_, htb, fun x y hx hy => ?_⟩
  · unfold recOk sizeOk2
    rw [htb, hok, grl_len, hg0, decide_eq_true rfl, decide_eq_true rfl, hfl, leL_true.2 fun k hk => (hu.2 k hk).2]
    rfl
  · rw [hfl]
    exact pasR_end hR
  · have hb := Nat.mul_le_mul_right (m.getD 0 []).length (show y + 1 ≤ m.length by omega)
    rw [Nat.succ_mul] at hb
    have e := flat_at (m.getD 0 []).length m y x v5 hy hx
    rw [grl_at hx hy, ← e]
    exact ⟨(hu.2 _ (by rw [hrl]; omega)).2, hlo _ (by rw [hl]; omega)⟩
section
variable {W H : Nat} {l : List Int} {p q k : Nat}
/-- Above a node that holds a spot lies another one that holds it: its parent chain leads to a child of the node. -/
theorem has_child (hq : q < H * W) (h1 : holdN W H l q k = true) : ∀ n i, i ≤ n → k < i → i < (nodeL W H l).length → holdN W H l q i = true → ((k : Nat) : Int) ∈ parT W H l (nodeL W H l)
  | 0, i, hn, hki, _, _ => by omega
  | n + 1, i, hn, hki, hi, h2 => by
    have hp := par_last hq hi h2
    rcases lastW_spec (holdN W H l q) i with ⟨-, h⟩ | ⟨j, j1, j2, j3, j4⟩
    · have := h k hki
      rw [h1] at this
      cases this
    · have hkj : k ≤ j := by
        apply Classical.byContradiction
        intro hc
        have := j4 k (by omega) hki
        rw [h1] at this
        cases this
      by_cases e : j = k
      · rw [j2, e] at hp
        unfold parT
        exact List.mem_map.2 ⟨_, getD_memN hi, hp⟩
      · exact has_child hq h1 n j (by omega) (by omega) (by omega) j3
theorem max_no (hg : GrL W H l) (hp : p < H * W) (hq : q < H * W) (ha : spN W q ∈ nbA false (spN W p)) (hlt : l.getD p 0 < l.getD q 0) : lastIn W H l (nodeL W H l) p ∈ parT W H l (nodeL W H l) := by
  have hc : Cn W H l (l.getD p 0) p q := Rch.step (Cn.refl hp (Int.le_refl _)) ha (by rw [lvR_at hq, decide_eq_true_iff]; omega)
  obtain ⟨k, k1, k2, k3, k4, -⟩ := node_of hg hp
  obtain ⟨i, i1, -, i3, i4, -⟩ := node_of hg hq
  have hkq : holdN W H l q k = true := by
    rw [holdN_iff, k3]
    have h4 := cnB_iff.1 k4
    rw [k3] at h4
    exact h4.trans hc
  have hiq : holdN W H l q i = true := holdN_iff.2 (cnB_iff.1 i4)
  have hki : k < i := by
    apply Classical.byContradiction
    intro hn
    have := node_le (W := W) (H := H) (l := l) (Nat.le_of_not_lt hn) k1
    omega
  rw [k2]
  exact has_child hq hkq i i (Nat.le_refl _) hki i1 hiq
theorem top_spot (l : List Int) : ∀ n, 0 < n → ∃ p, p < n ∧ ∀ q, q < n → l.getD q 0 ≤ l.getD p 0
  | 0, h => by omega
  | 1, _ => ⟨0, by omega, fun q hq => by rw [show q = 0 by omega]; exact Int.le_refl _⟩
  | n + 2, _ => by
    obtain ⟨p, h1, h2⟩ := top_spot l (n + 1) (by omega)
    by_cases hle : l.getD (n + 1) 0 ≤ l.getD p 0
    · exact ⟨p, by omega, fun q hq => by
        by_cases e : q = n + 1
        · rw [e]; exact hle
        · exact h2 q (by omega)⟩
    · exact ⟨n + 1, by omega, fun q hq => by
        by_cases e : q = n + 1
        · rw [e]; exact Int.le_refl _
        · have := h2 q (by omega); omega⟩
theorem max_ex (hg : GrL W H l) (h0 : 0 < H * W) : ∃ p, p < H * W ∧ ¬ lastIn W H l (nodeL W H l) p ∈ parT W H l (nodeL W H l) := by
  obtain ⟨p, hp, hmax⟩ := top_spot l (H * W) h0
  refine ⟨p, hp, fun hm => ?_⟩
  obtain ⟨k, k1, k2, k3, -⟩ := node_of hg hp
  rw [k2] at hm
  unfold parT at hm
  obtain ⟨d, hd, e⟩ := List.mem_map.1 hm
  obtain ⟨i, hi, rfl⟩ := memN_getD hd
  obtain ⟨n1, n2, n3, n4⟩ := node_at hi
  have hh : holdN W H l ((nodeL W H l).getD i (0, 0)).2 i = true := holdN_iff.2 (.refl n2 (firstB_iff.1 n3).1)
  rw [par_last n2 hi hh] at e
  rcases lastW_spec (holdN W H l ((nodeL W H l).getD i (0, 0)).2) i with ⟨q1, -⟩ | ⟨j, j1, j2, j3, -⟩
  · rw [q1] at e; omega
  · rw [j2] at e
    have hjk : j = k := by omega
    subst hjk
    have hlt := hold_lt n2 j1 hi j3 hh
    obtain ⟨s, hs, -, c2⟩ := ownB_iff.1 n4
    have := hmax s hs
    omega
end
end Go.Proofs.Ythgkmaccbcpaeaa
