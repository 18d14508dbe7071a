/- Trees of grey pictures: the plain facts that a law asks for. -/
import Derived.Test.YtmmanehdmnkekaaRebI
namespace Go.Proofs.Ytmmanehdmnkekaa
open Go Go.RowKit
section
variable {W H : Nat} {l : List Int} {p k j : Nat} {t : Int}
theorem least_spotG (hg : GrL W H l) : ∀ n, ∀ s, s < H * W → Cn W H l t p s → (l.getD s 0).toNat ≤ n → ∃ m, m < H * W ∧ Cn W H l t p m ∧ ∀ q, q < H * W → Cn W H l t p q → l.getD m 0 ≤ l.getD q 0
  | 0, s, hs, h, hn => ⟨s, hs, h, fun q hq _ => by have := (hg q hq).1; have := (hg s hs).1; omega⟩
  | n + 1, s, hs, h, hn => by
    by_cases hall : ∀ q, q < H * W → Cn W H l t p q → l.getD s 0 ≤ l.getD q 0
    · exact ⟨s, hs, h, hall⟩
    · have : ∃ q, q < H * W ∧ Cn W H l t p q ∧ l.getD q 0 < l.getD s 0 := by
        apply Classical.byContradiction
        intro hc
        apply hall
        intro q hq hcq
        apply Classical.byContradiction
        intro hlt
        exact hc ⟨q, hq, hcq, by omega⟩
      obtain ⟨q, hq, hcq, hlt⟩ := this
      have := (hg q hq).1
      exact least_spotG hg n q hq hcq (by omega)
theorem cn_raiseG {u : Int} (hall : ∀ q, q < H * W → Cn W H l t p q → u ≤ l.getD q 0) {x : Int × Int} (h : Rch (lvR W H l t) (nbA false) [spN W p] x) : Rch (lvR W H l u) (nbA false) [spN W p] x := by
  have hR : ∀ y, Rch (lvR W H l t) (nbA false) [spN W p] y → lvR W H l u y = true := fun y hy => by
    obtain ⟨j, hj, rfl⟩ := lvR_box hy.right
    rw [lvR_at hj, decide_eq_true_iff]
    exact hall j hj hy
  induction h with
  | start h1 h2 => exact .start h1 (hR _ (.start h1 h2))
  | step h1 h2 h3 ih => exact .step ih h2 (hR _ (.step h1 h2 h3))
theorem node_coverG (hg : GrL W H l) (hp : p < H * W) (ht : t ≤ l.getD p 0) :
    ∃ k, k < (nodeL W H l).length ∧ t ≤ (((nodeL W H l).getD k (0, 0)).1 : Int) ∧ holdN W H l p k = true ∧ ∀ q, q < H * W → cnB W H l t p q = cnB W H l ((nodeL W H l).getD k (0, 0)).1 ((nodeL W H l).getD k (0, 0)).2 q := by
  obtain ⟨s, hs, h1, h2⟩ := least_spotG hg (l.getD p 0).toNat p hp (.refl hp ht) (Nat.le_refl _)
  have hts : t ≤ l.getD s 0 := h1.right hs
  obtain ⟨k, hk, -, hlev, hcb, -⟩ := node_of hg hs
  have hps : Cn W H l (l.getD s 0) p s := cn_raiseG h2 h1
  have hfs := cnB_iff.1 hcb
  rw [hlev] at hfs
  have hfp : Cn W H l (l.getD s 0) ((nodeL W H l).getD k (0, 0)).2 p := hfs.trans hps.symm
  refine ⟨k, hk, by omega, holdN_iff.2 (by rw [hlev]; exact hfp), fun q hq => ?_⟩
  rw [hlev]
  have e : cnB W H l t p q = cnB W H l (l.getD s 0) p q := by
    cases h : cnB W H l t p q
    · refine (cnB_not.2 fun hc => cnB_not.1 h (hc.mono hts)).symm
    · exact (cnB_iff.2 (cn_raiseG h2 (cnB_iff.1 h))).symm
  rw [e, hfp.cls]
/-- A node holds its own first spot. -/
theorem hold_own (hk : k < (nodeL W H l).length) : holdN W H l ((nodeL W H l).getD k (0, 0)).2 k = true := by
  obtain ⟨h1, h2, h3, h4⟩ := node_at hk
  exact holdN_iff.2 (.refl h2 (firstB_iff.1 h3).1)
/-- Of two nodes that hold a spot the lower one is greater. -/
theorem area_lt (hp : p < H * W) (hjk : j < k) (hk : k < (nodeL W H l).length) (h1 : holdN W H l p j = true) (h2 : holdN W H l p k = true) :
    arN W H l ((nodeL W H l).getD k (0, 0)) < arN W H l ((nodeL W H l).getD j (0, 0)) := by
  have hlt := hold_lt hp hjk hk h1 h2
  obtain ⟨n1, n2, n3, n4⟩ := node_at (Nat.lt_trans hjk hk)
  obtain ⟨s, hs, c1, c2⟩ := ownB_iff.1 n4
  have c3 := holdN_iff.1 h1
  have c4 := holdN_iff.1 h2
  unfold arN
  have hnd : (((List.range (H * W)).filter (cnB W H l ((nodeL W H l).getD k (0, 0)).1 ((nodeL W H l).getD k (0, 0)).2)) ++ [s]).Nodup := by
    rw [List.nodup_append]
    refine ⟨List.Pairwise.filter _ List.nodup_range, by simp, fun a ha b hb e => ?_⟩
    rw [List.mem_singleton] at hb
    subst hb
    subst e
    rw [List.mem_filter] at ha
    have := (cnB_iff.1 ha.2).right hs
    omega
  have h := nodup_len _ ((List.range (H * W)).filter (cnB W H l ((nodeL W H l).getD j (0, 0)).1 ((nodeL W H l).getD j (0, 0)).2)) hnd fun x hx => by
    rw [List.mem_filter, List.mem_range]
    rcases List.mem_append.1 hx with hx | hx
    · rw [List.mem_filter, List.mem_range] at hx
      exact ⟨hx.1, cnB_iff.2 (c3.trans ((c4.symm.trans (cnB_iff.1 hx.2)).mono (by omega)))⟩
    · rw [List.mem_singleton.1 hx]
      exact ⟨hs, cnB_iff.2 c1⟩
  rw [List.length_append, List.length_singleton] at h
  omega
/-- What a node's parent is. -/
theorem node_par (hg : GrL W H l) (hk0 : 0 < k) (hk : k < (nodeL W H l).length) :
    ∃ j, j < k ∧ parN W H l ((nodeL W H l).getD k (0, 0)) = (j : Int) ∧ holdN W H l ((nodeL W H l).getD k (0, 0)).2 j = true ∧ (∀ i, j < i → i < k → holdN W H l ((nodeL W H l).getD k (0, 0)).2 i = false) ∧
      ((nodeL W H l).getD j (0, 0)).1 < ((nodeL W H l).getD k (0, 0)).1 ∧ arN W H l ((nodeL W H l).getD k (0, 0)) < arN W H l ((nodeL W H l).getD j (0, 0)) := by
  obtain ⟨h1, h2, h3, h4⟩ := node_at hk
  have hh := hold_own hk
  rw [par_last h2 hk hh]
  rcases lastW_spec (holdN W H l ((nodeL W H l).getD k (0, 0)).2) k with ⟨-, q⟩ | ⟨j, q1, q2, q3, q4⟩
  · have := q 0 hk0
    rw [hold_zero hg h2] at this
    cases this
  · exact ⟨j, q1, q2, q3, q4, hold_lt h2 q1 hk q3 hh, area_lt h2 q1 hk q3 hh⟩
theorem node_root (hg : GrL W H l) (hp : 0 < H * W) : parN W H l ((nodeL W H l).getD 0 (0, 0)) = -1 ∧ arN W H l ((nodeL W H l).getD 0 (0, 0)) = H * W := by
  have hk : 0 < (nodeL W H l).length := nodeL_pos hg hp
  obtain ⟨h1, h2, h3, h4⟩ := node_at hk
  refine ⟨by rw [par_last h2 hk (hold_own hk)]; rfl, ?_⟩
  unfold arN
  rw [List.filter_eq_self.2 fun q hq => ?_, List.length_range]
  exact cnB_iff.2 (all_joined (fun q hq => node0_least hg hq) h2 (List.mem_range.1 hq))
theorem area_pos (hk : k < (nodeL W H l).length) : 0 < arN W H l ((nodeL W H l).getD k (0, 0)) := by
  obtain ⟨h1, h2, h3, h4⟩ := node_at hk
  unfold arN
  exact List.length_pos_of_mem (List.mem_filter.2 ⟨List.mem_range.2 h2, cnB_iff.2 (.refl h2 (firstB_iff.1 h3).1)⟩)
/-- The nodes that begin at a level: those of at least the level whose parent lies below it. -/
noncomputable def topB (W H : Nat) (l : List Int) (t : Int) (k : Nat) : Bool :=
  decide (t ≤ (((nodeL W H l).getD k (0, 0)).1 : Int)) && (decide (k = 0) || decide ((((nodeL W H l).getD (parN W H l ((nodeL W H l).getD k (0, 0))).toNat (0, 0)).1 : Int) < t))
/-- A node that begins at a level covers its component. -/
theorem top_covers (hg : GrL W H l) (hk : k < (nodeL W H l).length) (ht : topB W H l t k = true) : ∀ q, q < H * W → cnB W H l t ((nodeL W H l).getD k (0, 0)).2 q = cnB W H l ((nodeL W H l).getD k (0, 0)).1 ((nodeL W H l).getD k (0, 0)).2 q := by
  unfold topB at ht
  rw [Bool.and_eq_true, decide_eq_true_iff, Bool.or_eq_true, decide_eq_true_iff, decide_eq_true_iff] at ht
  obtain ⟨t1, t2⟩ := ht
  obtain ⟨h1, h2, h3, h4⟩ := node_at hk
  have hf := (firstB_iff.1 h3).1
  obtain ⟨i, i1, i2, i3, i4⟩ := node_coverG hg h2 (Int.le_trans t1 hf)
  have hh := hold_own hk
  have hik : i = k := by
    apply Classical.byContradiction
    intro hne
    rcases Nat.lt_or_gt_of_ne hne with hlt | hgt
    · obtain ⟨j, j1, j2, j3, j4, j5, j6⟩ := node_par hg (by omega : 0 < k) hk
      rcases t2 with t2 | t2
      · omega
      · rw [j2, Int.toNat_natCast] at t2
        have hij : i ≤ j := by
          apply Classical.byContradiction
          intro hc
          have := j4 i (by omega) hlt
          rw [i3] at this
          cases this
        have := node_le hij (Nat.lt_trans j1 hk)
        omega
    · have ha := area_lt h2 hgt i1 hh i3
      have hle : arN W H l ((nodeL W H l).getD k (0, 0)) ≤ arN W H l ((nodeL W H l).getD i (0, 0)) := by
        unfold arN
        rw [← List.countP_eq_length_filter, ← List.countP_eq_length_filter]
        refine List.countP_mono_left fun q hq hc => ?_
        rw [← i4 q (List.mem_range.1 hq)]
        exact cnB_iff.2 ((cnB_iff.1 hc).mono t1)
      omega
  subst hik
  exact i4
/-- As many nodes begin at a level as its threshold has components. -/
theorem tops_count (hg : GrL W H l) : ((List.range (nodeL W H l).length).filter (topB W H l t)).length = (fstL W H l t).length := by
  have hndf : (fstL W H l t).Nodup := List.Pairwise.imp (fun {a b} h e => by omega) fstL_sorted
  have hndt : ((List.range (nodeL W H l).length).filter (topB W H l t)).Nodup := List.Pairwise.filter _ List.nodup_range
  apply Nat.le_antisymm
  · -- each such node has its own first spot
    have hm : (((List.range (nodeL W H l).length).filter (topB W H l t)).map fun k => mnN W H l t ((nodeL W H l).getD k (0, 0)).2).Nodup := by
      rw [List.nodup_iff_pairwise_ne, List.pairwise_map]
      refine List.Pairwise.imp_of_mem (fun {a b} ha hb hab e => ?_) (List.Pairwise.filter (topB W H l t) (List.pairwise_lt_range (n := (nodeL W H l).length)))
      rw [List.mem_filter, List.mem_range] at ha hb
      obtain ⟨a1, a2, a3, a4⟩ := node_at ha.1
      obtain ⟨b1, b2, b3, b4⟩ := node_at hb.1
      have ta := ha.2
      have tb := hb.2
      unfold topB at ta tb
      rw [Bool.and_eq_true, decide_eq_true_iff] at ta tb
      obtain ⟨-, x1, -⟩ := mnN_spec a2 (Int.le_trans ta.1 (firstB_iff.1 a3).1)
      obtain ⟨-, y1, -⟩ := mnN_spec b2 (Int.le_trans tb.1 (firstB_iff.1 b3).1)
      rw [e] at x1
      have hab2 : Cn W H l t ((nodeL W H l).getD a (0, 0)).2 ((nodeL W H l).getD b (0, 0)).2 := x1.trans y1.symm
      have h1 : holdN W H l ((nodeL W H l).getD b (0, 0)).2 a = true := by
        unfold holdN
        rw [← top_covers hg ha.1 ha.2 _ b2]
        exact cnB_iff.2 hab2
      have hlt := area_lt b2 hab hb.1 h1 (hold_own hb.1)
      have hle : arN W H l ((nodeL W H l).getD a (0, 0)) ≤ arN W H l ((nodeL W H l).getD b (0, 0)) := by
        unfold arN
        rw [← List.countP_eq_length_filter, ← List.countP_eq_length_filter]
        refine List.countP_mono_left fun q hq hc => ?_
        rw [List.mem_range] at hq
        rw [← top_covers hg hb.1 hb.2 q hq]
        rw [← top_covers hg ha.1 ha.2 q hq] at hc
        exact cnB_iff.2 (hab2.symm.trans (cnB_iff.1 hc))
      omega
    have h := nodup_len _ (fstL W H l t) hm fun x hx => by
      obtain ⟨k, hk, rfl⟩ := List.mem_map.1 hx
      rw [List.mem_filter, List.mem_range] at hk
      obtain ⟨k1, k2, k3, k4⟩ := node_at hk.1
      have tk := hk.2
      unfold topB at tk
      rw [Bool.and_eq_true, decide_eq_true_iff] at tk
      have hle := Int.le_trans tk.1 (firstB_iff.1 k3).1
      obtain ⟨z1, -, -⟩ := mnN_spec k2 hle
      exact fstL_mem.2 ⟨by omega, mnN_first k2 hle⟩
    rw [List.length_map] at h
    exact h
  · -- each first spot has its node
    have hex : ∀ q, q ∈ fstL W H l t → ∃ k, k < (nodeL W H l).length ∧ topB W H l t k = true ∧ mnN W H l t ((nodeL W H l).getD k (0, 0)).2 = q := fun q hq => by
      obtain ⟨hq1, hq2⟩ := fstL_mem.1 hq
      obtain ⟨k, k1, k2, k3, k4⟩ := node_coverG hg hq1 (firstB_iff.1 hq2).1
      obtain ⟨n1, n2, n3, n4⟩ := node_at k1
      have hc : Cn W H l t q ((nodeL W H l).getD k (0, 0)).2 := by
        rw [← cnB_iff, k4 _ n2]
        exact cnB_iff.2 (.refl n2 (firstB_iff.1 n3).1)
      refine ⟨k, k1, ?_, mnN_of_first hq1 hq2 n2 hc⟩
      unfold topB
      rw [decide_eq_true k2, Bool.true_and, Bool.or_eq_true, decide_eq_true_iff, decide_eq_true_iff]
      rcases Nat.eq_zero_or_pos k with h0 | h0
      · exact .inl h0
      · right
        obtain ⟨j, j1, j2, j3, j4, j5, j6⟩ := node_par hg h0 k1
        rw [j2, Int.toNat_natCast]
        apply Classical.byContradiction
        intro hge
        have hle : arN W H l ((nodeL W H l).getD j (0, 0)) ≤ arN W H l ((nodeL W H l).getD k (0, 0)) := by
          unfold arN
          rw [← List.countP_eq_length_filter, ← List.countP_eq_length_filter]
          refine List.countP_mono_left fun x hx hcx => ?_
          rw [List.mem_range] at hx
          rw [← k4 x hx]
          have c1 := holdN_iff.1 j3
          exact cnB_iff.2 (hc.trans ((c1.symm.trans (cnB_iff.1 hcx)).mono (by omega)))
        omega
    have h := nodup_len (fstL W H l t) (((List.range (nodeL W H l).length).filter (topB W H l t)).map fun k => mnN W H l t ((nodeL W H l).getD k (0, 0)).2) hndf fun q hq => by
      obtain ⟨k, k1, k2, k3⟩ := hex q hq
      exact List.mem_map.2 ⟨k, List.mem_filter.2 ⟨List.mem_range.2 k1, k2⟩, k3⟩
    rw [List.length_map] at h
    exact h
end
end Go.Proofs.Ytmmanehdmnkekaa
namespace Go.Proofs.Ytmmanehdmnkekaa
open Go Go.RowKit
theorem tableOk_grlG {W H : Nat} {xs : List Int} {N : Int} (hW1 : 1 ≤ W) (hW2 : W ≤ 16) (hH1 : 1 ≤ H) (hH2 : H ≤ 16) (hx : ∀ k, k < H * W → 0 ≤ xs.getD k 0 ∧ xs.getD k 0 ≤ N) : tableOk (grl W H xs) N = true := by
  unfold tableOk
  rw [grl_len, grl_row (by omega : 0 < H), inB_true.2 (by omega), inB_true.2 (by omega), Bool.true_and, Bool.true_and, all_getD (d := [])]
  intro i hi
  rw [grl_len] at hi
  unfold rowOk
  rw [grl_row hi, decide_eq_true rfl, Bool.true_and, all_getD (d := 0)]
  intro j hj
  rw [grl_row hi] at hj
  rw [grl_at hj hi]
  have hb := Nat.mul_le_mul_right W (show i + 1 ≤ H by omega)
  rw [Nat.succ_mul] at hb
  exact inB_true.2 (hx _ (by omega))
theorem reb_ownW {W H : Nat} {l : List Int} {m : List (List Int)} (v3 : 1 ≤ W) (v4 : W ≤ 16) (v1 : 1 ≤ H) (v2 : H ≤ 16) (hg : GrL W H l) (hl : l.length = H * W) (hmg : grl W H l = m) (hok : tableOk m 99 = true) : rebOk (gtR W H l) = true ∧ rebM (gtR W H l) = m := by
  have h1 : (gtR W H l).2.2.2.length = H := grl_len _ _ _
  have h2 : ((gtR W H l).2.2.2.getD 0 []).length = W := grl_row (by omega)
  have h3 : (gtR W H l).2.2.2.flatten = nodT W H l (nodeL W H l) := grl_flattenO (by omega) nodT_len
  have hrl : rebL (gtR W H l) = l := by
    unfold rebL
    rw [h3]
    refine listI_ext (by rw [List.length_map, nodT_len, hl]) fun k hk => ?_
    rw [List.length_map, nodT_len] at hk
    obtain ⟨q, q1, q2, q3, -⟩ := node_of hg hk
    rw [List.getD_eq_getElem?_getD, List.getElem?_map, List.getElem?_eq_getElem (by rw [nodT_len]; exact hk)]
    have e : (nodT W H l (nodeL W H l))[k]'(by rw [nodT_len]; exact hk) = (q : Int) := by
      have := nodT_at (l := l) (nds := nodeL W H l) hk
      rw [List.getD_eq_getElem?_getD, List.getElem?_eq_getElem (by rw [nodT_len]; exact hk)] at this
      exact this.trans q2
    show (gtR W H l).1.getD ((nodT W H l (nodeL W H l))[k]'(by rw [nodT_len]; exact hk)).toNat 0 = _
    rw [e, Int.toNat_natCast, ← q3]
    show (levT (nodeL W H l)).getD q 0 = _
    unfold levT
    rw [List.getD_eq_getElem?_getD, List.getElem?_map, List.getD_eq_getElem?_getD, List.getElem?_eq_getElem q1]
    rfl
  have hM : rebM (gtR W H l) = m := by
    unfold rebM
    rw [h1, h2, hrl, hmg]
  refine ⟨?_, hM⟩
  have hU : rebU (gtR W H l) = gtR W H l := by
    unfold rebU
    rw [h1, h2, hrl]
  have ht : tableOk (gtR W H l).2.2.2 (((gtR W H l).1.length : Int) - 1) = true := by
    refine tableOk_grlG v3 v4 v1 v2 fun k hk => ?_
    rw [nodT_at hk]
    obtain ⟨q, q1, q2, -⟩ := node_of hg hk
    rw [q2]
    show 0 ≤ (q : Int) ∧ (q : Int) ≤ ((levT (nodeL W H l)).length : Int) - 1
    rw [levT_len]
    omega
  unfold rebOk
  rw [ht, hM, hok, hU]
  simp
/-- A grey picture comes back from its tree. -/
theorem reb_own {m : List (List Int)} (hok : tableOk m 99 = true) : rebOk (gtR (m.getD 0 []).length m.length m.flatten) = true ∧ rebM (gtR (m.getD 0 []).length m.length m.flatten) = m := by
  obtain ⟨v1, v2, v3, v4, v5, v6⟩ := tableOk_spec hok
  refine reb_ownW v3 v4 v1 v2 (grL_table hok) (by rw [flat_len _ m v5, Nat.mul_comm]) ?_ hok
  refine listM_ext (grl_len _ _ _) fun r hr => ?_
  rw [grl_len] at hr
  refine listI_ext (by rw [grl_row hr, v5 r hr]) fun x hx => ?_
  rw [grl_row hr] at hx
  rw [grl_at hx hr, flat_at _ m r x v5 hr hx]
end Go.Proofs.Ytmmanehdmnkekaa
