/- Grey pictures whose small nodes are opened, and the components of their thresholds. -/
import Derived.Test.YtmmanehdmnkekaaOpA
import Derived.Test.YtmmanehdmnkekaaKepF
namespace Go.Proofs.Ytmmanehdmnkekaa
open Go Go.RowKit
section
variable {W H : Nat} {l : List Int} {p k : Nat} {t least : Int}
theorem least_spot (hg : GrL W H l) : ∀ n, ∀ s, s < H * W → Cn W H l t p s → (l.getD s 0).toNat ≤ n → ∃ m, m < H * W ∧ Cn W H l t p m ∧ ∀ q, q < H * W → Cn W H l t p q → l.getD m 0 ≤ l.getD q 0
  | 0, s, hs, h, hn => ⟨s, hs, h, fun q hq _ => by have := (hg q hq).1; have := (hg s hs).1; omega⟩
  | n + 1, s, hs, h, hn => by
    by_cases hall : ∀ q, q < H * W → Cn W H l t p q → l.getD s 0 ≤ l.getD q 0
    · exact ⟨s, hs, h, hall⟩
    · have : ∃ q, q < H * W ∧ Cn W H l t p q ∧ l.getD q 0 < l.getD s 0 := by
        apply Classical.byContradiction
        intro hc
        apply hall
        intro q hq hcq
        apply Classical.byContradiction
        intro hlt
        exact hc ⟨q, hq, hcq, by omega⟩
      obtain ⟨q, hq, hcq, hlt⟩ := this
      have := (hg q hq).1
      exact least_spot hg n q hq hcq (by omega)
/-- What is joined at a level is joined at its least number. -/
theorem cn_raise {u : Int} (hall : ∀ q, q < H * W → Cn W H l t p q → u ≤ l.getD q 0) {x : Int × Int} (h : Rch (lvR W H l t) (nbA false) [spN W p] x) : Rch (lvR W H l u) (nbA false) [spN W p] x := by
  have hR : ∀ y, Rch (lvR W H l t) (nbA false) [spN W p] y → lvR W H l u y = true := fun y hy => by
    obtain ⟨j, hj, rfl⟩ := lvR_box hy.right
    rw [lvR_at hj, decide_eq_true_iff]
    exact hall j hj hy
  induction h with
  | start h1 h2 => exact .start h1 (hR _ (.start h1 h2))
  | step h1 h2 h3 ih => exact .step ih h2 (hR _ (.step h1 h2 h3))
noncomputable def arT (W H : Nat) (l : List Int) (t : Int) (p : Nat) : Nat := ((List.range (H * W)).filter (cnB W H l t p)).length
theorem node_cover (hg : GrL W H l) (hp : p < H * W) (ht : t ≤ l.getD p 0) :
    ∃ k, k < (nodeL W H l).length ∧ t ≤ (((nodeL W H l).getD k (0, 0)).1 : Int) ∧ holdN W H l p k = true ∧ ∀ q, q < H * W → cnB W H l t p q = cnB W H l ((nodeL W H l).getD k (0, 0)).1 ((nodeL W H l).getD k (0, 0)).2 q := by
  obtain ⟨s, hs, h1, h2⟩ := least_spot hg (l.getD p 0).toNat p hp (.refl hp ht) (Nat.le_refl _)
  have hts : t ≤ l.getD s 0 := h1.right hs
  obtain ⟨k, hk, -, hlev, hcb, -⟩ := node_of hg hs
  have hps : Cn W H l (l.getD s 0) p s := cn_raise h2 h1
  have hfs := cnB_iff.1 hcb
  rw [hlev] at hfs
  have hfp : Cn W H l (l.getD s 0) ((nodeL W H l).getD k (0, 0)).2 p := hfs.trans hps.symm
  refine ⟨k, hk, by omega, holdN_iff.2 (by rw [hlev]; exact hfp), fun q hq => ?_⟩
  rw [hlev]
  have e : cnB W H l t p q = cnB W H l (l.getD s 0) p q := by
    cases h : cnB W H l t p q
    · refine (cnB_not.2 fun hc => cnB_not.1 h (hc.mono hts)).symm
    · exact (cnB_iff.2 (cn_raise h2 (cnB_iff.1 h))).symm
  rw [e, hfp.cls]
theorem open_level (hg : GrL W H l) (hp : p < H * W) (ht0 : (((nodeL W H l).getD 0 (0, 0)).1 : Int) < t) :
    t ≤ openV W H l least p (nodeL W H l).length ↔ (t ≤ l.getD p 0 ∧ least ≤ (arT W H l t p : Int)) := by
  unfold openV openK
  rcases lastW_spec (fun j => holdN W H l p j && decide (least ≤ (arN W H l ((nodeL W H l).getD j (0, 0)) : Int))) (nodeL W H l).length with ⟨h1, h2⟩ | ⟨j, h1, h2, h3, h4⟩
  · rw [h1]
    refine ⟨fun h => ?_, fun ⟨q1, q2⟩ => ?_⟩
    · exfalso
      simp only [Int.reduceNeg, Int.reduceToNat] at h
      have e : (-1 : Int).toNat = 0 := rfl
      first | (rw [e] at h; omega) | omega
    · exfalso
      obtain ⟨k, k1, k2, k3, k4⟩ := node_cover hg hp q1
      have hk := h2 k k1
      have ha : arN W H l ((nodeL W H l).getD k (0, 0)) = arT W H l t p := by
        unfold arN arT
        rw [List.filter_congr fun q hq => (k4 q (List.mem_range.1 hq))]
      simp only [k3, Bool.true_and] at hk
      rw [ha, decide_eq_false_iff_not] at hk
      exact hk q2
  · rw [h2, Int.toNat_natCast]
    rw [Bool.and_eq_true, decide_eq_true_iff] at h3
    obtain ⟨h5, h6⟩ := h3
    have h7 := holdN_iff.1 h5
    refine ⟨fun h => ⟨Int.le_trans h (h7.right hp), ?_⟩, fun ⟨q1, q2⟩ => ?_⟩
    · have hle : arN W H l ((nodeL W H l).getD j (0, 0)) ≤ arT W H l t p := by
        unfold arN arT
        rw [← List.countP_eq_length_filter, ← List.countP_eq_length_filter]
        refine List.countP_mono_left fun q _ hq => ?_
        exact cnB_iff.2 ((h7.symm.trans (cnB_iff.1 hq)).mono h)
      omega
    · obtain ⟨k, k1, k2, k3, k4⟩ := node_cover hg hp q1
      have ha : arN W H l ((nodeL W H l).getD k (0, 0)) = arT W H l t p := by
        unfold arN arT
        rw [List.filter_congr fun q hq => (k4 q (List.mem_range.1 hq))]
      have hkj : k ≤ j := by
        apply Classical.byContradiction
        intro hc
        have := h4 k (by omega) k1
        simp only [k3, Bool.true_and] at this
        rw [ha, decide_eq_false_iff_not] at this
        exact this q2
      have := node_le hkj h1
      omega
/-- The components of a threshold that have at least some pixels. -/
theorem kept_thr (_ : GrL W H l) (hl : l.length = H * W) {F : Int × Int → Nat} {n : Nat}
    (hF : LabK (pxP W H (thrL t l)) (nbA false) (spotsTo W (thrL t l) (H * W)) (spotsTo W (thrL t l) (H * W)).length F n) (hk : k < H * W) :
    keptG F (areK W H F n least) (k % W) (k / W) = (decide (t ≤ l.getD k 0) && decide (least ≤ (arT W H l t k : Int))) := by
  obtain ⟨hn, hl2⟩ := lab_thr hl hF
  have hfew := (LabK.few hF).2 (spN W k)
  show (decide (0 < F (spN W k)) && areK W H F n least (F (spN W k))) = _
  by_cases ht : t ≤ l.getD k 0
  · rw [decide_eq_true ht, Bool.true_and]
    obtain ⟨q1, q2, q3⟩ := mnN_spec hk ht
    have hf := mnN_first hk ht
    have hmem : mnN W H l t k ∈ fstL W H l t := fstL_mem.2 ⟨by omega, hf⟩
    obtain ⟨m, hm, e⟩ := List.mem_iff_getElem.1 hmem
    have hgd : (fstL W H l t).getD m 0 = mnN W H l t k := by rw [List.getD_eq_getElem?_getD, List.getElem?_eq_getElem hm]; exact e
    have hFk : F (spN W k) = m + 1 := (hl2 k hk m (by omega)).2 (by rw [hgd]; exact q2.symm)
    rw [hFk]
    unfold areK areL
    rw [Nat.add_sub_cancel, cntL_at _ _ (by omega), decide_eq_true (Nat.succ_pos m), Bool.true_and]
    have e2 : (List.range (H * W)).countP (fun i => pixN W F i == m + 1) = arT W H l t k := by
      unfold arT
      rw [← List.countP_eq_length_filter]
      refine List.countP_congr fun i hi => ?_
      rw [List.mem_range] at hi
      rw [beq_iff_eq, cnB_iff]
      have h5 := hl2 i hi m (by omega)
      rw [hgd] at h5
      show F (spN W i) = m + 1 ↔ _
      rw [h5]
      exact ⟨fun h => q2.trans h, fun h => q2.symm.trans h⟩
    rw [e2]
  · rw [decide_eq_false ht, Bool.false_and]
    have h0 : F (spN W k) = 0 := by
      apply Classical.byContradiction
      intro hne
      obtain ⟨m, hm⟩ : ∃ m, F (spN W k) = m + 1 := ⟨F (spN W k) - 1, by omega⟩
      have := (hl2 k hk m (by omega)).1 hm
      exact ht (this.right hk)
    rw [h0]
    rfl
end
/-- The threshold of the opened picture is the kept threshold. -/
theorem opened_kept {W H : Nat} {l : List Int} {t least : Int} (hW : 0 < W) (hg : GrL W H l) (hl : l.length = H * W) {F : Int × Int → Nat} {n : Nat} (ht0 : (((nodeL W H l).getD 0 (0, 0)).1 : Int) < t)
    (hF : LabK (pxP W H (thrL t l)) (nbA false) (spotsTo W (thrL t l) (H * W)) (spotsTo W (thrL t l) (H * W)).length F n) :
    mkl W H (keptG F (areK W H F n least)) = thrL t (opnL W H l least) := by
  apply List.ext_getElem?
  intro k
  by_cases hk : k < H * W
  · have e1 : (mkl W H (keptG F (areK W H F n least))).getD k false = (thrL t (opnL W H l least)).getD k false := by
      have hx : k % W < W := Nat.mod_lt _ hW
      have hy : k / W < H := by rw [Nat.div_lt_iff_lt_mul hW]; exact hk
      have he : k / W * W + k % W = k := by rw [Nat.mul_comm]; exact Nat.div_add_mod _ _
      have h := mkl_at W H (keptG F (areK W H F n least)) (k % W) (k / W) hx hy
      rw [he] at h
      rw [h, kept_thr hg hl hF hk, thrL_at (by rw [opnL_len]; exact hk), opnL_at hk, ← Bool.decide_and]
      exact decide_eq_decide.2 (open_level hg hk ht0).symm
    have g : ∀ (xs : List Bool), k < xs.length → xs[k]? = some (xs.getD k false) := fun xs h => by rw [List.getD_eq_getElem?_getD, List.getElem?_eq_getElem h]; rfl
    rw [g _ (by rw [mkl_len]; exact hk), g _ (by unfold thrL; rw [List.length_map, opnL_len]; exact hk), e1]
  · rw [List.getElem?_eq_none (by rw [mkl_len]; omega), List.getElem?_eq_none (by unfold thrL; rw [List.length_map, opnL_len]; omega)]
/-- At the least level nothing is white, before and after. -/
theorem opened_least {W H : Nat} {l : List Int} {t least : Int} (hg : GrL W H l) (hl : l.length = H * W) (ht0 : t = (((nodeL W H l).getD 0 (0, 0)).1 : Int)) : thrL t l = thrL t (opnL W H l least) := by
  have g : ∀ (xs : List Bool) k, k < xs.length → xs[k]? = some (xs.getD k false) := fun xs k h => by rw [List.getD_eq_getElem?_getD, List.getElem?_eq_getElem h]; rfl
  apply List.ext_getElem?
  intro k
  have L1 : (thrL t l).length = H * W := by unfold thrL; rw [List.length_map, hl]
  have L2 : (thrL t (opnL W H l least)).length = H * W := by unfold thrL; rw [List.length_map, opnL_len]
  by_cases hk : k < H * W
  · rw [g _ _ (by omega), g _ _ (by omega), thrL_at (by omega), thrL_at (by rw [opnL_len]; exact hk), opnL_at hk]
    have h1 := node0_least hg hk
    have h2 : t ≤ openV W H l least k (nodeL W H l).length := by
      unfold openV openK
      rcases lastW_spec (fun j => holdN W H l k j && decide (least ≤ (arN W H l ((nodeL W H l).getD j (0, 0)) : Int))) (nodeL W H l).length with ⟨q1, q2⟩ | ⟨j, q1, q2, q3, q4⟩
      · rw [q1, ht0]; exact Int.le_refl _
      · rw [q2, Int.toNat_natCast, ht0]
        have := node_le (W := W) (H := H) (l := l) (Nat.zero_le j) q1
        omega
    rw [decide_eq_true (by omega), decide_eq_true h2]
  · rw [List.getElem?_eq_none (by omega), List.getElem?_eq_none (by omega)]
end Go.Proofs.Ytmmanehdmnkekaa
