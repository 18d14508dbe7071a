/- Plain: parts are classes; simple pixels. -/
import Derived.Test.YtlcofjicpbbdhaaLab
import Derived.Test.YtlcofjicpbbdhaaNearF
namespace Go.Proofs.Ytlcofjicpbbdhaa
open Go.RowKit
section
variable {R R' : Int × Int → Bool} {N N' : Int × Int → List (Int × Int)} {S : List (Int × Int)} {p q r : Int × Int}
theorem Rch.trans (h : Rch R N [p] q) (k : Rch R N [q] r) : Rch R N [p] r := by
  induction k with
  | start h1 _ => simp at h1; subst h1; exact h
  | step _ h1 h2 ih => exact .step ih h1 h2
theorem Rch.left (h : Rch R N [p] q) : R p = true := by
  induction h with
  | start h1 h2 => simp at h1; subst h1; exact h2
  | step _ _ _ ih => exact ih
theorem Rch.symm (hs : ∀ p q, q ∈ N p → p ∈ N q) (h : Rch R N [p] q) : Rch R N [q] p := by
  induction h with
  | start h1 h2 => simp at h1; subst h1; exact .start (by simp) h2
  | step h0 h1 h2 ih => exact Rch.trans (.step (.start (by simp) h2) (hs _ _ h1) h0.right) ih
theorem Rch.one (hp : p ∈ S) (h : Rch R N [p] q) : Rch R N S q := by
  induction h with
  | start h1 h2 => simp at h1; subst h1; exact .start hp h2
  | step _ h1 h2 ih => exact .step ih h1 h2
theorem Rch.from (h : Rch R N S q) : ∃ p, p ∈ S ∧ Rch R N [p] q := by
  induction h with
  | @start p h1 h2 => exact ⟨p, h1, .start (by simp) h2⟩
  | step _ h1 h2 ih => obtain ⟨p, hp, h⟩ := ih; exact ⟨p, hp, .step h h1 h2⟩
theorem Rch.shift (t : Int × Int → Int × Int) (hR : ∀ p, R p = true → R' (t p) = true) (hN : ∀ p q, q ∈ N p → t q ∈ N' (t p)) (h : Rch R N [p] q) : Rch R' N' [t p] (t q) := by
  induction h with
  | start h1 h2 => simp at h1; subst h1; exact .start (by simp) (hR _ h2)
  | step _ h1 h2 ih => exact .step ih (hN _ _ h1) (hR _ h2)
/-- Right pixels have the same number if one is reached from the other one. -/
theorem LabK.same (hs : ∀ p q, q ∈ N p → p ∈ N q) : ∀ {k n : Nat} {f : Int × Int → Nat}, LabK R N S k f n → (∀ p q, 0 < f p → Rch R N [p] q → f q = f p) ∧ (∀ p q, 0 < f p → f q = f p → Rch R N [p] q)
  | 0, _, _, ⟨h1, _⟩ => ⟨fun p q hp => by rw [h1] at hp; omega, fun p q hp => by rw [h1] at hp; omega⟩
  | k + 1, _, _, ⟨f0, n0, h1, h2⟩ => by
    obtain ⟨i1, i2⟩ := LabK.same hs h1
    have hle := h1.few.2
    rcases h2 with ⟨a1, a2, a3⟩ | ⟨a1, a2, a3⟩
    · refine ⟨fun p q hp h => ?_, fun p q hp h => ?_⟩
      · rw [a2] at hp ⊢
        rw [a2]
        exact i1 p q hp h
      · rw [a2] at hp h
        rw [a2] at h
        exact i2 p q hp h
    · refine ⟨fun p q hp h => ?_, fun p q hp h => ?_⟩
      · by_cases hsp : Rch R N [S.getD k (0, 0)] p
        · rw [(a3 p).1 hsp, (a3 q).1 (hsp.trans h)]
        · have hsq : ¬ Rch R N [S.getD k (0, 0)] q := fun hq => hsp (hq.trans (h.symm hs))
          rw [(a3 p).2 hsp] at hp ⊢
          rw [(a3 q).2 hsq]
          exact i1 p q hp h
      · by_cases hsp : Rch R N [S.getD k (0, 0)] p
        · by_cases hsq : Rch R N [S.getD k (0, 0)] q
          · exact (hsp.symm hs).trans hsq
          · rw [(a3 p).1 hsp, (a3 q).2 hsq] at h
            have := hle q
            omega
        · by_cases hsq : Rch R N [S.getD k (0, 0)] q
          · rw [(a3 p).2 hsp, (a3 q).1 hsq] at h
            have := hle p
            omega
          · rw [(a3 p).2 hsp] at hp
            rw [(a3 p).2 hsp, (a3 q).2 hsq] at h
            exact i2 p q hp h
end
theorem arndL_neg (eight : Bool) : ∀ d : Int × Int, d ∈ arndL eight → (-d.1, -d.2) ∈ arndL eight := by
  intro d hd
  cases eight <;> simp [arndL] at hd ⊢ <;> (rcases hd with rfl | rfl | rfl | rfl | rfl | rfl | rfl | rfl) <;> simp
theorem nbA_symm (eight : Bool) (p q : Int × Int) (h : q ∈ nbA eight p) : p ∈ nbA eight q := by
  unfold nbA at h ⊢
  obtain ⟨d, hd, rfl⟩ := List.mem_map.1 h
  exact List.mem_map.2 ⟨_, arndL_neg eight d hd, by simp only; exact Prod.ext (by simp only; omega) (by simp only; omega)⟩
theorem nbA_shift (eight : Bool) (a b : Int) (p q : Int × Int) (h : q ∈ nbA eight p) : (q.1 + a, q.2 + b) ∈ nbA eight (p.1 + a, p.2 + b) := by
  unfold nbA at h ⊢
  obtain ⟨d, hd, rfl⟩ := List.mem_map.1 h
  exact List.mem_map.2 ⟨d, hd, by simp only; exact Prod.ext (by simp only; omega) (by simp only; omega)⟩
theorem arndL_eight (d : Int × Int) : d ∈ arndL true ↔ (-1 ≤ d.1 ∧ d.1 ≤ 1 ∧ -1 ≤ d.2 ∧ d.2 ≤ 1) ∧ ¬ (d.1 = 0 ∧ d.2 = 0) := by
  obtain ⟨a, b⟩ := d
  constructor
  · intro h
    simp [arndL] at h
    rcases h with h | h | h | h | h | h | h | h <;> obtain ⟨rfl, rfl⟩ := h <;> simp
  · rintro ⟨⟨h1, h2, h3, h4⟩, h5⟩
    simp only at h1 h2 h3 h4 h5
    have ha : a = -1 ∨ a = 0 ∨ a = 1 := by omega
    have hb : b = -1 ∨ b = 0 ∨ b = 1 := by omega
    rcases ha with rfl | rfl | rfl <;> rcases hb with rfl | rfl | rfl <;> first | (simp [arndL]; done) | (exact absurd ⟨rfl, rfl⟩ h5)
theorem arndL_sub (eight : Bool) (d : Int × Int) (h : d ∈ arndL eight) : d ∈ arndL true := by
  cases eight
  · simp [arndL] at h ⊢
    rcases h with rfl | rfl | rfl | rfl <;> simp
  · exact h
/-- The pixels around that have a colour. -/
def ringR (px : Int → Int → Bool) (x y : Int) (black : Bool) (q : Int × Int) : Bool := decide (q ∈ nbA true (x, y)) && (px q.1 q.2 == black)
/-- Just one part of the pixels of a colour around a pixel has a neighbour of it. -/
def OneSide (px : Int → Int → Bool) (x y : Int) (black eight : Bool) : Prop :=
  ∃ q, q ∈ nbA eight (x, y) ∧ ringR px x y black q = true ∧ ∀ q', q' ∈ nbA eight (x, y) → ringR px x y black q' = true → Rch (ringR px x y black) (nbA eight) [q] q'
theorem nbA_sub {eight : Bool} {x y : Int} {q : Int × Int} (h : q ∈ nbA eight (x, y)) : q ∈ nbA true (x, y) := by
  unfold nbA at h ⊢
  obtain ⟨d, hd, rfl⟩ := List.mem_map.1 h
  exact List.mem_map.2 ⟨d, arndL_sub eight d hd, rfl⟩
/-- In the picture of 3 by 3: the same. -/
theorem ring_px (px : Int → Int → Bool) (x y : Int) (black : Bool) (q : Int × Int) : pxP 3 3 (mkl 3 3 (arB px x y black)) q = ringR px x y black (q.1 + (x - 1), q.2 + (y - 1)) := by
  have hmem : (q.1 + (x - 1), q.2 + (y - 1)) ∈ nbA true (x, y) ↔ (q.1 - 1, q.2 - 1) ∈ arndL true := by
    unfold nbA
    rw [List.mem_map]
    constructor
    · rintro ⟨d, hd, e⟩
      simp only [Prod.mk.injEq] at e
      have : d = (q.1 - 1, q.2 - 1) := Prod.ext (by simp only; omega) (by simp only; omega)
      rw [← this]
      exact hd
    · intro h
      exact ⟨_, h, Prod.ext (by simp only; omega) (by simp only; omega)⟩
  cases hd : hasB 3 3 q.1 q.2
  · have h1 : pxP 3 3 (mkl 3 3 (arB px x y black)) q = false := pxl_out hd
    rw [h1]
    unfold ringR
    have : ¬ (q.1 + (x - 1), q.2 + (y - 1)) ∈ nbA true (x, y) := by
      rw [hmem, arndL_eight]
      rintro ⟨⟨h1, h2, h3, h4⟩, -⟩
      have : hasB 3 3 q.1 q.2 = true := hasB_true.2 (by simp only at h1 h2 h3 h4; omega)
      rw [this] at hd
      cases hd
    simp [this]
  · have hb := hasB_true.1 hd
    obtain ⟨i, hi⟩ : ∃ i : Nat, q.1 = i := ⟨q.1.toNat, by omega⟩
    obtain ⟨j, hj⟩ : ∃ j : Nat, q.2 = j := ⟨q.2.toNat, by omega⟩
    have hi3 : i < 3 := by omega
    have hj3 : j < 3 := by omega
    unfold pxP
    rw [hi, hj, pxl_at _ _ _ _ _ hi3 hj3, mkl_at 3 3 _ i j hi3 hj3]
    unfold arB ringR
    rw [hi, hj] at hmem
    have e1 : (i : Int) + (x - 1) = x + ((i : Int) - 1) := by omega
    have e2 : (j : Int) + (y - 1) = y + ((j : Int) - 1) := by omega
    simp only
    rw [e1, e2] at hmem ⊢
    congr 1
    rw [Bool.eq_iff_iff, decide_eq_true_iff, hmem, arndL_eight]
    simp
    omega
theorem rch_ring (px : Int → Int → Bool) (x y : Int) (black eight : Bool) (p q : Int × Int) :
    Rch (pxP 3 3 (mkl 3 3 (arB px x y black))) (nbA eight) [p] q ↔ Rch (ringR px x y black) (nbA eight) [(p.1 + (x - 1), p.2 + (y - 1))] (q.1 + (x - 1), q.2 + (y - 1)) := by
  constructor
  · intro h
    exact Rch.shift (fun q => (q.1 + (x - 1), q.2 + (y - 1))) (fun q hq => by rw [← ring_px]; exact hq) (fun p q h => nbA_shift eight (x - 1) (y - 1) p q h) h
  · intro h
    have h2 := Rch.shift (R' := pxP 3 3 (mkl 3 3 (arB px x y black))) (N' := nbA eight) (fun q => (q.1 + (1 - x), q.2 + (1 - y))) (fun q hq => by
      rw [ring_px]
      have e : ((q.1 + (1 - x)) + (x - 1), (q.2 + (1 - y)) + (y - 1)) = q := Prod.ext (by simp only; omega) (by simp only; omega)
      rw [e]
      exact hq) (fun p q h => nbA_shift eight (1 - x) (1 - y) p q h) h
    have e1 : ((p.1 + (x - 1)) + (1 - x), (p.2 + (y - 1)) + (1 - y)) = p := Prod.ext (by simp only; omega) (by simp only; omega)
    have e2 : ((q.1 + (x - 1)) + (1 - x), (q.2 + (y - 1)) + (1 - y)) = q := Prod.ext (by simp only; omega) (by simp only; omega)
    simp only at h2
    rw [e1, e2] at h2
    exact h2
/-- The numbers that neighbours of the middle have, in the picture of 3 by 3. -/
theorem oneSide_labels {px : Int → Int → Bool} {x y : Int} {black eight : Bool} {F : Int × Int → Nat} {n : Nat}
    (hF : LabK (pxP 3 3 (mkl 3 3 (arB px x y black))) (nbA eight) (spotsTo 3 (mkl 3 3 (arB px x y black)) (3 * 3)) (spotsTo 3 (mkl 3 3 (arB px x y black)) (3 * 3)).length F n) :
    OneSide px x y black eight ↔ ∃ d, d ∈ arndL eight ∧ 0 < F (1 + d.1, 1 + d.2) ∧ ∀ d', d' ∈ arndL eight → 0 < F (1 + d'.1, 1 + d'.2) → F (1 + d'.1, 1 + d'.2) = F (1 + d.1, 1 + d.2) := by
  have hpos : ∀ q, 0 < F q ↔ pxP 3 3 (mkl 3 3 (arB px x y black)) q = true := hF.mem fun q hq => spotsTo_mem.2 hq
  obtain ⟨s1, s2⟩ := hF.same (nbA_symm eight)
  have hsh : ∀ d : Int × Int, ((1 + d.1) + (x - 1), (1 + d.2) + (y - 1)) = (x + d.1, y + d.2) := fun d => Prod.ext (by simp only; omega) (by simp only; omega)
  have hring : ∀ d : Int × Int, 0 < F (1 + d.1, 1 + d.2) ↔ ringR px x y black (x + d.1, y + d.2) = true := fun d => by
    rw [hpos, ring_px]
    simp only
    rw [hsh d]
  have hnb : ∀ q : Int × Int, q ∈ nbA eight (x, y) ↔ ∃ d, d ∈ arndL eight ∧ q = (x + d.1, y + d.2) := fun q => by
    unfold nbA
    rw [List.mem_map]
    exact ⟨fun ⟨d, h1, h2⟩ => ⟨d, h1, h2.symm⟩, fun ⟨d, h1, h2⟩ => ⟨d, h1, h2.symm⟩⟩
  have hrch : ∀ d d' : Int × Int, Rch (pxP 3 3 (mkl 3 3 (arB px x y black))) (nbA eight) [(1 + d.1, 1 + d.2)] (1 + d'.1, 1 + d'.2) ↔ Rch (ringR px x y black) (nbA eight) [(x + d.1, y + d.2)] (x + d'.1, y + d'.2) := fun d d' => by
    rw [rch_ring]
    simp only
    rw [hsh d, hsh d']
  constructor
  · rintro ⟨q, hq, hr, hall⟩
    obtain ⟨d, hd, rfl⟩ := (hnb q).1 hq
    have hfd := (hring d).2 hr
    refine ⟨d, hd, hfd, fun d' hd' hf' => ?_⟩
    exact s1 _ _ hfd ((hrch d d').2 (hall _ ((hnb _).2 ⟨d', hd', rfl⟩) ((hring d').1 hf')))
  · rintro ⟨d, hd, hfd, hall⟩
    refine ⟨_, (hnb _).2 ⟨d, hd, rfl⟩, (hring d).1 hfd, fun q' hq' hr' => ?_⟩
    obtain ⟨d', hd', rfl⟩ := (hnb q').1 hq'
    exact (hrch d d').1 (s2 _ _ hfd (hall d' hd' ((hring d').2 hr')))
/-- From the first one that is near: the same. -/
theorem oneSide_first {px : Int → Int → Bool} {x y : Int} {black eight : Bool} {q : Int × Int} (hq : q ∈ nbA eight (x, y)) (hr : ringR px x y black q = true) :
    OneSide px x y black eight ↔ ∀ q', q' ∈ nbA eight (x, y) → ringR px x y black q' = true → Rch (ringR px x y black) (nbA eight) [q] q' := by
  constructor
  · rintro ⟨p, hp, hpr, hall⟩ q' hq' hr'
    exact ((hall q hq hr).symm (nbA_symm eight)).trans (hall q' hq' hr')
  · intro h
    exact ⟨q, hq, hr, h⟩
end Go.Proofs.Ytlcofjicpbbdhaa
