/- FnReached, plain: what is reconstructed has all or nothing of a part; a filled picture has no holes. -/
import Derived.Test.YtelaoimcaidoiaaCmpF
import Derived.Test.YtelaoimcaidoiaaFillF
import Derived.Test.YtelaoimcaidoiaaHolF
import Derived.Test.YtelaoimcaidoiaaRecF
namespace Go.Proofs.Ytelaoimcaidoiaa
open Go Go.RowKit
theorem Rch.sub {R R' : Int × Int → Bool} {N : Int × Int → List (Int × Int)} {S S' : List (Int × Int)} (hS : ∀ p, p ∈ S → R p = true → Rch R' N S' p) (hR : ∀ p q, Rch R N S p → Rch R' N S' p → q ∈ N p → R q = true → R' q = true) {p : Int × Int} (h : Rch R N S p) : Rch R' N S' p := by
  induction h with
  | start h1 h2 => exact hS _ h1 h2
  | step h0 h1 h2 ih => exact .step ih h1 (hR _ _ h0 ih h1 h2)
theorem Rch.trans1 {R : Int × Int → Bool} {N : Int × Int → List (Int × Int)} {S : List (Int × Int)} {p q : Int × Int} (hp : Rch R N S p) (hq : Rch R N [p] q) : Rch R N S q := by
  induction hq with
  | start h1 h2 => rw [List.mem_singleton.1 h1]; exact hp
  | step _ h1 h2 ih => exact .step ih h1 h2
theorem Rch.symm1 {R : Int × Int → Bool} {N : Int × Int → List (Int × Int)} (hN : ∀ p q, q ∈ N p → p ∈ N q) {p q : Int × Int} (hq : Rch R N [p] q) : Rch R N [q] p := by
  have hp : R p = true := by
    have : ∀ {x : Int × Int}, Rch R N [p] x → R p = true := fun {x} h => by
      induction h with
      | start h1 h2 => rw [List.mem_singleton] at h1; rw [← h1]; exact h2
      | step _ _ _ ih => exact ih
    exact this hq
  induction hq with
  | start h1 h2 => rw [List.mem_singleton.1 h1]; exact .start (List.mem_singleton.2 rfl) hp
  | step h0 h1 h2 ih => exact Rch.trans1 (.step (.start (List.mem_singleton.2 rfl) h2) (hN _ _ h1) h0.right) ih
theorem nbA_symm (e : Bool) (p q : Int × Int) (h : q ∈ nbA e p) : p ∈ nbA e q := by
  obtain ⟨px, py⟩ := p
  obtain ⟨qx, qy⟩ := q
  cases e
  all_goals
    simp only [nbA, arndL, List.mem_map, List.mem_cons, List.not_mem_nil, or_false, Prod.mk.injEq, if_true, if_false, Bool.false_eq_true, Prod.exists] at h ⊢
    obtain ⟨a, b, h1, h2, h3⟩ := h
    refine ⟨-a, -b, ?_, by omega, by omega⟩
    omega
/-- Spots with one number are reached from one. -/
theorem LabK.same {R : Int × Int → Bool} {N : Int × Int → List (Int × Int)} {S : List (Int × Int)} : ∀ {k : Nat} {f : Int × Int → Nat} {n : Nat}, LabK R N S k f n → ∀ q q', 0 < f q → f q = f q' → ∃ s, Rch R N [s] q ∧ Rch R N [s] q'
  | 0, _, _, ⟨h1, _⟩, q, q', h, _ => by rw [h1] at h; omega
  | k + 1, f, n, ⟨f0, n0, h1, h2⟩, q, q', h, he => by
    rcases h2 with ⟨-, a2, -⟩ | ⟨-, -, a3⟩
    · rw [a2] at h
      rw [a2, a2] at he
      exact LabK.same h1 q q' h he
    · have hf := h1.few.2
      by_cases hq : Rch R N [S.getD k (0, 0)] q
      · by_cases hq' : Rch R N [S.getD k (0, 0)] q'
        · exact ⟨_, hq, hq'⟩
        · rw [(a3 q).1 hq, (a3 q').2 hq'] at he
          have := hf q'
          omega
      · by_cases hq' : Rch R N [S.getD k (0, 0)] q'
        · rw [(a3 q).2 hq, (a3 q').1 hq'] at he
          have := hf q
          omega
        · rw [(a3 q).2 hq] at h
          rw [(a3 q).2 hq, (a3 q').2 hq'] at he
          exact LabK.same h1 q q' h he
/-- Neighbours have one number. -/
theorem LabK.next {R : Int × Int → Bool} {N : Int × Int → List (Int × Int)} {S : List (Int × Int)} (hN : ∀ p q, q ∈ N p → p ∈ N q) : ∀ {k : Nat} {f : Int × Int → Nat} {n : Nat}, LabK R N S k f n → ∀ q q', R q = true → R q' = true → q' ∈ N q → f q = f q'
  | 0, _, _, ⟨h1, _⟩, q, q', _, _, _ => by rw [h1, h1]
  | k + 1, f, n, ⟨f0, n0, h1, h2⟩, q, q', hr, hr', hn => by
    rcases h2 with ⟨-, a2, -⟩ | ⟨-, -, a3⟩
    · rw [a2, a2]
      exact LabK.next hN h1 q q' hr hr' hn
    · by_cases hq : Rch R N [S.getD k (0, 0)] q
      · rw [(a3 q).1 hq, (a3 q').1 (.step hq hn hr')]
      · have hq' : ¬ Rch R N [S.getD k (0, 0)] q' := fun h => hq (.step h (hN _ _ hn) hr)
        rw [(a3 q).2 hq, (a3 q').2 hq']
        exact LabK.next hN h1 q q' hr hr' hn
theorem LabK.reach {R : Int × Int → Bool} {N : Int × Int → List (Int × Int)} {S T : List (Int × Int)} (hN : ∀ p q, q ∈ N p → p ∈ N q) {k : Nat} {f : Int × Int → Nat} {n : Nat} (h : LabK R N S k f n) {q : Int × Int} (hq : Rch R N T q) : ∃ s, s ∈ T ∧ R s = true ∧ f s = f q := by
  induction hq with
  | start h1 h2 => exact ⟨_, h1, h2, rfl⟩
  | step h0 h1 h2 ih =>
    obtain ⟨s, i1, i2, i3⟩ := ih
    exact ⟨s, i1, i2, by rw [i3]; exact LabK.next hN h _ _ h0.right h2 h1⟩
theorem LabK.done {R : Int × Int → Bool} {N : Int × Int → List (Int × Int)} {S : List (Int × Int)} : ∀ {k : Nat} {f : Int × Int → Nat} {n : Nat}, LabK R N S k f n → ∀ j, j < k → R (S.getD j (0, 0)) = true → 0 < f (S.getD j (0, 0))
  | 0, _, _, _, j, h, _ => by omega
  | k + 1, f, n, ⟨f0, n0, h1, h2⟩, j, hj, hr => by
    have mono : ∀ q, 0 < f0 q → 0 < f q := fun q hq => by
      rcases h2 with ⟨-, a2, -⟩ | ⟨-, -, a3⟩
      · rw [a2]; exact hq
      · by_cases h : Rch R N [S.getD k (0, 0)] q
        · rw [(a3 q).1 h]; omega
        · rw [(a3 q).2 h]; exact hq
    by_cases e : j = k
    · subst e
      rcases h2 with ⟨a1, a2, -⟩ | ⟨-, -, a3⟩
      · rw [a2]; exact a1
      · rw [(a3 _).1 (.start (List.mem_singleton.2 rfl) hr)]; omega
    · exact mono _ (LabK.done h1 j (by omega) hr)
/-- One part alone. -/
theorem LabK.one {R : Int × Int → Bool} {N : Int × Int → List (Int × Int)} {S : List (Int × Int)} {s : Int × Int} (hall : ∀ q, q ∈ S → R q = true ∧ Rch R N [s] q) (hN : ∀ p q, q ∈ N p → p ∈ N q) : ∀ {k : Nat} {f : Int × Int → Nat} {n : Nat}, k ≤ S.length → LabK R N S k f n → n ≤ 1 ∧ (0 < k → n = 1)
  | 0, _, _, _, ⟨_, h⟩ => by rw [h]; omega
  | k + 1, f, n, hk, ⟨f0, n0, h1, h2⟩ => by
    obtain ⟨i1, i2⟩ := LabK.one hall hN (by omega) h1
    have hm : S.getD k (0, 0) ∈ S := getD_mem (by omega)
    obtain ⟨hr, hs⟩ := hall _ hm
    rcases h2 with ⟨a1, -, a3⟩ | ⟨a1, a2, -⟩
    · rw [a3]
      refine ⟨i1, fun _ => ?_⟩
      have := h1.few.2 (S.getD k (0, 0))
      omega
    · rcases Nat.eq_zero_or_pos k with e | e
      · subst e
        have hz : n0 = 0 := h1.2
        omega
      · exfalso
        have h0m : S.getD 0 (0, 0) ∈ S := getD_mem (by omega)
        obtain ⟨hr0, hs0⟩ := hall _ h0m
        have hd := LabK.done h1 0 e hr0
        have hc : Rch R N [S.getD 0 (0, 0)] (S.getD k (0, 0)) := Rch.trans1 (Rch.symm1 hN hs0) hs
        obtain ⟨t, ht, -, hft⟩ := LabK.reach hN h1 hc
        rw [List.mem_singleton.1 ht] at hft
        omega
end Go.Proofs.Ytelaoimcaidoiaa
