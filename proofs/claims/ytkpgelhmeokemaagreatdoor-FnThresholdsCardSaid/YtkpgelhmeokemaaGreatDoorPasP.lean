/- Plain: elements of a list are turned, one after another, again and again, till a pass turns none. -/
import Derived.Test.YtkpgelhmeokemaaGreatDoorPic
namespace Go.Proofs.YtkpgelhmeokemaaGreatDoor
open Go.RowKit
section
variable {α : Type}
/-- Behind the first k elements of a pass. -/
def pasTo (C : List α → Nat → Bool) (V : List α → Nat → α) (l : List α) : Nat → List α
  | 0 => l
  | k + 1 => if C (pasTo C V l k) k then (pasTo C V l k).set k (V (pasTo C V l k) k) else pasTo C V l k
theorem pasTo_len (C : List α → Nat → Bool) (V : List α → Nat → α) (l : List α) : ∀ k, (pasTo C V l k).length = l.length
  | 0 => rfl
  | k + 1 => by
    unfold pasTo
    split
    · rw [List.length_set, pasTo_len C V l k]
    · exact pasTo_len C V l k
/-- Has one of the first k been turned? -/
def tokTo (C : List α → Nat → Bool) (V : List α → Nat → α) (l : List α) : Nat → Bool
  | 0 => false
  | k + 1 => tokTo C V l k || C (pasTo C V l k) k
theorem pas_yes {C : List α → Nat → Bool} {V : List α → Nat → α} {l : List α} {k : Nat} (h : C (pasTo C V l k) k = true) : pasTo C V l (k + 1) = (pasTo C V l k).set k (V (pasTo C V l k) k) ∧ tokTo C V l (k + 1) = true :=
  ⟨by rw [pasTo, if_pos h], by rw [tokTo, h, Bool.or_true]⟩
theorem pas_no {C : List α → Nat → Bool} {V : List α → Nat → α} {l : List α} {k : Nat} (h : C (pasTo C V l k) k = false) : pasTo C V l (k + 1) = pasTo C V l k ∧ tokTo C V l (k + 1) = tokTo C V l k :=
  ⟨by rw [pasTo, h]; rfl, by rw [tokTo, h, Bool.or_false]⟩
theorem pasTo_none (C : List α → Nat → Bool) (V : List α → Nat → α) (l : List α) : ∀ k, tokTo C V l k = false → pasTo C V l k = l
  | 0, _ => rfl
  | k + 1, h => by
    unfold tokTo at h
    rw [Bool.or_eq_false_iff] at h
    unfold pasTo
    rw [h.2]
    exact pasTo_none C V l k h.1
/-- What holds of all lists under way, and a number that falls. -/
structure Falls (C : List α → Nat → Bool) (V : List α → Nat → α) (M : Nat) (I : List α → Prop) (f : List α → Nat) : Prop where
  keep : ∀ l k, k < M → I l → C l k = true → I (l.set k (V l k))
  less : ∀ l k, k < M → I l → C l k = true → f (l.set k (V l k)) < f l
theorem Falls.to {C : List α → Nat → Bool} {V : List α → Nat → α} {M : Nat} {I : List α → Prop} {f : List α → Nat} (h : Falls C V M I f) {l : List α} (hl : I l) : ∀ k, k ≤ M → I (pasTo C V l k) ∧ f (pasTo C V l k) + (if tokTo C V l k then 1 else 0) ≤ f l
  | 0, _ => ⟨hl, by simp [pasTo, tokTo]⟩
  | k + 1, hk => by
    obtain ⟨ih1, ih2⟩ := h.to hl k (by omega)
    cases hc : C (pasTo C V l k) k
    · obtain ⟨e1, e2⟩ := pas_no hc
      rw [e1, e2]
      exact ⟨ih1, ih2⟩
    · obtain ⟨e1, e2⟩ := pas_yes hc
      rw [e1, e2]
      have := h.less _ k (by omega) ih1 hc
      refine ⟨h.keep _ k (by omega) ih1 hc, ?_⟩
      simp only [if_true]
      omega
/-- What is left at the end. -/
inductive PasR (C : List α → Nat → Bool) (V : List α → Nat → α) (M : Nat) : List α → List α → Prop
  | done {l : List α} : tokTo C V l M = false → PasR C V M l l
  | more {l l' : List α} : tokTo C V l M = true → PasR C V M (pasTo C V l M) l' → PasR C V M l l'
theorem PasR.ex {C : List α → Nat → Bool} {V : List α → Nat → α} {M : Nat} {I : List α → Prop} {f : List α → Nat} (h : Falls C V M I f) : ∀ (n : Nat) (l : List α), I l → f l ≤ n → ∃ l', PasR C V M l l'
  | 0, l, hl, hn => by
    cases ht : tokTo C V l M
    · exact ⟨l, .done ht⟩
    · have := (h.to hl M (Nat.le_refl _)).2
      rw [ht] at this
      simp at this
      omega
  | n + 1, l, hl, hn => by
    cases ht : tokTo C V l M
    · exact ⟨l, .done ht⟩
    · have h2 := h.to hl M (Nat.le_refl _)
      rw [ht] at h2
      simp only [if_true] at h2
      obtain ⟨l', h'⟩ := PasR.ex h n (pasTo C V l M) h2.1 (by omega)
      exact ⟨l', .more ht h'⟩
theorem PasR.len {C : List α → Nat → Bool} {V : List α → Nat → α} {M : Nat} {l l' : List α} (h : PasR C V M l l') : l'.length = l.length := by
  induction h with
  | done _ => rfl
  | more _ _ ih => rw [ih, pasTo_len]
theorem PasR.keep {C : List α → Nat → Bool} {V : List α → Nat → α} {M : Nat} {I : List α → Prop} {f : List α → Nat} (hf : Falls C V M I f) {l l' : List α} (hl : I l) (h : PasR C V M l l') : I l' := by
  induction h with
  | done _ => exact hl
  | more _ _ ih => exact ih (hf.to hl M (Nat.le_refl _)).1
/-- A loop 'for again': the list, and whether there is a further pass; the rest leads to the result. -/
def PasW (C : List α → Nat → Bool) (V : List α → Nat → α) (M : Nat) (res : List α) (again : Bool) (l : List α) : Prop := if again then PasR C V M l res else l = res
theorem PasW.next {C : List α → Nat → Bool} {V : List α → Nat → α} {M : Nat} {res l : List α} (h : PasW C V M res true l) : PasW C V M res (tokTo C V l M) (pasTo C V l M) := by
  unfold PasW at *
  simp only [if_true] at h
  cases h with
  | done ht => rw [ht]; exact pasTo_none C V _ M ht
  | more ht h => rw [ht]; exact h
theorem PasW.stop {C : List α → Nat → Bool} {V : List α → Nat → α} {M : Nat} {res l : List α} (h : PasW C V M res false l) : l = res := h
end
/-- The least number with a property. -/
theorem eps_least {p : Nat → Prop} (h : ∃ n, p n) : p (Classical.epsilon fun n => p n ∧ ∀ k, p k → n ≤ k) ∧ ∀ k, p k → (Classical.epsilon fun n => p n ∧ ∀ k, p k → n ≤ k) ≤ k := by
  have hex : ∃ n, p n ∧ ∀ k, p k → n ≤ k := by
    obtain ⟨n, hn⟩ := h
    induction n using Nat.strongRecOn with
    | ind n ih =>
      by_cases hk : ∃ k, k < n ∧ p k
      · obtain ⟨k, h1, h2⟩ := hk
        exact ih k h1 h2
      · exact ⟨n, hn, fun k h2 => by
          rcases Nat.lt_or_ge k n with h3 | h3
          · exact absurd ⟨k, h3, h2⟩ hk
          · exact h3⟩
  have := Classical.epsilon_spec hex
  exact ⟨this.1, this.2⟩
/-- The least number with a property. -/
noncomputable def leastN (p : Nat → Prop) : Nat := Classical.epsilon fun n => p n ∧ ∀ k, p k → n ≤ k
theorem leastN_at {p : Nat → Prop} {n : Nat} (h : p n) : p (leastN p) := (eps_least ⟨n, h⟩).1
theorem leastN_le {p : Nat → Prop} {n : Nat} (h : p n) : leastN p ≤ n := (eps_least ⟨n, h⟩).2 n h
end Go.Proofs.YtkpgelhmeokemaaGreatDoor
