/- Plain: which discs are kept, and which few of them. -/
import Derived.Test.YtahhnjoeaodcjaaDist
namespace Go.Proofs.Ytahhnjoeaodcjaa
open Go Go.RowKit
/-- All pixels of number a are pixels of number b. -/
def subH (h : Nat → Nat → Bool) (m a b : Nat) : Bool := (List.range m).all fun p => !h a p || h b p
def beat1 (h : Nat → Nat → Bool) (m i k : Nat) : Bool := decide (k ≠ i) && (subH h m i k && (decide (k < i) || !subH h m k i))
def beatB (h : Nat → Nat → Bool) (n m i : Nat) : Bool := (List.range n).any (beat1 h m i)
def keptL (h : Nat → Nat → Bool) (n m k : Nat) : List Nat := (List.range k).filter fun i => !beatB h n m i
section
variable {h : Nat → Nat → Bool} {n m : Nat}
theorem subH_true {a b : Nat} : subH h m a b = true ↔ ∀ p, p < m → h a p = true → h b p = true := by
  unfold subH
  rw [List.all_eq_true]
  constructor
  · intro H p hp ha
    have := H p (List.mem_range.2 hp)
    rw [ha] at this
    simpa using this
  · intro H p hp
    have := H p (List.mem_range.1 hp)
    cases e : h a p
    · rfl
    · rw [this e]; rfl
theorem subH_trans {a b c : Nat} (h1 : subH h m a b = true) (h2 : subH h m b c = true) : subH h m a c = true :=
  subH_true.2 fun p hp ha => subH_true.1 h2 p hp (subH_true.1 h1 p hp ha)
theorem keptL_succ (k : Nat) : keptL h n m (k + 1) = if beatB h n m k then keptL h n m k else keptL h n m k ++ [k] := by
  unfold keptL
  rw [List.range_succ, List.filter_append]
  cases hb : beatB h n m k <;> simp [hb]
theorem keptL_mem {k i : Nat} : i ∈ keptL h n m k ↔ i < k ∧ beatB h n m i = false := by
  unfold keptL
  simp
def szH (h : Nat → Nat → Bool) (m i : Nat) : Nat := (List.range m).countP (h i)
theorem count_lt {α : Type} {p q : α → Bool} : ∀ (l : List α), (∀ a, a ∈ l → p a = true → q a = true) → (∃ a, a ∈ l ∧ q a = true ∧ p a = false) → l.countP p < l.countP q
  | [], _, ⟨a, ha, _⟩ => by cases ha
  | x :: l, h1, ⟨a, ha, h2, h3⟩ => by
    have hle : l.countP p ≤ l.countP q := List.countP_mono_left fun a ha => h1 a (List.mem_cons_of_mem _ ha)
    rw [List.countP_cons, List.countP_cons]
    rcases List.mem_cons.1 ha with e | ha'
    · subst e
      rw [h2, h3]
      simp
      omega
    · have := count_lt l (fun a ha => h1 a (List.mem_cons_of_mem _ ha)) ⟨a, ha', h2, h3⟩
      have hx := h1 x (by simp)
      cases e1 : p x
      · cases e2 : q x <;> simp <;> omega
      · rw [hx e1]; simp; omega
theorem szH_le {i : Nat} : szH h m i ≤ m := by
  unfold szH
  exact Nat.le_trans List.countP_le_length (by simp)
theorem szH_lt {i k : Nat} (h1 : subH h m i k = true) (h2 : subH h m k i = false) : szH h m i < szH h m k := by
  refine count_lt _ (fun a ha => subH_true.1 h1 a (List.mem_range.1 ha)) ?_
  have h3 : ¬ ∀ p, p < m → h k p = true → h i p = true := fun H => by rw [subH_true.2 H] at h2; cases h2
  by_cases H : ∃ p, p < m ∧ h k p = true ∧ h i p = false
  · obtain ⟨p, a1, a2, a3⟩ := H
    exact ⟨p, List.mem_range.2 a1, a2, a3⟩
  · exfalso
    refine h3 fun p hp hk => ?_
    cases e : h i p
    · exact absurd ⟨p, hp, hk, e⟩ H
    · rfl
/-- Each one is within one that is kept. -/
theorem kept_has : ∀ (f i : Nat), (m - szH h m i) * (n + 1) + i ≤ f → i < n → ∃ k, k < n ∧ beatB h n m k = false ∧ subH h m i k = true
  | f, i, hf, hi => by
    cases hb : beatB h n m i
    · exact ⟨i, hi, hb, subH_true.2 fun _ _ h => h⟩
    · unfold beatB at hb
      obtain ⟨k, hk, hb⟩ := List.any_eq_true.1 hb
      have hk := List.mem_range.1 hk
      unfold beat1 at hb
      rw [Bool.and_eq_true, Bool.and_eq_true, Bool.or_eq_true] at hb
      obtain ⟨h1, h2, h3⟩ := hb
      have hlt : (m - szH h m k) * (n + 1) + k < (m - szH h m i) * (n + 1) + i := by
        have hsi := szH_le (h := h) (m := m) (i := i)
        have hsk := szH_le (h := h) (m := m) (i := k)
        cases h4 : subH h m k i
        · have h5 := szH_lt h2 h4
          have h6 : m - szH h m k + 1 ≤ m - szH h m i := by omega
          have h7 := Nat.mul_le_mul_right (n + 1) h6
          rw [Nat.succ_mul] at h7
          omega
        · rw [h4] at h3
          have h5 : szH h m k = szH h m i := Nat.le_antisymm (List.countP_mono_left fun a ha => subH_true.1 h4 a (List.mem_range.1 ha)) (List.countP_mono_left fun a ha => subH_true.1 h2 a (List.mem_range.1 ha))
          have h6 : k < i := by simpa using h3
          rw [h5]
          omega
      cases f with
      | zero => omega
      | succ f =>
        obtain ⟨j, a1, a2, a3⟩ := kept_has f k (by omega) hk
        exact ⟨j, a1, a2, subH_trans h2 a3⟩
end
/-- How often pixels are had by some. -/
def cntH (h : Nat → Nat → Bool) (js : List Nat) (p : Nat) : Nat := js.countP fun j => h j p
def needB (h : Nat → Nat → Bool) (m : Nat) (c : Nat → Nat) (j : Nat) : Bool := (List.range m).any fun p => h j p && decide (c p = 1)
def lessH (h : Nat → Nat → Bool) (c : Nat → Nat) (j p : Nat) : Nat := if h j p then c p - 1 else c p
/-- Behind the first k: what is left of the numbers, and who is needed. -/
def fewS (h : Nat → Nat → Bool) (m : Nat) (js : List Nat) : Nat → (Nat → Nat) × List Nat
  | 0 => (cntH h js, [])
  | k + 1 => if needB h m (fewS h m js k).1 (js.getD k 0) then ((fewS h m js k).1, (fewS h m js k).2 ++ [js.getD k 0]) else (lessH h (fewS h m js k).1 (js.getD k 0), (fewS h m js k).2)
section
variable {h : Nat → Nat → Bool} {m : Nat} {js : List Nat}
theorem fewS_cnt (p : Nat) : ∀ k, k ≤ js.length → (fewS h m js k).1 p = cntH h (fewS h m js k).2 p + cntH h (js.drop k) p
  | 0, _ => by simp [fewS, cntH]
  | k + 1, hk => by
    have ih := fewS_cnt p k (by omega)
    have hd : js.drop k = js.getD k 0 :: js.drop (k + 1) := by
      rw [List.drop_eq_getElem_cons (by omega), List.getD_eq_getElem?_getD, List.getElem?_eq_getElem (by omega)]
      rfl
    have hc : cntH h (js.drop k) p = cntH h (js.drop (k + 1)) p + if h (js.getD k 0) p then 1 else 0 := by
      rw [hd]; unfold cntH; rw [List.countP_cons]
    rw [hc] at ih
    unfold fewS
    split
    · show (fewS h m js k).1 p = cntH h ((fewS h m js k).2 ++ [js.getD k 0]) p + _
      have : cntH h ((fewS h m js k).2 ++ [js.getD k 0]) p = cntH h (fewS h m js k).2 p + if h (js.getD k 0) p then 1 else 0 := by
        unfold cntH; rw [List.countP_append, List.countP_cons, List.countP_nil]; omega
      rw [this]
      omega
    · show lessH h (fewS h m js k).1 (js.getD k 0) p = _
      unfold lessH
      split <;> simp_all <;> omega
/-- What is had by some is had by one of the few. -/
theorem fewS_pos {p : Nat} (hp : p < m) (h0 : 0 < cntH h js p) : ∀ k, k ≤ js.length → 0 < (fewS h m js k).1 p
  | 0, _ => h0
  | k + 1, hk => by
    have ih := fewS_pos hp h0 k (by omega)
    unfold fewS
    split
    · exact ih
    · rename_i hn
      show 0 < lessH h (fewS h m js k).1 (js.getD k 0) p
      unfold lessH
      split
      · rename_i hh
        have h1 : (fewS h m js k).1 p ≠ 1 := fun e => hn (by
          unfold needB
          exact List.any_eq_true.2 ⟨p, List.mem_range.2 hp, by rw [hh, e]; rfl⟩)
        omega
      · exact ih
def fewL (h : Nat → Nat → Bool) (m : Nat) (js : List Nat) : List Nat := (fewS h m js js.length).2
theorem fewL_has {p : Nat} (hp : p < m) (h0 : ∃ j, j ∈ js ∧ h j p = true) : ∃ j, j ∈ fewL h m js ∧ h j p = true := by
  have h1 : 0 < cntH h js p := List.countP_pos_iff.2 h0
  have h2 := fewS_pos (h := h) hp h1 js.length (Nat.le_refl _)
  rw [fewS_cnt p js.length (Nat.le_refl _), List.drop_length] at h2
  have h3 : 0 < cntH h (fewS h m js js.length).2 p := by simpa [cntH] using h2
  exact List.countP_pos_iff.1 h3
theorem fewS_sub : ∀ k, k ≤ js.length → (fewS h m js k).2.Sublist (js.take k)
  | 0, _ => by simp [fewS]
  | k + 1, hk => by
    have ih := fewS_sub k (by omega)
    have ht : js.take (k + 1) = js.take k ++ [js.getD k 0] := by
      rw [List.take_succ_eq_append_getElem (by omega), List.getD_eq_getElem?_getD, List.getElem?_eq_getElem (by omega)]
      rfl
    rw [ht]
    unfold fewS
    split
    · exact List.Sublist.append ih (List.Sublist.refl _)
    · exact List.Sublist.trans ih (List.sublist_append_left _ _)
theorem fewL_sub : (fewL h m js).Sublist js := by
  have := fewS_sub (h := h) (m := m) (js := js) js.length (Nat.le_refl _)
  rwa [List.take_length] at this
end
end Go.Proofs.Ytahhnjoeaodcjaa
