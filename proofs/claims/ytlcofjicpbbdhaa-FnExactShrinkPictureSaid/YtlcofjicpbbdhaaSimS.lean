/- Simple pixels: the reference's side. -/
import Derived.Test.YtlcofjicpbbdhaaSimP
import Derived.Test.YtlcofjicpbbdhaaLabS
namespace Go.Proofs.Ytlcofjicpbbdhaa
open Go.RowKit
/-- Numbers that rise. -/
def Rising (xs : List Int) : Prop := xs.Pairwise (· < ·)
/-- A number has been put into the first i: not yet, or at its place. -/
def PutSt (xs : List Int) (n : Int) (i : Nat) (done : Bool) (out : List Int) : Prop :=
  out.length ≤ i + 1 ∧ Rising out ∧ (done = false → out = xs.take i ∧ ∀ z, z ∈ xs.take i → z < n) ∧ (done = true → (∀ z, z ∈ out ↔ z ∈ xs.take i ∨ z = n) ∧ ∀ z, z ∈ out → ∀ j, i ≤ j → j < xs.length → z < xs.getD j 0)
theorem take_nextI {l : List Int} {k : Nat} (h : k < l.length) : l.take (k + 1) = l.take k ++ [l.getD k 0] := by
  rw [List.take_succ_eq_append_getElem h, List.getD_eq_getElem?_getD, List.getElem?_eq_getElem h]
  rfl
theorem Rising.at {xs : List Int} (h : Rising xs) {i j : Nat} (hij : i < j) (hj : j < xs.length) : xs.getD i 0 < xs.getD j 0 := by
  have := List.pairwise_iff_getElem.1 h i j (by omega) hj hij
  rw [List.getD_eq_getElem?_getD, List.getD_eq_getElem?_getD, List.getElem?_eq_getElem (show i < xs.length by omega), List.getElem?_eq_getElem hj]
  exact this
theorem Rising.snoc {xs : List Int} {n : Int} (h : Rising xs) (hn : ∀ z, z ∈ xs → z < n) : Rising (xs ++ [n]) := by
  unfold Rising
  rw [List.pairwise_append]
  exact ⟨h, by simp, fun a ha b hb => by simp at hb; subst hb; exact hn a ha⟩
theorem Rising.takeLt {xs : List Int} (h : Rising xs) {i : Nat} (hi : i < xs.length) : ∀ z, z ∈ xs.take i → z < xs.getD i 0 := by
  intro z hz
  obtain ⟨j, hj, rfl⟩ := List.getElem_of_mem hz
  have hj' : j < i := by rw [List.length_take] at hj; omega
  have := h.at hj' hi
  rw [List.getD_eq_getElem?_getD, List.getElem?_eq_getElem (show j < xs.length by omega)] at this
  rw [List.getElem_take]
  exact this
theorem PutSt.start (xs : List Int) (n : Int) : PutSt xs n 0 false [] := ⟨by simp, List.Pairwise.nil, fun _ => ⟨by simp, by simp⟩, (fun h => by cases h)⟩
/-- Not done, the element is less: it is taken over. -/
theorem PutSt.less {xs : List Int} {n : Int} {i : Nat} {out : List Int} (hx : Rising xs) (h : PutSt xs n i false out) (hi : i < xs.length) (hl : xs.getD i 0 < n) : PutSt xs n (i + 1) false (out ++ [xs.getD i 0]) := by
  obtain ⟨h1, h2, h3, -⟩ := h
  obtain ⟨rfl, h5⟩ := h3 rfl
  refine ⟨by rw [List.length_append]; simp; omega, h2.snoc (hx.takeLt hi), fun _ => ⟨(take_nextI hi).symm, fun z hz => ?_⟩, (fun h => by cases h)⟩
  rw [take_nextI hi, List.mem_append] at hz
  rcases hz with hz | hz
  · exact h5 z hz
  · rw [List.mem_singleton] at hz; omega
/-- Not done, the element is as great: it is taken over, and done. -/
theorem PutSt.same {xs : List Int} {n : Int} {i : Nat} {out : List Int} (hx : Rising xs) (h : PutSt xs n i false out) (hi : i < xs.length) (hl : xs.getD i 0 = n) : PutSt xs n (i + 1) true (out ++ [xs.getD i 0]) := by
  obtain ⟨h1, h2, h3, -⟩ := h
  obtain ⟨rfl, h5⟩ := h3 rfl
  refine ⟨by rw [List.length_append]; simp; omega, h2.snoc (hx.takeLt hi), (fun h => by cases h), fun _ => ⟨fun z => ?_, fun z hz j hj hjl => ?_⟩⟩
  · rw [take_nextI hi, List.mem_append]
    simp only [List.mem_singleton]
    constructor
    · intro h; exact .inl h
    · rintro (h | h)
      · exact h
      · exact .inr (by omega)
  · rw [List.mem_append] at hz
    rcases hz with hz | hz
    · exact Int.lt_trans (hx.takeLt hi z hz) (hx.at (by omega) hjl)
    · rw [List.mem_singleton] at hz
      rw [hz]
      exact hx.at (by omega) hjl
/-- Not done, the element is greater: the number is put ahead of it. -/
theorem PutSt.more {xs : List Int} {n : Int} {i : Nat} {out : List Int} (hx : Rising xs) (h : PutSt xs n i false out) (hi : i < xs.length) (hl : n < xs.getD i 0) : PutSt xs n (i + 1) true (out ++ [n] ++ [xs.getD i 0]) := by
  obtain ⟨h1, h2, h3, -⟩ := h
  obtain ⟨rfl, h5⟩ := h3 rfl
  have hr := h2.snoc h5
  refine ⟨by simp only [List.length_append, List.length_take, List.length_cons, List.length_nil]; omega, hr.snoc fun z hz => ?_, (fun h => by cases h), fun _ => ⟨fun z => ?_, fun z hz j hj hjl => ?_⟩⟩
  · rw [List.mem_append] at hz
    rcases hz with hz | hz
    · exact hx.takeLt hi z hz
    · simp at hz; omega
  · rw [take_nextI hi]
    simp only [List.mem_append, List.mem_singleton]
    constructor
    · rintro ((h | h) | h)
      · exact .inl (.inl h)
      · exact .inr h
      · exact .inl (.inr h)
    · rintro ((h | h) | h)
      · exact .inl (.inl h)
      · exact .inr h
      · exact .inl (.inr h)
  · have hj' := hx.at (show i < j by omega) hjl
    simp only [List.mem_append, List.mem_singleton] at hz
    rcases hz with (hz | hz) | hz
    · exact Int.lt_trans (hx.takeLt hi z hz) hj'
    · omega
    · omega
/-- Done: the element is taken over. -/
theorem PutSt.over {xs : List Int} {n : Int} {i : Nat} {out : List Int} (hx : Rising xs) (h : PutSt xs n i true out) (hi : i < xs.length) : PutSt xs n (i + 1) true (out ++ [xs.getD i 0]) := by
  obtain ⟨h1, h2, -, h3⟩ := h
  obtain ⟨h4, h5⟩ := h3 rfl
  refine ⟨by rw [List.length_append]; simp; omega, h2.snoc fun z hz => h5 z hz i (Nat.le_refl _) hi, (fun h => by cases h), fun _ => ⟨fun z => ?_, fun z hz j hj hjl => ?_⟩⟩
  · rw [take_nextI hi]
    simp only [List.mem_append, List.mem_singleton]
    rw [h4]
    constructor
    · rintro ((h | h) | h)
      · exact .inl (.inl h)
      · exact .inr h
      · exact .inl (.inr h)
    · rintro ((h | h) | h)
      · exact .inl (.inl h)
      · exact .inr h
      · exact .inl (.inr h)
  · simp only [List.mem_append, List.mem_singleton] at hz
    rcases hz with hz | hz
    · exact h5 z hz j (by omega) hjl
    · rw [hz]
      exact hx.at (by omega) hjl
/-- What comes out. -/
def Put (xs : List Int) (n : Int) (out : List Int) : Prop := out.length ≤ xs.length + 1 ∧ Rising out ∧ ∀ z, z ∈ out ↔ z ∈ xs ∨ z = n
theorem PutSt.done {xs : List Int} {n : Int} {out : List Int} (h : PutSt xs n xs.length true out) : Put xs n out := by
  obtain ⟨h1, h2, -, h3⟩ := h
  have h4 := (h3 rfl).1
  rw [List.take_length] at h4
  exact ⟨h1, h2, h4⟩
theorem PutSt.last {xs : List Int} {n : Int} {out : List Int} (h : PutSt xs n xs.length false out) : Put xs n (out ++ [n]) := by
  obtain ⟨h1, h2, h3, -⟩ := h
  obtain ⟨rfl, h5⟩ := h3 rfl
  rw [List.take_length] at h5 ⊢
  rw [List.take_length] at h2
  exact ⟨by simp, h2.snoc h5, fun z => by simp⟩
/-- A list of just one number. -/
theorem rising_one {xs : List Int} (h : Rising xs) : xs.length = 1 ↔ ∃ z, z ∈ xs ∧ ∀ u, u ∈ xs → u = z := by
  constructor
  · intro hl
    match xs, hl with
    | [z], _ => exact ⟨z, by simp, fun u hu => by simpa using hu⟩
  · rintro ⟨z, hz, hall⟩
    match xs, h, hz, hall with
    | [a], _, _, _ => rfl
    | a :: b :: l, h, _, hall =>
      have h1 := hall a (by simp)
      have h2 := hall b (by simp)
      have h3 : a < b := by
        unfold Rising at h
        rw [List.pairwise_cons] at h
        exact h.1 b (by simp)
      omega
end Go.Proofs.Ytlcofjicpbbdhaa
