/- Distances. -/
import Derived.Test.YtlcofjicpbbdhaaWith
import Derived.Deep.RegionWith
namespace Go.Proofs.Ytlcofjicpbbdhaa
open Go.RowKit
/-- The least number, the first one of equal ones; -1 of none. -/
def leastD (ds : List Int) : Int := ds.foldl (fun m d => if m < 0 ∨ d < m then d else m) (-1)
theorem leastD_snoc (ds : List Int) (d : Int) : leastD (ds ++ [d]) = if leastD ds < 0 ∨ d < leastD ds then d else leastD ds := by
  unfold leastD
  rw [List.foldl_append]
  rfl
theorem least_from : ∀ (ds : List Int) (m : Int), 0 ≤ m → (∀ d, d ∈ ds → 0 ≤ d) → (ds.foldl (fun m d => if m < 0 ∨ d < m then d else m) m = m ∨ ds.foldl (fun m d => if m < 0 ∨ d < m then d else m) m ∈ ds) ∧ ds.foldl (fun m d => if m < 0 ∨ d < m then d else m) m ≤ m ∧ (∀ d, d ∈ ds → ds.foldl (fun m d => if m < 0 ∨ d < m then d else m) m ≤ d) ∧ 0 ≤ ds.foldl (fun m d => if m < 0 ∨ d < m then d else m) m
  | [], m, hm, _ => ⟨.inl rfl, Int.le_refl _, (fun d hd => by cases hd), hm⟩
  | d :: ds, m, hm, h => by
    have hd := h d (by simp)
    rw [List.foldl_cons]
    by_cases hc : d < m
    · rw [if_pos (.inr hc)]
      obtain ⟨h1, h2, h3, h4⟩ := least_from ds d hd (fun x hx => h x (by simp [hx]))
      refine ⟨?_, by omega, fun x hx => ?_, h4⟩
      · rcases h1 with h1 | h1
        · right; rw [h1]; simp
        · right; simp [h1]
      · rcases List.mem_cons.1 hx with rfl | hx
        · exact h2
        · exact h3 x hx
    · rw [if_neg (by omega)]
      obtain ⟨h1, h2, h3, h4⟩ := least_from ds m hm (fun x hx => h x (by simp [hx]))
      refine ⟨?_, h2, fun x hx => ?_, h4⟩
      · rcases h1 with h1 | h1
        · exact .inl h1
        · right; simp [h1]
      · rcases List.mem_cons.1 hx with rfl | hx
        · omega
        · exact h3 x hx
theorem leastD_spec (ds : List Int) (h : ∀ d, d ∈ ds → 0 ≤ d) : (ds = [] ∧ leastD ds = -1) ∨ (leastD ds ∈ ds ∧ (∀ d, d ∈ ds → leastD ds ≤ d) ∧ 0 ≤ leastD ds) := by
  cases ds with
  | nil => exact .inl ⟨rfl, rfl⟩
  | cons d ds =>
    right
    have hd := h d (by simp)
    unfold leastD
    rw [List.foldl_cons, if_pos (.inl (by decide))]
    obtain ⟨h1, h2, h3, h4⟩ := least_from ds d hd (fun x hx => h x (by simp [hx]))
    refine ⟨?_, fun x hx => ?_, h4⟩
    · rcases h1 with h1 | h1
      · rw [h1]; simp
      · simp [h1]
    · rcases List.mem_cons.1 hx with rfl | hx
      · exact h2
      · exact h3 x hx
end Go.Proofs.Ytlcofjicpbbdhaa
