/- What the laws do with grey pictures and tables that come in, and with grey pictures that are results. -/
import Derived.Test.YtkpgelhmeokemaaGreatDoorLMat
namespace Go.Proofs.YtkpgelhmeokemaaGreatDoor
open Go.RowKit
theorem le_sum_of_memG : ∀ (l : List Nat) (x : Nat), x ∈ l → x ≤ l.sum
  | [], x, h => by cases h
  | y :: l, x, h => by
    rw [List.sum_cons]
    rcases List.mem_cons.1 h with rfl | h
    · omega
    · have := le_sum_of_memG l x h
      omega
theorem szM_bounds {m : List (List Int)} {left z : Int} (hl : left ≤ 1048576) (h : szSS left (m.map List.length) = z) (h0 : 0 ≤ z) : MatBnd m ∧ z + offM m m.length ≤ left := by
  unfold szSS at h
  split at h
  · omega
  · have h1 := szGo_le (m.map List.length) (left - ((m.map List.length).length : Int)) (by rw [h]; exact h0)
    rw [h] at h1
    have e1 : (m.map List.length).length = m.length := by simp
    rw [e1] at h1
    have e2 := offM_all m
    refine ⟨⟨by omega, fun r => ?_⟩, by omega⟩
    by_cases hr : r < m.length
    · have h2 : (m.getD r []).length ≤ (m.map List.length).sum := by
        apply le_sum_of_memG
        rw [List.mem_map]
        exact ⟨m.getD r [], by rw [List.getD_eq_getElem?_getD, List.getElem?_eq_getElem hr]; exact List.getElem_mem hr, rfl⟩
      omega
    · simp [List.getD_eq_getElem?_getD, hr]
theorem szM_hi {m : List (List Int)} {left : Int} (hl : 0 ≤ left) : szSS left (m.map List.length) ≤ left := szSS_hi hl _
end Go.Proofs.YtkpgelhmeokemaaGreatDoor
