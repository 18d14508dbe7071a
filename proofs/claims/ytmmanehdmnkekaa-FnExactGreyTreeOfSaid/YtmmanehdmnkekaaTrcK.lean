/- Rows of integers that grow, apart from each other. -/
import Derived.Test.YtmmanehdmnkekaaKit
namespace Go.Proofs.Ytmmanehdmnkekaa
open Go Go.RowKit
def iv (z : Int) : Value := .int .i64 z
abbrev GrI (lo : Nat) (w : World) (v : Value) (xs : List Int) : Prop := GrowOf iv lo 2 w v xs
/-- Rows apart. -/
def ApV (v u : Value) : Prop := ∀ k, v.ownBlock = some k → u.ownBlock ≠ some k
theorem ApV.symm {v u : Value} (h : ApV v u) : ApV u v := fun k h1 h2 => h k h2 h1
theorem GrI.lt {lo : Nat} {w : World} {v : Value} {xs : List Int} (h : GrI lo w v xs) {k : Nat} (hk : v.ownBlock = some k) : lo ≤ k ∧ k < w.heap.size := h.block hk
theorem GrI.ne {lo : Nat} {w : World} {v u : Value} {xs : List Int} (_ : GrI lo w v xs) (ha : ApV v u) : v.ownBlock = none ∨ v.ownBlock ≠ u.ownBlock := by
  cases hv : v.ownBlock with
  | none => exact .inl rfl
  | some k => exact .inr fun e => ha k hv e.symm
theorem apV_at {v u v' : Value} {n : Nat} (h : ApV v u) (hu : ∀ k, u.ownBlock = some k → k < n) (hat : v'.ownBlock = v.ownBlock ∨ v'.ownBlock = some n) : ApV v' u := by
  intro k hk hk2
  rcases hat with e | e
  · exact h k (by rw [← e]; exact hk) hk2
  · rw [e] at hk
    cases hk
    exact Nat.lt_irrefl _ (hu _ hk2)
end Go.Proofs.Ytmmanehdmnkekaa
