/- Facts about the program alone that the last step of a law asks for: each costs the kernel much. -/
import Derived.Test.YtelaoimcaidoiaaRows
import Derived.ProofKit
namespace Go.Proofs.Ytelaoimcaidoiaa
open Go
theorem bAnd {a b : Bool} (h : a = true) (k : b = true) : (a && b) = true := by rw [h, k]; rfl
theorem pStops : (Try.prog.stops == []) = true := by kernel_rfl
theorem pKnobs : (Try.prog.stopKnobs == []) = true := by kernel_rfl
theorem pEnter : Try.prog.mayEnter = true := by kernel_rfl
theorem pLifts : Try.prog.liftsFinal = false := by kernel_rfl
end Go.Proofs.Ytelaoimcaidoiaa
