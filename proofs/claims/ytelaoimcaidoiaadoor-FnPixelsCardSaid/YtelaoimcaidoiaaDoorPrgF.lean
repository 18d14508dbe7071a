/- Facts about the program alone that the last step of a law asks for: each costs the kernel much. -/
import Derived.Test.YtelaoimcaidoiaaDoorRows
import Derived.ProofKit
namespace Go.Proofs.YtelaoimcaidoiaaDoor
open Go
theorem bAnd {a b : Bool} (h : a = true) (k : b = true) : (a && b) = true := by rw [h, k]; rfl
theorem pStops : (Tryd.prog.stops == []) = true := by kernel_rfl
theorem pKnobs : (Tryd.prog.stopKnobs == []) = true := by kernel_rfl
theorem pEnter : Tryd.prog.mayEnter = true := by kernel_rfl
theorem pLifts : Tryd.prog.liftsFinal = false := by kernel_rfl
end Go.Proofs.YtelaoimcaidoiaaDoor
