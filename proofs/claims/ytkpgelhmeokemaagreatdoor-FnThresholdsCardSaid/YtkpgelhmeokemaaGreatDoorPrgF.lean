/- Facts about the program alone that the last step of a law asks for: each costs the kernel much. -/
import Derived.Test.YtkpgelhmeokemaaGreatDoorRows
import Derived.ProofKit
namespace Go.Proofs.YtkpgelhmeokemaaGreatDoor
open Go
theorem bAnd {a b : Bool} (h : a = true) (k : b = true) : (a && b) = true := by rw [h, k]; rfl
theorem pStops : (Tryz.prog.stops == []) = true := by kernel_rfl
theorem pKnobs : (Tryz.prog.stopKnobs == []) = true := by kernel_rfl
theorem pEnter : Tryz.prog.mayEnter = true := by kernel_rfl
theorem pLifts : Tryz.prog.liftsFinal = false := by kernel_rfl
end Go.Proofs.YtkpgelhmeokemaaGreatDoor
