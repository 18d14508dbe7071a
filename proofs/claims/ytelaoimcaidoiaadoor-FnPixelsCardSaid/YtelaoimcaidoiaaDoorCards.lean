/-
  DERIVED. GIVEN WITH THE SEED: THE CARDS: each row of YtelaoimcaidoiaaDoorRows.lean that lists a variable, with what it lists TIED to the program's text (the seventh form; the later family's looks); each row that meets fmt, with fmt's text TOLD by the authors' own Lean function (tested against real Go, not proved from fmt's source: count such statements apart). THE CARD IS WHAT COUNTS. Prove the row's statement (the work); the ties are given (YtelaoimcaidoiaaDoorTie.lean); close each card by the builder's one call (the guide's Derived/Test/ToyasCard.lean, 'card_holds'). Laid BY PROGRAM, IN A SANDBOX (cutbox-door.mjs). By AI agents, Wed Nov 11 2026. No macro, syntax, notation, axiom, sorry.
-/
import Derived.Test.YtelaoimcaidoiaaDoorRows
import GoSem.ClaimSeven
namespace Go.Proofs.YtelaoimcaidoiaaDoor
namespace Rows

/-- THE TIED CARD OF 'laws.FnPixels'. -/
def fnPixelsCard : Claim7 := { stood := { row := fnPixelsRow, standIns := [], harness := (true, "d435299042de6be7b4ac87e2ce83d3e13a172d3aed496921478548f27463ae47"), looks := false }, kinds := [], alts := [], laidByText := true, laidKinds := [.data, .pinned], laidTests := true, laidLooks := .later }
def FnPixelsCardSaid : Prop := Claim7.holds Tryd.pinned (.plain (OpenSpec.ofChange fnPixelsSpec)) fnPixelsCard

/-- THE SECOND FORM's CARD OF 'laws.FnPixels'. -/
def fnPixelsUptoCard : Claim7 := { stood := { row := fnPixelsUptoRow, standIns := [], harness := (true, "d435299042de6be7b4ac87e2ce83d3e13a172d3aed496921478548f27463ae47"), looks := false }, kinds := [], alts := [], laidByText := true, laidKinds := [.data, .pinned], laidTests := true, laidLooks := .later }
def FnPixelsUptoCardSaid : Prop := Claim7.holds Tryd.pinned (.plain (OpenSpec.upto fnPixelsSpec)) fnPixelsUptoCard
end Rows
end Go.Proofs.YtelaoimcaidoiaaDoor
