/-
  DERIVED. GIVEN WITH THE SEED: THE CARDS: each row of YtkpgelhmeokemaaGreatDoorRows.lean that lists a variable, with what it lists TIED to the program's text (the seventh form; the later family's looks); each row that meets fmt, with fmt's text TOLD by the authors' own Lean function (tested against real Go, not proved from fmt's source: count such statements apart). THE CARD IS WHAT COUNTS. Prove the row's statement (the work); the ties are given (YtkpgelhmeokemaaGreatDoorTie.lean); close each card by the builder's one call (the guide's Derived/Test/ToyasCard.lean, 'card_holds'). Laid BY PROGRAM, IN A SANDBOX (cutbox-door.mjs). By AI agents, Wed Nov 11 2026. No macro, syntax, notation, axiom, sorry.
-/
import Derived.Test.YtkpgelhmeokemaaGreatDoorRows
import GoSem.ClaimSeven
namespace Go.Proofs.YtkpgelhmeokemaaGreatDoor
namespace Rows

/-- THE TIED CARD OF 'laws.FnThresholds'. -/
def fnThresholdsCard : Claim7 := { stood := { row := fnThresholdsRow, standIns := [], harness := (true, "c27723e8b954e7d769c7f492fc0fe0e4e228896d57046aa36bfdcec7fc66d512"), looks := true }, kinds := [], alts := [], laidByText := true, laidKinds := [.data, .data, .data, .data, .sentinel, .sentinel, .pinned], laidTests := true, laidLooks := .later }
def FnThresholdsCardSaid : Prop := Claim7.holds Tryz.pinned (.plain (OpenSpec.ofChange fnThresholdsSpec)) fnThresholdsCard

/-- THE SECOND FORM's CARD OF 'laws.FnThresholds'. -/
def fnThresholdsUptoCard : Claim7 := { stood := { row := fnThresholdsUptoRow, standIns := [], harness := (true, "c27723e8b954e7d769c7f492fc0fe0e4e228896d57046aa36bfdcec7fc66d512"), looks := true }, kinds := [], alts := [], laidByText := true, laidKinds := [.data, .data, .data, .data, .sentinel, .sentinel, .pinned], laidTests := true, laidLooks := .later }
def FnThresholdsUptoCardSaid : Prop := Claim7.holds Tryz.pinned (.plain (OpenSpec.upto fnThresholdsSpec)) fnThresholdsUptoCard
end Rows
end Go.Proofs.YtkpgelhmeokemaaGreatDoor
