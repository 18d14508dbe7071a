/-
  DERIVED. GIVEN WITH THE SEED: THE CARDS: each row of YthgkmaccbcpaeaaDoorRows.lean that lists a variable, with what it lists TIED to the program's text (the seventh form; the later family's looks); each row that meets fmt, with fmt's text TOLD by the authors' own Lean function (tested against real Go, not proved from fmt's source: count such statements apart). THE CARD IS WHAT COUNTS. Prove the row's statement (the work); the ties are given (YthgkmaccbcpaeaaDoorTie.lean); close each card by the builder's one call (the guide's Derived/Test/ToyasCard.lean, 'card_holds'). Laid BY PROGRAM, IN A SANDBOX (cutbox-door.mjs). By AI agents, Wed Nov 11 2026. No macro, syntax, notation, axiom, sorry.
-/
import Derived.Test.YthgkmaccbcpaeaaDoorRows
import GoSem.ClaimSeven
namespace Go.Proofs.YthgkmaccbcpaeaaDoor
namespace Rows

/-- THE TIED CARD OF 'laws.FnExactGreyText'. -/
def fnExactGreyTextCard : Claim7 := { stood := { row := fnExactGreyTextRow, standIns := [], harness := (true, "dc1cabaa9ee1cc2e8cf9d4df20f1a87959f2f455ae3fcb9028a187b2c511c4ab"), looks := true }, kinds := [], alts := [], laidByText := true, laidKinds := [.data, .data, .data], laidTests := true, laidLooks := .later }
def FnExactGreyTextCardSaid : Prop := Claim7.holds Tryd.pinned (.plain (OpenSpec.ofChange fnExactGreyTextSpec)) fnExactGreyTextCard

/-- THE TIED CARD OF 'laws.FnPixels'. -/
def fnPixelsCard : Claim7 := { stood := { row := fnPixelsRow, standIns := [], harness := (true, "dc1cabaa9ee1cc2e8cf9d4df20f1a87959f2f455ae3fcb9028a187b2c511c4ab"), looks := true }, kinds := [], alts := [], laidByText := true, laidKinds := [.data, .pinned], laidTests := true, laidLooks := .later }
def FnPixelsCardSaid : Prop := Claim7.holds Tryd.pinned (.plain (OpenSpec.ofChange fnPixelsSpec)) fnPixelsCard

/-- THE TIED CARD OF 'laws.FnExactReadGrey'. -/
def fnExactReadGreyCard : Claim7 := { stood := { row := fnExactReadGreyRow, standIns := [], harness := (true, "dc1cabaa9ee1cc2e8cf9d4df20f1a87959f2f455ae3fcb9028a187b2c511c4ab"), looks := true }, kinds := [], alts := [], laidByText := true, laidKinds := [.data, .data, .data, .data, .sentinel, .sentinel, .pinned], laidTests := true, laidLooks := .later }
def FnExactReadGreyCardSaid : Prop := Claim7.holds Tryd.pinned (.plain (OpenSpec.ofChange fnExactReadGreySpec)) fnExactReadGreyCard

/-- THE SECOND FORM's CARD OF 'laws.FnExactGreyText'. -/
def fnExactGreyTextUptoCard : Claim7 := { stood := { row := fnExactGreyTextUptoRow, standIns := [], harness := (true, "dc1cabaa9ee1cc2e8cf9d4df20f1a87959f2f455ae3fcb9028a187b2c511c4ab"), looks := true }, kinds := [], alts := [], laidByText := true, laidKinds := [.data, .data, .data], laidTests := true, laidLooks := .later }
def FnExactGreyTextUptoCardSaid : Prop := Claim7.holds Tryd.pinned (.plain (OpenSpec.upto fnExactGreyTextSpec)) fnExactGreyTextUptoCard

/-- THE SECOND FORM's CARD OF 'laws.FnPixels'. -/
def fnPixelsUptoCard : Claim7 := { stood := { row := fnPixelsUptoRow, standIns := [], harness := (true, "dc1cabaa9ee1cc2e8cf9d4df20f1a87959f2f455ae3fcb9028a187b2c511c4ab"), looks := true }, kinds := [], alts := [], laidByText := true, laidKinds := [.data, .pinned], laidTests := true, laidLooks := .later }
def FnPixelsUptoCardSaid : Prop := Claim7.holds Tryd.pinned (.plain (OpenSpec.upto fnPixelsSpec)) fnPixelsUptoCard

/-- THE SECOND FORM's CARD OF 'laws.FnExactReadGrey'. -/
def fnExactReadGreyUptoCard : Claim7 := { stood := { row := fnExactReadGreyUptoRow, standIns := [], harness := (true, "dc1cabaa9ee1cc2e8cf9d4df20f1a87959f2f455ae3fcb9028a187b2c511c4ab"), looks := true }, kinds := [], alts := [], laidByText := true, laidKinds := [.data, .data, .data, .data, .sentinel, .sentinel, .pinned], laidTests := true, laidLooks := .later }
def FnExactReadGreyUptoCardSaid : Prop := Claim7.holds Tryd.pinned (.plain (OpenSpec.upto fnExactReadGreySpec)) fnExactReadGreyUptoCard
end Rows
end Go.Proofs.YthgkmaccbcpaeaaDoor
