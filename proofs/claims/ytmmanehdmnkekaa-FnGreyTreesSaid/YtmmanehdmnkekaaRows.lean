/-
  No cell of these rows narrows 'for every input' (looked for: loops, veiled, ifaces, maps, wideKeys, modest, calm, conditions, laid).
  DERIVED. THE GIVEN ROWS OF THIS SEAT. 9 by the template 'for every input the law returns true; each argument reads behind the call as it read before'; 0 by the template 'total and deterministic' (their statements: YtmmanehdmnkekaaTotals.lean).
  GIVEN WITH THE SEED: the statements are not yours to turn. If you find one false, say at which input.
  Laid BY PROGRAM, IN A SANDBOX (cutbox-rows.mjs): the forced cells as the released guide's own fill.sh prints them over the translation a10f527a484588f8… (all of the seat's roots in one cut). By AI agents, Wed Nov 11 2026. No macro, syntax, notation, axiom, sorry.
-/
import Derived.Test.YtmmanehdmnkekaaChecked
import GoSem.Claim
import GoSem.ClaimJoined
import GoSem.ClaimMapViews
import Derived.JoinedTies
import Derived.KernelRfl
namespace Go.Proofs.Ytmmanehdmnkekaa
/- THE CELL 'sum', in the pinned program and in every row, IS THE sha256 OF THE DUMP (.gsa) THAT YtmmanehdmnkekaaProg.lean LOADS. Nothing in Lean hashes anything: it is a label: what it is worth is what the hold of that sum in a sandbox is worth. -/
noncomputable def Try.pinned : Pinned := { name := "ytmmanehdmnkekaa", sum := "a10f527a484588f8c22cd5e4711584c1ed3dbbb0ab1c616129fed323e781c96d", checked := Try.checked }
namespace Rows
def none {H : Type} : Left H := { results := [], args := [] }

/-- 'laws.FnGreyTrees': WHATEVER THE INPUT: true; the input reads as it did. -/
def fnGreyTreesSpec : ChangeSpec := { name := "fnGreyTrees", fn := fun _ => fun
  | [d1, d2] => { results := [.lit (.bool true)], args := [d1, d2] }
  | _ => none }
def fnGreyTreesRow : OpenClaim := { program := "ytmmanehdmnkekaa", sum := "a10f527a484588f8c22cd5e4711584c1ed3dbbb0ab1c616129fed323e781c96d", func := "loop.example/g01165/laws.FnGreyTrees", spec := "fnGreyTrees", unfollowed := true, recurses := true, plainKeys := false, apart := false }
def FnGreyTreesSaid : Prop := fnGreyTreesRow.holds Try.pinned (OpenSpec.ofChange fnGreyTreesSpec)

/-- ITS FALSE NEIGHBOUR: 'it returns false'. Refute it at one input. -/
def fnGreyTreesWrong : ChangeSpec := { name := "fnGreyTrees", fn := fun _ => fun
  | [d1, d2] => { results := [.lit (.bool false)], args := [d1, d2] }
  | _ => none }
def FnGreyTreesWrongFalsely : Prop := fnGreyTreesRow.holds Try.pinned (OpenSpec.ofChange fnGreyTreesWrong)

/-- 'laws.FnTrees': WHATEVER THE INPUT: true; the input reads as it did. -/
def fnTreesSpec : ChangeSpec := { name := "fnTrees", fn := fun _ => fun
  | [d1, d2] => { results := [.lit (.bool true)], args := [d1, d2] }
  | _ => none }
def fnTreesRow : OpenClaim := { program := "ytmmanehdmnkekaa", sum := "a10f527a484588f8c22cd5e4711584c1ed3dbbb0ab1c616129fed323e781c96d", func := "loop.example/g01165/laws.FnTrees", spec := "fnTrees", unfollowed := true, recurses := true, plainKeys := false, apart := false }
def FnTreesSaid : Prop := fnTreesRow.holds Try.pinned (OpenSpec.ofChange fnTreesSpec)

/-- ITS FALSE NEIGHBOUR: 'it returns false'. Refute it at one input. -/
def fnTreesWrong : ChangeSpec := { name := "fnTrees", fn := fun _ => fun
  | [d1, d2] => { results := [.lit (.bool false)], args := [d1, d2] }
  | _ => none }
def FnTreesWrongFalsely : Prop := fnTreesRow.holds Try.pinned (OpenSpec.ofChange fnTreesWrong)

/-- 'laws.FnDecomposed': WHATEVER THE INPUT: true; the input reads as it did. -/
def fnDecomposedSpec : ChangeSpec := { name := "fnDecomposed", fn := fun _ => fun
  | [d1, d2] => { results := [.lit (.bool true)], args := [d1, d2] }
  | _ => none }
def fnDecomposedRow : OpenClaim := { program := "ytmmanehdmnkekaa", sum := "a10f527a484588f8c22cd5e4711584c1ed3dbbb0ab1c616129fed323e781c96d", func := "loop.example/g01165/laws.FnDecomposed", spec := "fnDecomposed", unfollowed := true, recurses := true, plainKeys := false, apart := false }
def FnDecomposedSaid : Prop := fnDecomposedRow.holds Try.pinned (OpenSpec.ofChange fnDecomposedSpec)

/-- ITS FALSE NEIGHBOUR: 'it returns false'. Refute it at one input. -/
def fnDecomposedWrong : ChangeSpec := { name := "fnDecomposed", fn := fun _ => fun
  | [d1, d2] => { results := [.lit (.bool false)], args := [d1, d2] }
  | _ => none }
def FnDecomposedWrongFalsely : Prop := fnDecomposedRow.holds Try.pinned (OpenSpec.ofChange fnDecomposedWrong)

/-- 'laws.FnBorders': WHATEVER THE INPUT: true; the input reads as it did. -/
def fnBordersSpec : ChangeSpec := { name := "fnBorders", fn := fun _ => fun
  | [d1, d2] => { results := [.lit (.bool true)], args := [d1, d2] }
  | _ => none }
def fnBordersRow : OpenClaim := { program := "ytmmanehdmnkekaa", sum := "a10f527a484588f8c22cd5e4711584c1ed3dbbb0ab1c616129fed323e781c96d", func := "loop.example/g01165/laws.FnBorders", spec := "fnBorders", inPlace := ["internal/bytealg.IndexByteString"], unfollowed := true, recurses := true, plainKeys := false, apart := false }
def FnBordersSaid : Prop := fnBordersRow.holds Try.pinned (OpenSpec.ofChange fnBordersSpec)

/-- ITS FALSE NEIGHBOUR: 'it returns false'. Refute it at one input. -/
def fnBordersWrong : ChangeSpec := { name := "fnBorders", fn := fun _ => fun
  | [d1, d2] => { results := [.lit (.bool false)], args := [d1, d2] }
  | _ => none }
def FnBordersWrongFalsely : Prop := fnBordersRow.holds Try.pinned (OpenSpec.ofChange fnBordersWrong)

/-- 'laws.FnExactPictureOfBorders': WHATEVER THE INPUT: true; the input reads as it did. -/
def fnExactPictureOfBordersSpec : ChangeSpec := { name := "fnExactPictureOfBorders", fn := fun _ => fun
  | [d1, d2, d3] => { results := [.lit (.bool true)], args := [d1, d2, d3] }
  | _ => none }
def fnExactPictureOfBordersRow : OpenClaim := { program := "ytmmanehdmnkekaa", sum := "a10f527a484588f8c22cd5e4711584c1ed3dbbb0ab1c616129fed323e781c96d", func := "loop.example/g01165/laws.FnExactPictureOfBorders", spec := "fnExactPictureOfBorders", inPlace := ["internal/bytealg.IndexByteString"], unfollowed := true, recurses := true, plainKeys := false, apart := false }
def FnExactPictureOfBordersSaid : Prop := fnExactPictureOfBordersRow.holds Try.pinned (OpenSpec.ofChange fnExactPictureOfBordersSpec)

/-- ITS FALSE NEIGHBOUR: 'it returns false'. Refute it at one input. -/
def fnExactPictureOfBordersWrong : ChangeSpec := { name := "fnExactPictureOfBorders", fn := fun _ => fun
  | [d1, d2, d3] => { results := [.lit (.bool false)], args := [d1, d2, d3] }
  | _ => none }
def FnExactPictureOfBordersWrongFalsely : Prop := fnExactPictureOfBordersRow.holds Try.pinned (OpenSpec.ofChange fnExactPictureOfBordersWrong)

/-- 'laws.FnOpenedAreas': WHATEVER THE INPUT: true; the input reads as it did. -/
def fnOpenedAreasSpec : ChangeSpec := { name := "fnOpenedAreas", fn := fun _ => fun
  | [d1, d2] => { results := [.lit (.bool true)], args := [d1, d2] }
  | _ => none }
def fnOpenedAreasRow : OpenClaim := { program := "ytmmanehdmnkekaa", sum := "a10f527a484588f8c22cd5e4711584c1ed3dbbb0ab1c616129fed323e781c96d", func := "loop.example/g01165/laws.FnOpenedAreas", spec := "fnOpenedAreas", unfollowed := true, recurses := true, plainKeys := false, apart := false }
def FnOpenedAreasSaid : Prop := fnOpenedAreasRow.holds Try.pinned (OpenSpec.ofChange fnOpenedAreasSpec)

/-- ITS FALSE NEIGHBOUR: 'it returns false'. Refute it at one input. -/
def fnOpenedAreasWrong : ChangeSpec := { name := "fnOpenedAreas", fn := fun _ => fun
  | [d1, d2] => { results := [.lit (.bool false)], args := [d1, d2] }
  | _ => none }
def FnOpenedAreasWrongFalsely : Prop := fnOpenedAreasRow.holds Try.pinned (OpenSpec.ofChange fnOpenedAreasWrong)

/-- 'laws.FnPeaks': WHATEVER THE INPUT: true; the input reads as it did. -/
def fnPeaksSpec : ChangeSpec := { name := "fnPeaks", fn := fun _ => fun
  | [d1, d2] => { results := [.lit (.bool true)], args := [d1, d2] }
  | _ => none }
def fnPeaksRow : OpenClaim := { program := "ytmmanehdmnkekaa", sum := "a10f527a484588f8c22cd5e4711584c1ed3dbbb0ab1c616129fed323e781c96d", func := "loop.example/g01165/laws.FnPeaks", spec := "fnPeaks", unfollowed := true, recurses := true, plainKeys := false, apart := false }
def FnPeaksSaid : Prop := fnPeaksRow.holds Try.pinned (OpenSpec.ofChange fnPeaksSpec)

/-- ITS FALSE NEIGHBOUR: 'it returns false'. Refute it at one input. -/
def fnPeaksWrong : ChangeSpec := { name := "fnPeaks", fn := fun _ => fun
  | [d1, d2] => { results := [.lit (.bool false)], args := [d1, d2] }
  | _ => none }
def FnPeaksWrongFalsely : Prop := fnPeaksRow.holds Try.pinned (OpenSpec.ofChange fnPeaksWrong)

/-- 'laws.FnExactOpenAreas': WHATEVER THE INPUT: true; the input reads as it did. -/
def fnExactOpenAreasSpec : ChangeSpec := { name := "fnExactOpenAreas", fn := fun _ => fun
  | [d1, d2] => { results := [.lit (.bool true)], args := [d1, d2] }
  | _ => none }
def fnExactOpenAreasRow : OpenClaim := { program := "ytmmanehdmnkekaa", sum := "a10f527a484588f8c22cd5e4711584c1ed3dbbb0ab1c616129fed323e781c96d", func := "loop.example/g01165/laws.FnExactOpenAreas", spec := "fnExactOpenAreas", unfollowed := true, recurses := true, plainKeys := false, apart := false }
def FnExactOpenAreasSaid : Prop := fnExactOpenAreasRow.holds Try.pinned (OpenSpec.ofChange fnExactOpenAreasSpec)

/-- ITS FALSE NEIGHBOUR: 'it returns false'. Refute it at one input. -/
def fnExactOpenAreasWrong : ChangeSpec := { name := "fnExactOpenAreas", fn := fun _ => fun
  | [d1, d2] => { results := [.lit (.bool false)], args := [d1, d2] }
  | _ => none }
def FnExactOpenAreasWrongFalsely : Prop := fnExactOpenAreasRow.holds Try.pinned (OpenSpec.ofChange fnExactOpenAreasWrong)

/-- 'laws.FnExactGreyTreeOf': WHATEVER THE INPUT: true; the input reads as it did. -/
def fnExactGreyTreeOfSpec : ChangeSpec := { name := "fnExactGreyTreeOf", fn := fun _ => fun
  | [d] => { results := [.lit (.bool true)], args := [d] }
  | _ => none }
def fnExactGreyTreeOfRow : OpenClaim := { program := "ytmmanehdmnkekaa", sum := "a10f527a484588f8c22cd5e4711584c1ed3dbbb0ab1c616129fed323e781c96d", func := "loop.example/g01165/laws.FnExactGreyTreeOf", spec := "fnExactGreyTreeOf", unfollowed := true, recurses := true, plainKeys := false, apart := false }
def FnExactGreyTreeOfSaid : Prop := fnExactGreyTreeOfRow.holds Try.pinned (OpenSpec.ofChange fnExactGreyTreeOfSpec)

/-- ITS FALSE NEIGHBOUR: 'it returns false'. Refute it at one input. -/
def fnExactGreyTreeOfWrong : ChangeSpec := { name := "fnExactGreyTreeOf", fn := fun _ => fun
  | [d] => { results := [.lit (.bool false)], args := [d] }
  | _ => none }
def FnExactGreyTreeOfWrongFalsely : Prop := fnExactGreyTreeOfRow.holds Try.pinned (OpenSpec.ofChange fnExactGreyTreeOfWrong)

/- THE SECOND FORM. 'bulk': how many values and letters a reading holds, each counted each time it is reached (what is shared counts as often as it is met; a slice's spare places count too). A statement '..UptoSaid' is the law's where the arguments, and the package variables that the reading takes, are together of bulk at most 1048576: NARROWER than '..Said'. Prove '..Said' where nothing that the law and all that it calls make is longer than what came in: it says more and counts as full. Else prove '..UptoSaid'. A law counts once. -/
mutual
def uptoBulk {H : Type} : DataW H → Nat
  | .lit (.string bytes) => bytes.length + 1
  | .lit _ => 1
  | .nil => 1
  | .ptr d => uptoBulk d + 1
  | .slice elems spare => uptoBulkAll elems + uptoBulkAll spare + 1
  | .agg parts => uptoBulkAll parts + 1
  | .iface _ d => uptoBulk d + 1
  | .map entries => uptoBulkEntries entries + 1
  | .held _ => 1
def uptoBulkAll {H : Type} : List (DataW H) → Nat
  | [] => 0
  | d :: r => uptoBulk d + uptoBulkAll r
def uptoBulkEntries {H : Type} : List (Lit × DataW H) → Nat
  | [] => 0
  | x :: r => uptoBulkEntry x + uptoBulkEntries r
def uptoBulkEntry {H : Type} : Lit × DataW H → Nat
  | (.string bytes, d) => bytes.length + uptoBulk d + 1
  | (_, d) => uptoBulk d + 1
 end
def uptoSmall : (H : Type) → List (DataW H) → Bool := fun _ ds => decide (uptoBulkAll ds ≤ 1048576)
def OpenSpec.upto (s : _root_.Go.ChangeSpec) : _root_.Go.OpenSpec := { _root_.Go.OpenSpec.ofChange s with cond := some uptoSmall }

/-- 'laws.FnGreyTrees', WHERE WHAT IT READS IS OF BULK AT MOST 1048576: true; the input reads as it did. -/
def fnGreyTreesUptoRow : OpenClaim := { program := "ytmmanehdmnkekaa", sum := "a10f527a484588f8c22cd5e4711584c1ed3dbbb0ab1c616129fed323e781c96d", func := "loop.example/g01165/laws.FnGreyTrees", spec := "fnGreyTrees", unfollowed := true, recurses := true, plainKeys := false, apart := false, narrowed := true }
def FnGreyTreesUptoSaid : Prop := fnGreyTreesUptoRow.holds Try.pinned (OpenSpec.upto fnGreyTreesSpec)

/-- 'laws.FnTrees', WHERE WHAT IT READS IS OF BULK AT MOST 1048576: true; the input reads as it did. -/
def fnTreesUptoRow : OpenClaim := { program := "ytmmanehdmnkekaa", sum := "a10f527a484588f8c22cd5e4711584c1ed3dbbb0ab1c616129fed323e781c96d", func := "loop.example/g01165/laws.FnTrees", spec := "fnTrees", unfollowed := true, recurses := true, plainKeys := false, apart := false, narrowed := true }
def FnTreesUptoSaid : Prop := fnTreesUptoRow.holds Try.pinned (OpenSpec.upto fnTreesSpec)

/-- 'laws.FnDecomposed', WHERE WHAT IT READS IS OF BULK AT MOST 1048576: true; the input reads as it did. -/
def fnDecomposedUptoRow : OpenClaim := { program := "ytmmanehdmnkekaa", sum := "a10f527a484588f8c22cd5e4711584c1ed3dbbb0ab1c616129fed323e781c96d", func := "loop.example/g01165/laws.FnDecomposed", spec := "fnDecomposed", unfollowed := true, recurses := true, plainKeys := false, apart := false, narrowed := true }
def FnDecomposedUptoSaid : Prop := fnDecomposedUptoRow.holds Try.pinned (OpenSpec.upto fnDecomposedSpec)

/-- 'laws.FnBorders', WHERE WHAT IT READS IS OF BULK AT MOST 1048576: true; the input reads as it did. -/
def fnBordersUptoRow : OpenClaim := { program := "ytmmanehdmnkekaa", sum := "a10f527a484588f8c22cd5e4711584c1ed3dbbb0ab1c616129fed323e781c96d", func := "loop.example/g01165/laws.FnBorders", spec := "fnBorders", inPlace := ["internal/bytealg.IndexByteString"], unfollowed := true, recurses := true, plainKeys := false, apart := false, narrowed := true }
def FnBordersUptoSaid : Prop := fnBordersUptoRow.holds Try.pinned (OpenSpec.upto fnBordersSpec)

/-- 'laws.FnExactPictureOfBorders', WHERE WHAT IT READS IS OF BULK AT MOST 1048576: true; the input reads as it did. -/
def fnExactPictureOfBordersUptoRow : OpenClaim := { program := "ytmmanehdmnkekaa", sum := "a10f527a484588f8c22cd5e4711584c1ed3dbbb0ab1c616129fed323e781c96d", func := "loop.example/g01165/laws.FnExactPictureOfBorders", spec := "fnExactPictureOfBorders", inPlace := ["internal/bytealg.IndexByteString"], unfollowed := true, recurses := true, plainKeys := false, apart := false, narrowed := true }
def FnExactPictureOfBordersUptoSaid : Prop := fnExactPictureOfBordersUptoRow.holds Try.pinned (OpenSpec.upto fnExactPictureOfBordersSpec)

/-- 'laws.FnOpenedAreas', WHERE WHAT IT READS IS OF BULK AT MOST 1048576: true; the input reads as it did. -/
def fnOpenedAreasUptoRow : OpenClaim := { program := "ytmmanehdmnkekaa", sum := "a10f527a484588f8c22cd5e4711584c1ed3dbbb0ab1c616129fed323e781c96d", func := "loop.example/g01165/laws.FnOpenedAreas", spec := "fnOpenedAreas", unfollowed := true, recurses := true, plainKeys := false, apart := false, narrowed := true }
def FnOpenedAreasUptoSaid : Prop := fnOpenedAreasUptoRow.holds Try.pinned (OpenSpec.upto fnOpenedAreasSpec)

/-- 'laws.FnPeaks', WHERE WHAT IT READS IS OF BULK AT MOST 1048576: true; the input reads as it did. -/
def fnPeaksUptoRow : OpenClaim := { program := "ytmmanehdmnkekaa", sum := "a10f527a484588f8c22cd5e4711584c1ed3dbbb0ab1c616129fed323e781c96d", func := "loop.example/g01165/laws.FnPeaks", spec := "fnPeaks", unfollowed := true, recurses := true, plainKeys := false, apart := false, narrowed := true }
def FnPeaksUptoSaid : Prop := fnPeaksUptoRow.holds Try.pinned (OpenSpec.upto fnPeaksSpec)

/-- 'laws.FnExactOpenAreas', WHERE WHAT IT READS IS OF BULK AT MOST 1048576: true; the input reads as it did. -/
def fnExactOpenAreasUptoRow : OpenClaim := { program := "ytmmanehdmnkekaa", sum := "a10f527a484588f8c22cd5e4711584c1ed3dbbb0ab1c616129fed323e781c96d", func := "loop.example/g01165/laws.FnExactOpenAreas", spec := "fnExactOpenAreas", unfollowed := true, recurses := true, plainKeys := false, apart := false, narrowed := true }
def FnExactOpenAreasUptoSaid : Prop := fnExactOpenAreasUptoRow.holds Try.pinned (OpenSpec.upto fnExactOpenAreasSpec)

/-- 'laws.FnExactGreyTreeOf', WHERE WHAT IT READS IS OF BULK AT MOST 1048576: true; the input reads as it did. -/
def fnExactGreyTreeOfUptoRow : OpenClaim := { program := "ytmmanehdmnkekaa", sum := "a10f527a484588f8c22cd5e4711584c1ed3dbbb0ab1c616129fed323e781c96d", func := "loop.example/g01165/laws.FnExactGreyTreeOf", spec := "fnExactGreyTreeOf", unfollowed := true, recurses := true, plainKeys := false, apart := false, narrowed := true }
def FnExactGreyTreeOfUptoSaid : Prop := fnExactGreyTreeOfUptoRow.holds Try.pinned (OpenSpec.upto fnExactGreyTreeOfSpec)

end Rows
end Go.Proofs.Ytmmanehdmnkekaa
