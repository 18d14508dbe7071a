/-
  No cell of these rows narrows 'for every input' (looked for: loops, veiled, ifaces, maps, wideKeys, modest, calm, conditions, laid).
  DERIVED. THE GIVEN ROWS OF THIS SEAT. 12 by the template 'for every input the law returns true; each argument reads behind the call as it read before'; 0 by the template 'total and deterministic' (their statements: YtpdmfnndegcjjaaTotals.lean).
  GIVEN WITH THE SEED: the statements are not yours to turn. If you find one false, say at which input.
  Laid BY PROGRAM, IN A SANDBOX (cutbox-rows.mjs): the forced cells as the released guide's own fill.sh prints them over the translation 6fea92cdf6f6cc1c… (all of the seat's roots in one cut). By AI agents, Wed Nov 11 2026. No macro, syntax, notation, axiom, sorry.
-/
import Derived.Test.YtpdmfnndegcjjaaChecked
import GoSem.Claim
import GoSem.ClaimJoined
import GoSem.ClaimMapViews
import Derived.JoinedTies
import Derived.KernelRfl
namespace Go.Proofs.Ytpdmfnndegcjjaa
/- THE CELL 'sum', in the pinned program and in every row, IS THE sha256 OF THE DUMP (.gsa) THAT YtpdmfnndegcjjaaProg.lean LOADS. Nothing in Lean hashes anything: it is a label: what it is worth is what the hold of that sum in a sandbox is worth. -/
noncomputable def Try.pinned : Pinned := { name := "ytpdmfnndegcjjaa", sum := "6fea92cdf6f6cc1c94e4e5ae7e3888602ecd060cb36eb9045dca677e13b6c5d6", checked := Try.checked }
namespace Rows
def none {H : Type} : Left H := { results := [], args := [] }

/-- 'laws.FnReached': WHATEVER THE INPUT: true; the input reads as it did. -/
def fnReachedSpec : ChangeSpec := { name := "fnReached", fn := fun _ => fun
  | [d1, d2] => { results := [.lit (.bool true)], args := [d1, d2] }
  | _ => none }
def fnReachedRow : OpenClaim := { program := "ytpdmfnndegcjjaa", sum := "6fea92cdf6f6cc1c94e4e5ae7e3888602ecd060cb36eb9045dca677e13b6c5d6", func := "loop.example/g01165/laws.FnReached", spec := "fnReached", unfollowed := true, recurses := true, plainKeys := false, apart := false }
def FnReachedSaid : Prop := fnReachedRow.holds Try.pinned (OpenSpec.ofChange fnReachedSpec)

/-- ITS FALSE NEIGHBOUR: 'it returns false'. Refute it at one input. -/
def fnReachedWrong : ChangeSpec := { name := "fnReached", fn := fun _ => fun
  | [d1, d2] => { results := [.lit (.bool false)], args := [d1, d2] }
  | _ => none }
def FnReachedWrongFalsely : Prop := fnReachedRow.holds Try.pinned (OpenSpec.ofChange fnReachedWrong)

/-- 'laws.FnExactStackPictures': WHATEVER THE INPUT: true; the input reads as it did. -/
def fnExactStackPicturesSpec : ChangeSpec := { name := "fnExactStackPictures", fn := fun _ => fun
  | [d] => { results := [.lit (.bool true)], args := [d] }
  | _ => none }
def fnExactStackPicturesRow : OpenClaim := { program := "ytpdmfnndegcjjaa", sum := "6fea92cdf6f6cc1c94e4e5ae7e3888602ecd060cb36eb9045dca677e13b6c5d6", func := "loop.example/g01165/laws.FnExactStackPictures", spec := "fnExactStackPictures", unfollowed := true, recurses := true, plainKeys := false, apart := false }
def FnExactStackPicturesSaid : Prop := fnExactStackPicturesRow.holds Try.pinned (OpenSpec.ofChange fnExactStackPicturesSpec)

/-- ITS FALSE NEIGHBOUR: 'it returns false'. Refute it at one input. -/
def fnExactStackPicturesWrong : ChangeSpec := { name := "fnExactStackPictures", fn := fun _ => fun
  | [d] => { results := [.lit (.bool false)], args := [d] }
  | _ => none }
def FnExactStackPicturesWrongFalsely : Prop := fnExactStackPicturesRow.holds Try.pinned (OpenSpec.ofChange fnExactStackPicturesWrong)

/-- 'laws.FnExactFloodMarks': WHATEVER THE INPUT: true; the input reads as it did. -/
def fnExactFloodMarksSpec : ChangeSpec := { name := "fnExactFloodMarks", fn := fun _ => fun
  | [d1, d2] => { results := [.lit (.bool true)], args := [d1, d2] }
  | _ => none }
def fnExactFloodMarksRow : OpenClaim := { program := "ytpdmfnndegcjjaa", sum := "6fea92cdf6f6cc1c94e4e5ae7e3888602ecd060cb36eb9045dca677e13b6c5d6", func := "loop.example/g01165/laws.FnExactFloodMarks", spec := "fnExactFloodMarks", unfollowed := true, recurses := true, plainKeys := false, apart := false }
def FnExactFloodMarksSaid : Prop := fnExactFloodMarksRow.holds Try.pinned (OpenSpec.ofChange fnExactFloodMarksSpec)

/-- ITS FALSE NEIGHBOUR: 'it returns false'. Refute it at one input. -/
def fnExactFloodMarksWrong : ChangeSpec := { name := "fnExactFloodMarks", fn := fun _ => fun
  | [d1, d2] => { results := [.lit (.bool false)], args := [d1, d2] }
  | _ => none }
def FnExactFloodMarksWrongFalsely : Prop := fnExactFloodMarksRow.holds Try.pinned (OpenSpec.ofChange fnExactFloodMarksWrong)

/-- 'laws.FnRuns': WHATEVER THE INPUT: true; the input reads as it did. -/
def fnRunsSpec : ChangeSpec := { name := "fnRuns", fn := fun _ => fun
  | [d1, d2] => { results := [.lit (.bool true)], args := [d1, d2] }
  | _ => none }
def fnRunsRow : OpenClaim := { program := "ytpdmfnndegcjjaa", sum := "6fea92cdf6f6cc1c94e4e5ae7e3888602ecd060cb36eb9045dca677e13b6c5d6", func := "loop.example/g01165/laws.FnRuns", spec := "fnRuns", unfollowed := true, recurses := true, plainKeys := false, apart := false }
def FnRunsSaid : Prop := fnRunsRow.holds Try.pinned (OpenSpec.ofChange fnRunsSpec)

/-- ITS FALSE NEIGHBOUR: 'it returns false'. Refute it at one input. -/
def fnRunsWrong : ChangeSpec := { name := "fnRuns", fn := fun _ => fun
  | [d1, d2] => { results := [.lit (.bool false)], args := [d1, d2] }
  | _ => none }
def FnRunsWrongFalsely : Prop := fnRunsRow.holds Try.pinned (OpenSpec.ofChange fnRunsWrong)

/-- 'laws.FnShift': WHATEVER THE INPUT: true; the input reads as it did. -/
def fnShiftSpec : ChangeSpec := { name := "fnShift", fn := fun _ => fun
  | [d1, d2] => { results := [.lit (.bool true)], args := [d1, d2] }
  | _ => none }
def fnShiftRow : OpenClaim := { program := "ytpdmfnndegcjjaa", sum := "6fea92cdf6f6cc1c94e4e5ae7e3888602ecd060cb36eb9045dca677e13b6c5d6", func := "loop.example/g01165/laws.FnShift", spec := "fnShift", unfollowed := true, recurses := true, plainKeys := false, apart := false }
def FnShiftSaid : Prop := fnShiftRow.holds Try.pinned (OpenSpec.ofChange fnShiftSpec)

/-- ITS FALSE NEIGHBOUR: 'it returns false'. Refute it at one input. -/
def fnShiftWrong : ChangeSpec := { name := "fnShift", fn := fun _ => fun
  | [d1, d2] => { results := [.lit (.bool false)], args := [d1, d2] }
  | _ => none }
def FnShiftWrongFalsely : Prop := fnShiftRow.holds Try.pinned (OpenSpec.ofChange fnShiftWrong)

/-- 'laws.FnTrees': WHATEVER THE INPUT: true; the input reads as it did. -/
def fnTreesSpec : ChangeSpec := { name := "fnTrees", fn := fun _ => fun
  | [d1, d2] => { results := [.lit (.bool true)], args := [d1, d2] }
  | _ => none }
def fnTreesRow : OpenClaim := { program := "ytpdmfnndegcjjaa", sum := "6fea92cdf6f6cc1c94e4e5ae7e3888602ecd060cb36eb9045dca677e13b6c5d6", func := "loop.example/g01165/laws.FnTrees", spec := "fnTrees", unfollowed := true, recurses := true, plainKeys := false, apart := false }
def FnTreesSaid : Prop := fnTreesRow.holds Try.pinned (OpenSpec.ofChange fnTreesSpec)

/-- ITS FALSE NEIGHBOUR: 'it returns false'. Refute it at one input. -/
def fnTreesWrong : ChangeSpec := { name := "fnTrees", fn := fun _ => fun
  | [d1, d2] => { results := [.lit (.bool false)], args := [d1, d2] }
  | _ => none }
def FnTreesWrongFalsely : Prop := fnTreesRow.holds Try.pinned (OpenSpec.ofChange fnTreesWrong)

/-- 'laws.FnTreeSets': WHATEVER THE INPUT: true; the input reads as it did. -/
def fnTreeSetsSpec : ChangeSpec := { name := "fnTreeSets", fn := fun _ => fun
  | [d1, d2] => { results := [.lit (.bool true)], args := [d1, d2] }
  | _ => none }
def fnTreeSetsRow : OpenClaim := { program := "ytpdmfnndegcjjaa", sum := "6fea92cdf6f6cc1c94e4e5ae7e3888602ecd060cb36eb9045dca677e13b6c5d6", func := "loop.example/g01165/laws.FnTreeSets", spec := "fnTreeSets", unfollowed := true, recurses := true, plainKeys := false, apart := false }
def FnTreeSetsSaid : Prop := fnTreeSetsRow.holds Try.pinned (OpenSpec.ofChange fnTreeSetsSpec)

/-- ITS FALSE NEIGHBOUR: 'it returns false'. Refute it at one input. -/
def fnTreeSetsWrong : ChangeSpec := { name := "fnTreeSets", fn := fun _ => fun
  | [d1, d2] => { results := [.lit (.bool false)], args := [d1, d2] }
  | _ => none }
def FnTreeSetsWrongFalsely : Prop := fnTreeSetsRow.holds Try.pinned (OpenSpec.ofChange fnTreeSetsWrong)

/-- 'laws.FnExactPictureOfRuns': WHATEVER THE INPUT: true; the input reads as it did. -/
def fnExactPictureOfRunsSpec : ChangeSpec := { name := "fnExactPictureOfRuns", fn := fun _ => fun
  | [d1, d2, d3] => { results := [.lit (.bool true)], args := [d1, d2, d3] }
  | _ => none }
def fnExactPictureOfRunsRow : OpenClaim := { program := "ytpdmfnndegcjjaa", sum := "6fea92cdf6f6cc1c94e4e5ae7e3888602ecd060cb36eb9045dca677e13b6c5d6", func := "loop.example/g01165/laws.FnExactPictureOfRuns", spec := "fnExactPictureOfRuns", unfollowed := true, recurses := true, plainKeys := false, apart := false }
def FnExactPictureOfRunsSaid : Prop := fnExactPictureOfRunsRow.holds Try.pinned (OpenSpec.ofChange fnExactPictureOfRunsSpec)

/-- ITS FALSE NEIGHBOUR: 'it returns false'. Refute it at one input. -/
def fnExactPictureOfRunsWrong : ChangeSpec := { name := "fnExactPictureOfRuns", fn := fun _ => fun
  | [d1, d2, d3] => { results := [.lit (.bool false)], args := [d1, d2, d3] }
  | _ => none }
def FnExactPictureOfRunsWrongFalsely : Prop := fnExactPictureOfRunsRow.holds Try.pinned (OpenSpec.ofChange fnExactPictureOfRunsWrong)

/-- 'laws.FnExactBorderAt': WHATEVER THE INPUT: true; the input reads as it did. -/
def fnExactBorderAtSpec : ChangeSpec := { name := "fnExactBorderAt", fn := fun _ => fun
  | [d1, d2] => { results := [.lit (.bool true)], args := [d1, d2] }
  | _ => none }
def fnExactBorderAtRow : OpenClaim := { program := "ytpdmfnndegcjjaa", sum := "6fea92cdf6f6cc1c94e4e5ae7e3888602ecd060cb36eb9045dca677e13b6c5d6", func := "loop.example/g01165/laws.FnExactBorderAt", spec := "fnExactBorderAt", inPlace := ["internal/bytealg.IndexByteString"], unfollowed := true, recurses := true, plainKeys := false, apart := false }
def FnExactBorderAtSaid : Prop := fnExactBorderAtRow.holds Try.pinned (OpenSpec.ofChange fnExactBorderAtSpec)

/-- ITS FALSE NEIGHBOUR: 'it returns false'. Refute it at one input. -/
def fnExactBorderAtWrong : ChangeSpec := { name := "fnExactBorderAt", fn := fun _ => fun
  | [d1, d2] => { results := [.lit (.bool false)], args := [d1, d2] }
  | _ => none }
def FnExactBorderAtWrongFalsely : Prop := fnExactBorderAtRow.holds Try.pinned (OpenSpec.ofChange fnExactBorderAtWrong)

/-- 'laws.FnExactBordersOf': WHATEVER THE INPUT: true; the input reads as it did. -/
def fnExactBordersOfSpec : ChangeSpec := { name := "fnExactBordersOf", fn := fun _ => fun
  | [d] => { results := [.lit (.bool true)], args := [d] }
  | _ => none }
def fnExactBordersOfRow : OpenClaim := { program := "ytpdmfnndegcjjaa", sum := "6fea92cdf6f6cc1c94e4e5ae7e3888602ecd060cb36eb9045dca677e13b6c5d6", func := "loop.example/g01165/laws.FnExactBordersOf", spec := "fnExactBordersOf", unfollowed := true, recurses := true, plainKeys := false, apart := false }
def FnExactBordersOfSaid : Prop := fnExactBordersOfRow.holds Try.pinned (OpenSpec.ofChange fnExactBordersOfSpec)

/-- ITS FALSE NEIGHBOUR: 'it returns false'. Refute it at one input. -/
def fnExactBordersOfWrong : ChangeSpec := { name := "fnExactBordersOf", fn := fun _ => fun
  | [d] => { results := [.lit (.bool false)], args := [d] }
  | _ => none }
def FnExactBordersOfWrongFalsely : Prop := fnExactBordersOfRow.holds Try.pinned (OpenSpec.ofChange fnExactBordersOfWrong)

/-- 'laws.FnExactPictureOfBorders': WHATEVER THE INPUT: true; the input reads as it did. -/
def fnExactPictureOfBordersSpec : ChangeSpec := { name := "fnExactPictureOfBorders", fn := fun _ => fun
  | [d1, d2, d3] => { results := [.lit (.bool true)], args := [d1, d2, d3] }
  | _ => none }
def fnExactPictureOfBordersRow : OpenClaim := { program := "ytpdmfnndegcjjaa", sum := "6fea92cdf6f6cc1c94e4e5ae7e3888602ecd060cb36eb9045dca677e13b6c5d6", func := "loop.example/g01165/laws.FnExactPictureOfBorders", spec := "fnExactPictureOfBorders", inPlace := ["internal/bytealg.IndexByteString"], unfollowed := true, recurses := true, plainKeys := false, apart := false }
def FnExactPictureOfBordersSaid : Prop := fnExactPictureOfBordersRow.holds Try.pinned (OpenSpec.ofChange fnExactPictureOfBordersSpec)

/-- ITS FALSE NEIGHBOUR: 'it returns false'. Refute it at one input. -/
def fnExactPictureOfBordersWrong : ChangeSpec := { name := "fnExactPictureOfBorders", fn := fun _ => fun
  | [d1, d2, d3] => { results := [.lit (.bool false)], args := [d1, d2, d3] }
  | _ => none }
def FnExactPictureOfBordersWrongFalsely : Prop := fnExactPictureOfBordersRow.holds Try.pinned (OpenSpec.ofChange fnExactPictureOfBordersWrong)

/-- 'laws.FnGrown': WHATEVER THE INPUT: true; the input reads as it did. -/
def fnGrownSpec : ChangeSpec := { name := "fnGrown", fn := fun _ => fun
  | [d1, d2] => { results := [.lit (.bool true)], args := [d1, d2] }
  | _ => none }
def fnGrownRow : OpenClaim := { program := "ytpdmfnndegcjjaa", sum := "6fea92cdf6f6cc1c94e4e5ae7e3888602ecd060cb36eb9045dca677e13b6c5d6", func := "loop.example/g01165/laws.FnGrown", spec := "fnGrown", unfollowed := true, recurses := true, plainKeys := false, apart := false }
def FnGrownSaid : Prop := fnGrownRow.holds Try.pinned (OpenSpec.ofChange fnGrownSpec)

/-- ITS FALSE NEIGHBOUR: 'it returns false'. Refute it at one input. -/
def fnGrownWrong : ChangeSpec := { name := "fnGrown", fn := fun _ => fun
  | [d1, d2] => { results := [.lit (.bool false)], args := [d1, d2] }
  | _ => none }
def FnGrownWrongFalsely : Prop := fnGrownRow.holds Try.pinned (OpenSpec.ofChange fnGrownWrong)

/- THE SECOND FORM. 'bulk': how many values and letters a reading holds, each counted each time it is reached (what is shared counts as often as it is met; a slice's spare places count too). A statement '..UptoSaid' is the law's where the arguments, and the package variables that the reading takes, are together of bulk at most 1048576: NARROWER than '..Said'. Prove '..Said' where nothing that the law and all that it calls make is longer than what came in: it says more and counts as full. Else prove '..UptoSaid'. A law counts once. -/
mutual
def uptoBulk {H : Type} : DataW H → Nat
  | .lit (.string bytes) => bytes.length + 1
  | .lit _ => 1
  | .nil => 1
  | .ptr d => uptoBulk d + 1
  | .slice elems spare => uptoBulkAll elems + uptoBulkAll spare + 1
  | .agg parts => uptoBulkAll parts + 1
  | .iface _ d => uptoBulk d + 1
  | .map entries => uptoBulkEntries entries + 1
  | .held _ => 1
def uptoBulkAll {H : Type} : List (DataW H) → Nat
  | [] => 0
  | d :: r => uptoBulk d + uptoBulkAll r
def uptoBulkEntries {H : Type} : List (Lit × DataW H) → Nat
  | [] => 0
  | x :: r => uptoBulkEntry x + uptoBulkEntries r
def uptoBulkEntry {H : Type} : Lit × DataW H → Nat
  | (.string bytes, d) => bytes.length + uptoBulk d + 1
  | (_, d) => uptoBulk d + 1
 end
def uptoSmall : (H : Type) → List (DataW H) → Bool := fun _ ds => decide (uptoBulkAll ds ≤ 1048576)
def OpenSpec.upto (s : _root_.Go.ChangeSpec) : _root_.Go.OpenSpec := { _root_.Go.OpenSpec.ofChange s with cond := some uptoSmall }

/-- 'laws.FnReached', WHERE WHAT IT READS IS OF BULK AT MOST 1048576: true; the input reads as it did. -/
def fnReachedUptoRow : OpenClaim := { program := "ytpdmfnndegcjjaa", sum := "6fea92cdf6f6cc1c94e4e5ae7e3888602ecd060cb36eb9045dca677e13b6c5d6", func := "loop.example/g01165/laws.FnReached", spec := "fnReached", unfollowed := true, recurses := true, plainKeys := false, apart := false, narrowed := true }
def FnReachedUptoSaid : Prop := fnReachedUptoRow.holds Try.pinned (OpenSpec.upto fnReachedSpec)

/-- 'laws.FnExactStackPictures', WHERE WHAT IT READS IS OF BULK AT MOST 1048576: true; the input reads as it did. -/
def fnExactStackPicturesUptoRow : OpenClaim := { program := "ytpdmfnndegcjjaa", sum := "6fea92cdf6f6cc1c94e4e5ae7e3888602ecd060cb36eb9045dca677e13b6c5d6", func := "loop.example/g01165/laws.FnExactStackPictures", spec := "fnExactStackPictures", unfollowed := true, recurses := true, plainKeys := false, apart := false, narrowed := true }
def FnExactStackPicturesUptoSaid : Prop := fnExactStackPicturesUptoRow.holds Try.pinned (OpenSpec.upto fnExactStackPicturesSpec)

/-- 'laws.FnExactFloodMarks', WHERE WHAT IT READS IS OF BULK AT MOST 1048576: true; the input reads as it did. -/
def fnExactFloodMarksUptoRow : OpenClaim := { program := "ytpdmfnndegcjjaa", sum := "6fea92cdf6f6cc1c94e4e5ae7e3888602ecd060cb36eb9045dca677e13b6c5d6", func := "loop.example/g01165/laws.FnExactFloodMarks", spec := "fnExactFloodMarks", unfollowed := true, recurses := true, plainKeys := false, apart := false, narrowed := true }
def FnExactFloodMarksUptoSaid : Prop := fnExactFloodMarksUptoRow.holds Try.pinned (OpenSpec.upto fnExactFloodMarksSpec)

/-- 'laws.FnRuns', WHERE WHAT IT READS IS OF BULK AT MOST 1048576: true; the input reads as it did. -/
def fnRunsUptoRow : OpenClaim := { program := "ytpdmfnndegcjjaa", sum := "6fea92cdf6f6cc1c94e4e5ae7e3888602ecd060cb36eb9045dca677e13b6c5d6", func := "loop.example/g01165/laws.FnRuns", spec := "fnRuns", unfollowed := true, recurses := true, plainKeys := false, apart := false, narrowed := true }
def FnRunsUptoSaid : Prop := fnRunsUptoRow.holds Try.pinned (OpenSpec.upto fnRunsSpec)

/-- 'laws.FnShift', WHERE WHAT IT READS IS OF BULK AT MOST 1048576: true; the input reads as it did. -/
def fnShiftUptoRow : OpenClaim := { program := "ytpdmfnndegcjjaa", sum := "6fea92cdf6f6cc1c94e4e5ae7e3888602ecd060cb36eb9045dca677e13b6c5d6", func := "loop.example/g01165/laws.FnShift", spec := "fnShift", unfollowed := true, recurses := true, plainKeys := false, apart := false, narrowed := true }
def FnShiftUptoSaid : Prop := fnShiftUptoRow.holds Try.pinned (OpenSpec.upto fnShiftSpec)

/-- 'laws.FnTrees', WHERE WHAT IT READS IS OF BULK AT MOST 1048576: true; the input reads as it did. -/
def fnTreesUptoRow : OpenClaim := { program := "ytpdmfnndegcjjaa", sum := "6fea92cdf6f6cc1c94e4e5ae7e3888602ecd060cb36eb9045dca677e13b6c5d6", func := "loop.example/g01165/laws.FnTrees", spec := "fnTrees", unfollowed := true, recurses := true, plainKeys := false, apart := false, narrowed := true }
def FnTreesUptoSaid : Prop := fnTreesUptoRow.holds Try.pinned (OpenSpec.upto fnTreesSpec)

/-- 'laws.FnTreeSets', WHERE WHAT IT READS IS OF BULK AT MOST 1048576: true; the input reads as it did. -/
def fnTreeSetsUptoRow : OpenClaim := { program := "ytpdmfnndegcjjaa", sum := "6fea92cdf6f6cc1c94e4e5ae7e3888602ecd060cb36eb9045dca677e13b6c5d6", func := "loop.example/g01165/laws.FnTreeSets", spec := "fnTreeSets", unfollowed := true, recurses := true, plainKeys := false, apart := false, narrowed := true }
def FnTreeSetsUptoSaid : Prop := fnTreeSetsUptoRow.holds Try.pinned (OpenSpec.upto fnTreeSetsSpec)

/-- 'laws.FnExactPictureOfRuns', WHERE WHAT IT READS IS OF BULK AT MOST 1048576: true; the input reads as it did. -/
def fnExactPictureOfRunsUptoRow : OpenClaim := { program := "ytpdmfnndegcjjaa", sum := "6fea92cdf6f6cc1c94e4e5ae7e3888602ecd060cb36eb9045dca677e13b6c5d6", func := "loop.example/g01165/laws.FnExactPictureOfRuns", spec := "fnExactPictureOfRuns", unfollowed := true, recurses := true, plainKeys := false, apart := false, narrowed := true }
def FnExactPictureOfRunsUptoSaid : Prop := fnExactPictureOfRunsUptoRow.holds Try.pinned (OpenSpec.upto fnExactPictureOfRunsSpec)

/-- 'laws.FnExactBorderAt', WHERE WHAT IT READS IS OF BULK AT MOST 1048576: true; the input reads as it did. -/
def fnExactBorderAtUptoRow : OpenClaim := { program := "ytpdmfnndegcjjaa", sum := "6fea92cdf6f6cc1c94e4e5ae7e3888602ecd060cb36eb9045dca677e13b6c5d6", func := "loop.example/g01165/laws.FnExactBorderAt", spec := "fnExactBorderAt", inPlace := ["internal/bytealg.IndexByteString"], unfollowed := true, recurses := true, plainKeys := false, apart := false, narrowed := true }
def FnExactBorderAtUptoSaid : Prop := fnExactBorderAtUptoRow.holds Try.pinned (OpenSpec.upto fnExactBorderAtSpec)

/-- 'laws.FnExactBordersOf', WHERE WHAT IT READS IS OF BULK AT MOST 1048576: true; the input reads as it did. -/
def fnExactBordersOfUptoRow : OpenClaim := { program := "ytpdmfnndegcjjaa", sum := "6fea92cdf6f6cc1c94e4e5ae7e3888602ecd060cb36eb9045dca677e13b6c5d6", func := "loop.example/g01165/laws.FnExactBordersOf", spec := "fnExactBordersOf", unfollowed := true, recurses := true, plainKeys := false, apart := false, narrowed := true }
def FnExactBordersOfUptoSaid : Prop := fnExactBordersOfUptoRow.holds Try.pinned (OpenSpec.upto fnExactBordersOfSpec)

/-- 'laws.FnExactPictureOfBorders', WHERE WHAT IT READS IS OF BULK AT MOST 1048576: true; the input reads as it did. -/
def fnExactPictureOfBordersUptoRow : OpenClaim := { program := "ytpdmfnndegcjjaa", sum := "6fea92cdf6f6cc1c94e4e5ae7e3888602ecd060cb36eb9045dca677e13b6c5d6", func := "loop.example/g01165/laws.FnExactPictureOfBorders", spec := "fnExactPictureOfBorders", inPlace := ["internal/bytealg.IndexByteString"], unfollowed := true, recurses := true, plainKeys := false, apart := false, narrowed := true }
def FnExactPictureOfBordersUptoSaid : Prop := fnExactPictureOfBordersUptoRow.holds Try.pinned (OpenSpec.upto fnExactPictureOfBordersSpec)

/-- 'laws.FnGrown', WHERE WHAT IT READS IS OF BULK AT MOST 1048576: true; the input reads as it did. -/
def fnGrownUptoRow : OpenClaim := { program := "ytpdmfnndegcjjaa", sum := "6fea92cdf6f6cc1c94e4e5ae7e3888602ecd060cb36eb9045dca677e13b6c5d6", func := "loop.example/g01165/laws.FnGrown", spec := "fnGrown", unfollowed := true, recurses := true, plainKeys := false, apart := false, narrowed := true }
def FnGrownUptoSaid : Prop := fnGrownUptoRow.holds Try.pinned (OpenSpec.upto fnGrownSpec)

end Rows
end Go.Proofs.Ytpdmfnndegcjjaa
