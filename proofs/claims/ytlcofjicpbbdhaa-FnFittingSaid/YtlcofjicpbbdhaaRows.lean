/-
  No cell of these rows narrows 'for every input' (looked for: loops, veiled, ifaces, maps, wideKeys, modest, calm, conditions, laid).
  DERIVED. THE GIVEN ROWS OF THIS SEAT. 12 by the template 'for every input the law returns true; each argument reads behind the call as it read before'; 0 by the template 'total and deterministic' (their statements: YtlcofjicpbbdhaaTotals.lean).
  GIVEN WITH THE SEED: the statements are not yours to turn. If you find one false, say at which input.
  Laid BY PROGRAM, IN A SANDBOX (cutbox-rows.mjs): the forced cells as the released guide's own fill.sh prints them over the translation 07aa41914292df51… (all of the seat's roots in one cut). By AI agents, Wed Nov 11 2026. No macro, syntax, notation, axiom, sorry.
-/
import Derived.Test.YtlcofjicpbbdhaaChecked
import GoSem.Claim
import GoSem.ClaimJoined
import GoSem.ClaimMapViews
import Derived.JoinedTies
import Derived.KernelRfl
namespace Go.Proofs.Ytlcofjicpbbdhaa
/- THE CELL 'sum', in the pinned program and in every row, IS THE sha256 OF THE DUMP (.gsa) THAT YtlcofjicpbbdhaaProg.lean LOADS. Nothing in Lean hashes anything: it is a label: what it is worth is what the hold of that sum in a sandbox is worth. -/
noncomputable def Try.pinned : Pinned := { name := "ytlcofjicpbbdhaa", sum := "07aa41914292df51e798e9b92ccd2366c3c46631040eeb972bb03e9fd10a1add", checked := Try.checked }
namespace Rows
def none {H : Type} : Left H := { results := [], args := [] }

/-- 'laws.FnExactLargestComponent': WHATEVER THE INPUT: true; the input reads as it did. -/
def fnExactLargestComponentSpec : ChangeSpec := { name := "fnExactLargestComponent", fn := fun _ => fun
  | [d1, d2] => { results := [.lit (.bool true)], args := [d1, d2] }
  | _ => none }
def fnExactLargestComponentRow : OpenClaim := { program := "ytlcofjicpbbdhaa", sum := "07aa41914292df51e798e9b92ccd2366c3c46631040eeb972bb03e9fd10a1add", func := "loop.example/g01165/laws.FnExactLargestComponent", spec := "fnExactLargestComponent", unfollowed := true, recurses := true, plainKeys := false, apart := false }
def FnExactLargestComponentSaid : Prop := fnExactLargestComponentRow.holds Try.pinned (OpenSpec.ofChange fnExactLargestComponentSpec)

/-- ITS FALSE NEIGHBOUR: 'it returns false'. Refute it at one input. -/
def fnExactLargestComponentWrong : ChangeSpec := { name := "fnExactLargestComponent", fn := fun _ => fun
  | [d1, d2] => { results := [.lit (.bool false)], args := [d1, d2] }
  | _ => none }
def FnExactLargestComponentWrongFalsely : Prop := fnExactLargestComponentRow.holds Try.pinned (OpenSpec.ofChange fnExactLargestComponentWrong)

/-- 'laws.FnExactIsSimple': WHATEVER THE INPUT: true; the input reads as it did. -/
def fnExactIsSimpleSpec : ChangeSpec := { name := "fnExactIsSimple", fn := fun _ => fun
  | [d1, d2, d3] => { results := [.lit (.bool true)], args := [d1, d2, d3] }
  | _ => none }
def fnExactIsSimpleRow : OpenClaim := { program := "ytlcofjicpbbdhaa", sum := "07aa41914292df51e798e9b92ccd2366c3c46631040eeb972bb03e9fd10a1add", func := "loop.example/g01165/laws.FnExactIsSimple", spec := "fnExactIsSimple", unfollowed := true, recurses := true, plainKeys := false, apart := false }
def FnExactIsSimpleSaid : Prop := fnExactIsSimpleRow.holds Try.pinned (OpenSpec.ofChange fnExactIsSimpleSpec)

/-- ITS FALSE NEIGHBOUR: 'it returns false'. Refute it at one input. -/
def fnExactIsSimpleWrong : ChangeSpec := { name := "fnExactIsSimple", fn := fun _ => fun
  | [d1, d2, d3] => { results := [.lit (.bool false)], args := [d1, d2, d3] }
  | _ => none }
def FnExactIsSimpleWrongFalsely : Prop := fnExactIsSimpleRow.holds Try.pinned (OpenSpec.ofChange fnExactIsSimpleWrong)

/-- 'laws.FnExactThinPicture': WHATEVER THE INPUT: true; the input reads as it did. -/
def fnExactThinPictureSpec : ChangeSpec := { name := "fnExactThinPicture", fn := fun _ => fun
  | [d1, d2] => { results := [.lit (.bool true)], args := [d1, d2] }
  | _ => none }
def fnExactThinPictureRow : OpenClaim := { program := "ytlcofjicpbbdhaa", sum := "07aa41914292df51e798e9b92ccd2366c3c46631040eeb972bb03e9fd10a1add", func := "loop.example/g01165/laws.FnExactThinPicture", spec := "fnExactThinPicture", unfollowed := true, recurses := true, plainKeys := false, apart := false }
def FnExactThinPictureSaid : Prop := fnExactThinPictureRow.holds Try.pinned (OpenSpec.ofChange fnExactThinPictureSpec)

/-- ITS FALSE NEIGHBOUR: 'it returns false'. Refute it at one input. -/
def fnExactThinPictureWrong : ChangeSpec := { name := "fnExactThinPicture", fn := fun _ => fun
  | [d1, d2] => { results := [.lit (.bool false)], args := [d1, d2] }
  | _ => none }
def FnExactThinPictureWrongFalsely : Prop := fnExactThinPictureRow.holds Try.pinned (OpenSpec.ofChange fnExactThinPictureWrong)

/-- 'laws.FnExactShrinkPicture': WHATEVER THE INPUT: true; the input reads as it did. -/
def fnExactShrinkPictureSpec : ChangeSpec := { name := "fnExactShrinkPicture", fn := fun _ => fun
  | [d1, d2] => { results := [.lit (.bool true)], args := [d1, d2] }
  | _ => none }
def fnExactShrinkPictureRow : OpenClaim := { program := "ytlcofjicpbbdhaa", sum := "07aa41914292df51e798e9b92ccd2366c3c46631040eeb972bb03e9fd10a1add", func := "loop.example/g01165/laws.FnExactShrinkPicture", spec := "fnExactShrinkPicture", unfollowed := true, recurses := true, plainKeys := false, apart := false }
def FnExactShrinkPictureSaid : Prop := fnExactShrinkPictureRow.holds Try.pinned (OpenSpec.ofChange fnExactShrinkPictureSpec)

/-- ITS FALSE NEIGHBOUR: 'it returns false'. Refute it at one input. -/
def fnExactShrinkPictureWrong : ChangeSpec := { name := "fnExactShrinkPicture", fn := fun _ => fun
  | [d1, d2] => { results := [.lit (.bool false)], args := [d1, d2] }
  | _ => none }
def FnExactShrinkPictureWrongFalsely : Prop := fnExactShrinkPictureRow.holds Try.pinned (OpenSpec.ofChange fnExactShrinkPictureWrong)

/-- 'laws.FnFitting': WHATEVER THE INPUT: true; the input reads as it did. -/
def fnFittingSpec : ChangeSpec := { name := "fnFitting", fn := fun _ => fun
  | [d1, d2] => { results := [.lit (.bool true)], args := [d1, d2] }
  | _ => none }
def fnFittingRow : OpenClaim := { program := "ytlcofjicpbbdhaa", sum := "07aa41914292df51e798e9b92ccd2366c3c46631040eeb972bb03e9fd10a1add", func := "loop.example/g01165/laws.FnFitting", spec := "fnFitting", unfollowed := true, recurses := true, plainKeys := false, apart := false }
def FnFittingSaid : Prop := fnFittingRow.holds Try.pinned (OpenSpec.ofChange fnFittingSpec)

/-- ITS FALSE NEIGHBOUR: 'it returns false'. Refute it at one input. -/
def fnFittingWrong : ChangeSpec := { name := "fnFitting", fn := fun _ => fun
  | [d1, d2] => { results := [.lit (.bool false)], args := [d1, d2] }
  | _ => none }
def FnFittingWrongFalsely : Prop := fnFittingRow.holds Try.pinned (OpenSpec.ofChange fnFittingWrong)

/-- 'laws.FnReached': WHATEVER THE INPUT: true; the input reads as it did. -/
def fnReachedSpec : ChangeSpec := { name := "fnReached", fn := fun _ => fun
  | [d1, d2] => { results := [.lit (.bool true)], args := [d1, d2] }
  | _ => none }
def fnReachedRow : OpenClaim := { program := "ytlcofjicpbbdhaa", sum := "07aa41914292df51e798e9b92ccd2366c3c46631040eeb972bb03e9fd10a1add", func := "loop.example/g01165/laws.FnReached", spec := "fnReached", unfollowed := true, recurses := true, plainKeys := false, apart := false }
def FnReachedSaid : Prop := fnReachedRow.holds Try.pinned (OpenSpec.ofChange fnReachedSpec)

/-- ITS FALSE NEIGHBOUR: 'it returns false'. Refute it at one input. -/
def fnReachedWrong : ChangeSpec := { name := "fnReached", fn := fun _ => fun
  | [d1, d2] => { results := [.lit (.bool false)], args := [d1, d2] }
  | _ => none }
def FnReachedWrongFalsely : Prop := fnReachedRow.holds Try.pinned (OpenSpec.ofChange fnReachedWrong)

/-- 'laws.FnExactStackPictures': WHATEVER THE INPUT: true; the input reads as it did. -/
def fnExactStackPicturesSpec : ChangeSpec := { name := "fnExactStackPictures", fn := fun _ => fun
  | [d] => { results := [.lit (.bool true)], args := [d] }
  | _ => none }
def fnExactStackPicturesRow : OpenClaim := { program := "ytlcofjicpbbdhaa", sum := "07aa41914292df51e798e9b92ccd2366c3c46631040eeb972bb03e9fd10a1add", func := "loop.example/g01165/laws.FnExactStackPictures", spec := "fnExactStackPictures", unfollowed := true, recurses := true, plainKeys := false, apart := false }
def FnExactStackPicturesSaid : Prop := fnExactStackPicturesRow.holds Try.pinned (OpenSpec.ofChange fnExactStackPicturesSpec)

/-- ITS FALSE NEIGHBOUR: 'it returns false'. Refute it at one input. -/
def fnExactStackPicturesWrong : ChangeSpec := { name := "fnExactStackPictures", fn := fun _ => fun
  | [d] => { results := [.lit (.bool false)], args := [d] }
  | _ => none }
def FnExactStackPicturesWrongFalsely : Prop := fnExactStackPicturesRow.holds Try.pinned (OpenSpec.ofChange fnExactStackPicturesWrong)

/-- 'laws.FnExactCutPeaks': WHATEVER THE INPUT: true; the input reads as it did. -/
def fnExactCutPeaksSpec : ChangeSpec := { name := "fnExactCutPeaks", fn := fun _ => fun
  | [d1, d2] => { results := [.lit (.bool true)], args := [d1, d2] }
  | _ => none }
def fnExactCutPeaksRow : OpenClaim := { program := "ytlcofjicpbbdhaa", sum := "07aa41914292df51e798e9b92ccd2366c3c46631040eeb972bb03e9fd10a1add", func := "loop.example/g01165/laws.FnExactCutPeaks", spec := "fnExactCutPeaks", unfollowed := true, recurses := true, plainKeys := false, apart := false }
def FnExactCutPeaksSaid : Prop := fnExactCutPeaksRow.holds Try.pinned (OpenSpec.ofChange fnExactCutPeaksSpec)

/-- ITS FALSE NEIGHBOUR: 'it returns false'. Refute it at one input. -/
def fnExactCutPeaksWrong : ChangeSpec := { name := "fnExactCutPeaks", fn := fun _ => fun
  | [d1, d2] => { results := [.lit (.bool false)], args := [d1, d2] }
  | _ => none }
def FnExactCutPeaksWrongFalsely : Prop := fnExactCutPeaksRow.holds Try.pinned (OpenSpec.ofChange fnExactCutPeaksWrong)

/-- 'laws.FnExactReconstructGrey': WHATEVER THE INPUT: true; the input reads as it did. -/
def fnExactReconstructGreySpec : ChangeSpec := { name := "fnExactReconstructGrey", fn := fun _ => fun
  | [d1, d2] => { results := [.lit (.bool true)], args := [d1, d2] }
  | _ => none }
def fnExactReconstructGreyRow : OpenClaim := { program := "ytlcofjicpbbdhaa", sum := "07aa41914292df51e798e9b92ccd2366c3c46631040eeb972bb03e9fd10a1add", func := "loop.example/g01165/laws.FnExactReconstructGrey", spec := "fnExactReconstructGrey", unfollowed := true, recurses := true, plainKeys := false, apart := false }
def FnExactReconstructGreySaid : Prop := fnExactReconstructGreyRow.holds Try.pinned (OpenSpec.ofChange fnExactReconstructGreySpec)

/-- ITS FALSE NEIGHBOUR: 'it returns false'. Refute it at one input. -/
def fnExactReconstructGreyWrong : ChangeSpec := { name := "fnExactReconstructGrey", fn := fun _ => fun
  | [d1, d2] => { results := [.lit (.bool false)], args := [d1, d2] }
  | _ => none }
def FnExactReconstructGreyWrongFalsely : Prop := fnExactReconstructGreyRow.holds Try.pinned (OpenSpec.ofChange fnExactReconstructGreyWrong)

/-- 'laws.FnExactFloodMarks': WHATEVER THE INPUT: true; the input reads as it did. -/
def fnExactFloodMarksSpec : ChangeSpec := { name := "fnExactFloodMarks", fn := fun _ => fun
  | [d1, d2] => { results := [.lit (.bool true)], args := [d1, d2] }
  | _ => none }
def fnExactFloodMarksRow : OpenClaim := { program := "ytlcofjicpbbdhaa", sum := "07aa41914292df51e798e9b92ccd2366c3c46631040eeb972bb03e9fd10a1add", func := "loop.example/g01165/laws.FnExactFloodMarks", spec := "fnExactFloodMarks", unfollowed := true, recurses := true, plainKeys := false, apart := false }
def FnExactFloodMarksSaid : Prop := fnExactFloodMarksRow.holds Try.pinned (OpenSpec.ofChange fnExactFloodMarksSpec)

/-- ITS FALSE NEIGHBOUR: 'it returns false'. Refute it at one input. -/
def fnExactFloodMarksWrong : ChangeSpec := { name := "fnExactFloodMarks", fn := fun _ => fun
  | [d1, d2] => { results := [.lit (.bool false)], args := [d1, d2] }
  | _ => none }
def FnExactFloodMarksWrongFalsely : Prop := fnExactFloodMarksRow.holds Try.pinned (OpenSpec.ofChange fnExactFloodMarksWrong)

/-- 'laws.FnExactTurnTree': WHATEVER THE INPUT: true; the input reads as it did. -/
def fnExactTurnTreeSpec : ChangeSpec := { name := "fnExactTurnTree", fn := fun _ => fun
  | [d1, d2] => { results := [.lit (.bool true)], args := [d1, d2] }
  | _ => none }
def fnExactTurnTreeRow : OpenClaim := { program := "ytlcofjicpbbdhaa", sum := "07aa41914292df51e798e9b92ccd2366c3c46631040eeb972bb03e9fd10a1add", func := "loop.example/g01165/laws.FnExactTurnTree", spec := "fnExactTurnTree", unfollowed := true, recurses := true, plainKeys := false, apart := false }
def FnExactTurnTreeSaid : Prop := fnExactTurnTreeRow.holds Try.pinned (OpenSpec.ofChange fnExactTurnTreeSpec)

/-- ITS FALSE NEIGHBOUR: 'it returns false'. Refute it at one input. -/
def fnExactTurnTreeWrong : ChangeSpec := { name := "fnExactTurnTree", fn := fun _ => fun
  | [d1, d2] => { results := [.lit (.bool false)], args := [d1, d2] }
  | _ => none }
def FnExactTurnTreeWrongFalsely : Prop := fnExactTurnTreeRow.holds Try.pinned (OpenSpec.ofChange fnExactTurnTreeWrong)

/-- 'laws.FnExactCombineTrees': WHATEVER THE INPUT: true; the input reads as it did. -/
def fnExactCombineTreesSpec : ChangeSpec := { name := "fnExactCombineTrees", fn := fun _ => fun
  | [d1, d2, d3] => { results := [.lit (.bool true)], args := [d1, d2, d3] }
  | _ => none }
def fnExactCombineTreesRow : OpenClaim := { program := "ytlcofjicpbbdhaa", sum := "07aa41914292df51e798e9b92ccd2366c3c46631040eeb972bb03e9fd10a1add", func := "loop.example/g01165/laws.FnExactCombineTrees", spec := "fnExactCombineTrees", unfollowed := true, recurses := true, plainKeys := false, apart := false }
def FnExactCombineTreesSaid : Prop := fnExactCombineTreesRow.holds Try.pinned (OpenSpec.ofChange fnExactCombineTreesSpec)

/-- ITS FALSE NEIGHBOUR: 'it returns false'. Refute it at one input. -/
def fnExactCombineTreesWrong : ChangeSpec := { name := "fnExactCombineTrees", fn := fun _ => fun
  | [d1, d2, d3] => { results := [.lit (.bool false)], args := [d1, d2, d3] }
  | _ => none }
def FnExactCombineTreesWrongFalsely : Prop := fnExactCombineTreesRow.holds Try.pinned (OpenSpec.ofChange fnExactCombineTreesWrong)

/- THE SECOND FORM. 'bulk': how many values and letters a reading holds, each counted each time it is reached (what is shared counts as often as it is met; a slice's spare places count too). A statement '..UptoSaid' is the law's where the arguments, and the package variables that the reading takes, are together of bulk at most 1048576: NARROWER than '..Said'. Prove '..Said' where nothing that the law and all that it calls make is longer than what came in: it says more and counts as full. Else prove '..UptoSaid'. A law counts once. -/
mutual
def uptoBulk {H : Type} : DataW H → Nat
  | .lit (.string bytes) => bytes.length + 1
  | .lit _ => 1
  | .nil => 1
  | .ptr d => uptoBulk d + 1
  | .slice elems spare => uptoBulkAll elems + uptoBulkAll spare + 1
  | .agg parts => uptoBulkAll parts + 1
  | .iface _ d => uptoBulk d + 1
  | .map entries => uptoBulkEntries entries + 1
  | .held _ => 1
def uptoBulkAll {H : Type} : List (DataW H) → Nat
  | [] => 0
  | d :: r => uptoBulk d + uptoBulkAll r
def uptoBulkEntries {H : Type} : List (Lit × DataW H) → Nat
  | [] => 0
  | x :: r => uptoBulkEntry x + uptoBulkEntries r
def uptoBulkEntry {H : Type} : Lit × DataW H → Nat
  | (.string bytes, d) => bytes.length + uptoBulk d + 1
  | (_, d) => uptoBulk d + 1
 end
def uptoSmall : (H : Type) → List (DataW H) → Bool := fun _ ds => decide (uptoBulkAll ds ≤ 1048576)
def OpenSpec.upto (s : _root_.Go.ChangeSpec) : _root_.Go.OpenSpec := { _root_.Go.OpenSpec.ofChange s with cond := some uptoSmall }

/-- 'laws.FnExactLargestComponent', WHERE WHAT IT READS IS OF BULK AT MOST 1048576: true; the input reads as it did. -/
def fnExactLargestComponentUptoRow : OpenClaim := { program := "ytlcofjicpbbdhaa", sum := "07aa41914292df51e798e9b92ccd2366c3c46631040eeb972bb03e9fd10a1add", func := "loop.example/g01165/laws.FnExactLargestComponent", spec := "fnExactLargestComponent", unfollowed := true, recurses := true, plainKeys := false, apart := false, narrowed := true }
def FnExactLargestComponentUptoSaid : Prop := fnExactLargestComponentUptoRow.holds Try.pinned (OpenSpec.upto fnExactLargestComponentSpec)

/-- 'laws.FnExactIsSimple', WHERE WHAT IT READS IS OF BULK AT MOST 1048576: true; the input reads as it did. -/
def fnExactIsSimpleUptoRow : OpenClaim := { program := "ytlcofjicpbbdhaa", sum := "07aa41914292df51e798e9b92ccd2366c3c46631040eeb972bb03e9fd10a1add", func := "loop.example/g01165/laws.FnExactIsSimple", spec := "fnExactIsSimple", unfollowed := true, recurses := true, plainKeys := false, apart := false, narrowed := true }
def FnExactIsSimpleUptoSaid : Prop := fnExactIsSimpleUptoRow.holds Try.pinned (OpenSpec.upto fnExactIsSimpleSpec)

/-- 'laws.FnExactThinPicture', WHERE WHAT IT READS IS OF BULK AT MOST 1048576: true; the input reads as it did. -/
def fnExactThinPictureUptoRow : OpenClaim := { program := "ytlcofjicpbbdhaa", sum := "07aa41914292df51e798e9b92ccd2366c3c46631040eeb972bb03e9fd10a1add", func := "loop.example/g01165/laws.FnExactThinPicture", spec := "fnExactThinPicture", unfollowed := true, recurses := true, plainKeys := false, apart := false, narrowed := true }
def FnExactThinPictureUptoSaid : Prop := fnExactThinPictureUptoRow.holds Try.pinned (OpenSpec.upto fnExactThinPictureSpec)

/-- 'laws.FnExactShrinkPicture', WHERE WHAT IT READS IS OF BULK AT MOST 1048576: true; the input reads as it did. -/
def fnExactShrinkPictureUptoRow : OpenClaim := { program := "ytlcofjicpbbdhaa", sum := "07aa41914292df51e798e9b92ccd2366c3c46631040eeb972bb03e9fd10a1add", func := "loop.example/g01165/laws.FnExactShrinkPicture", spec := "fnExactShrinkPicture", unfollowed := true, recurses := true, plainKeys := false, apart := false, narrowed := true }
def FnExactShrinkPictureUptoSaid : Prop := fnExactShrinkPictureUptoRow.holds Try.pinned (OpenSpec.upto fnExactShrinkPictureSpec)

/-- 'laws.FnFitting', WHERE WHAT IT READS IS OF BULK AT MOST 1048576: true; the input reads as it did. -/
def fnFittingUptoRow : OpenClaim := { program := "ytlcofjicpbbdhaa", sum := "07aa41914292df51e798e9b92ccd2366c3c46631040eeb972bb03e9fd10a1add", func := "loop.example/g01165/laws.FnFitting", spec := "fnFitting", unfollowed := true, recurses := true, plainKeys := false, apart := false, narrowed := true }
def FnFittingUptoSaid : Prop := fnFittingUptoRow.holds Try.pinned (OpenSpec.upto fnFittingSpec)

/-- 'laws.FnReached', WHERE WHAT IT READS IS OF BULK AT MOST 1048576: true; the input reads as it did. -/
def fnReachedUptoRow : OpenClaim := { program := "ytlcofjicpbbdhaa", sum := "07aa41914292df51e798e9b92ccd2366c3c46631040eeb972bb03e9fd10a1add", func := "loop.example/g01165/laws.FnReached", spec := "fnReached", unfollowed := true, recurses := true, plainKeys := false, apart := false, narrowed := true }
def FnReachedUptoSaid : Prop := fnReachedUptoRow.holds Try.pinned (OpenSpec.upto fnReachedSpec)

/-- 'laws.FnExactStackPictures', WHERE WHAT IT READS IS OF BULK AT MOST 1048576: true; the input reads as it did. -/
def fnExactStackPicturesUptoRow : OpenClaim := { program := "ytlcofjicpbbdhaa", sum := "07aa41914292df51e798e9b92ccd2366c3c46631040eeb972bb03e9fd10a1add", func := "loop.example/g01165/laws.FnExactStackPictures", spec := "fnExactStackPictures", unfollowed := true, recurses := true, plainKeys := false, apart := false, narrowed := true }
def FnExactStackPicturesUptoSaid : Prop := fnExactStackPicturesUptoRow.holds Try.pinned (OpenSpec.upto fnExactStackPicturesSpec)

/-- 'laws.FnExactCutPeaks', WHERE WHAT IT READS IS OF BULK AT MOST 1048576: true; the input reads as it did. -/
def fnExactCutPeaksUptoRow : OpenClaim := { program := "ytlcofjicpbbdhaa", sum := "07aa41914292df51e798e9b92ccd2366c3c46631040eeb972bb03e9fd10a1add", func := "loop.example/g01165/laws.FnExactCutPeaks", spec := "fnExactCutPeaks", unfollowed := true, recurses := true, plainKeys := false, apart := false, narrowed := true }
def FnExactCutPeaksUptoSaid : Prop := fnExactCutPeaksUptoRow.holds Try.pinned (OpenSpec.upto fnExactCutPeaksSpec)

/-- 'laws.FnExactReconstructGrey', WHERE WHAT IT READS IS OF BULK AT MOST 1048576: true; the input reads as it did. -/
def fnExactReconstructGreyUptoRow : OpenClaim := { program := "ytlcofjicpbbdhaa", sum := "07aa41914292df51e798e9b92ccd2366c3c46631040eeb972bb03e9fd10a1add", func := "loop.example/g01165/laws.FnExactReconstructGrey", spec := "fnExactReconstructGrey", unfollowed := true, recurses := true, plainKeys := false, apart := false, narrowed := true }
def FnExactReconstructGreyUptoSaid : Prop := fnExactReconstructGreyUptoRow.holds Try.pinned (OpenSpec.upto fnExactReconstructGreySpec)

/-- 'laws.FnExactFloodMarks', WHERE WHAT IT READS IS OF BULK AT MOST 1048576: true; the input reads as it did. -/
def fnExactFloodMarksUptoRow : OpenClaim := { program := "ytlcofjicpbbdhaa", sum := "07aa41914292df51e798e9b92ccd2366c3c46631040eeb972bb03e9fd10a1add", func := "loop.example/g01165/laws.FnExactFloodMarks", spec := "fnExactFloodMarks", unfollowed := true, recurses := true, plainKeys := false, apart := false, narrowed := true }
def FnExactFloodMarksUptoSaid : Prop := fnExactFloodMarksUptoRow.holds Try.pinned (OpenSpec.upto fnExactFloodMarksSpec)

/-- 'laws.FnExactTurnTree', WHERE WHAT IT READS IS OF BULK AT MOST 1048576: true; the input reads as it did. -/
def fnExactTurnTreeUptoRow : OpenClaim := { program := "ytlcofjicpbbdhaa", sum := "07aa41914292df51e798e9b92ccd2366c3c46631040eeb972bb03e9fd10a1add", func := "loop.example/g01165/laws.FnExactTurnTree", spec := "fnExactTurnTree", unfollowed := true, recurses := true, plainKeys := false, apart := false, narrowed := true }
def FnExactTurnTreeUptoSaid : Prop := fnExactTurnTreeUptoRow.holds Try.pinned (OpenSpec.upto fnExactTurnTreeSpec)

/-- 'laws.FnExactCombineTrees', WHERE WHAT IT READS IS OF BULK AT MOST 1048576: true; the input reads as it did. -/
def fnExactCombineTreesUptoRow : OpenClaim := { program := "ytlcofjicpbbdhaa", sum := "07aa41914292df51e798e9b92ccd2366c3c46631040eeb972bb03e9fd10a1add", func := "loop.example/g01165/laws.FnExactCombineTrees", spec := "fnExactCombineTrees", unfollowed := true, recurses := true, plainKeys := false, apart := false, narrowed := true }
def FnExactCombineTreesUptoSaid : Prop := fnExactCombineTreesUptoRow.holds Try.pinned (OpenSpec.upto fnExactCombineTreesSpec)

end Rows
end Go.Proofs.Ytlcofjicpbbdhaa
