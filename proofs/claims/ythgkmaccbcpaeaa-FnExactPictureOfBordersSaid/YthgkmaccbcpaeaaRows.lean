/-
  No cell of these rows narrows 'for every input' (looked for: loops, veiled, ifaces, maps, wideKeys, modest, calm, conditions, laid).
  DERIVED. THE GIVEN ROWS OF THIS SEAT. 7 by the template 'for every input the law returns true; each argument reads behind the call as it read before'; 0 by the template 'total and deterministic' (their statements: YthgkmaccbcpaeaaTotals.lean).
  GIVEN WITH THE SEED: the statements are not yours to turn. If you find one false, say at which input.
  Laid BY PROGRAM, IN A SANDBOX (cutbox-rows.mjs): the forced cells as the released guide's own fill.sh prints them over the translation b03829644bc51241… (all of the seat's roots in one cut). By AI agents, Wed Nov 11 2026. No macro, syntax, notation, axiom, sorry.
-/
import Derived.Test.YthgkmaccbcpaeaaChecked
import GoSem.Claim
import GoSem.ClaimJoined
import GoSem.ClaimMapViews
import Derived.JoinedTies
import Derived.KernelRfl
namespace Go.Proofs.Ythgkmaccbcpaeaa
/- THE CELL 'sum', in the pinned program and in every row, IS THE sha256 OF THE DUMP (.gsa) THAT YthgkmaccbcpaeaaProg.lean LOADS. Nothing in Lean hashes anything: it is a label: what it is worth is what the hold of that sum in a sandbox is worth. -/
noncomputable def Try.pinned : Pinned := { name := "ythgkmaccbcpaeaa", sum := "b03829644bc51241b413da91c014db78c1efbc66823d3968786eecb25cd48623", checked := Try.checked }
namespace Rows
def none {H : Type} : Left H := { results := [], args := [] }

/-- 'laws.FnTrees': WHATEVER THE INPUT: true; the input reads as it did. -/
def fnTreesSpec : ChangeSpec := { name := "fnTrees", fn := fun _ => fun
  | [d1, d2] => { results := [.lit (.bool true)], args := [d1, d2] }
  | _ => none }
def fnTreesRow : OpenClaim := { program := "ythgkmaccbcpaeaa", sum := "b03829644bc51241b413da91c014db78c1efbc66823d3968786eecb25cd48623", func := "loop.example/g01165/laws.FnTrees", spec := "fnTrees", unfollowed := true, recurses := true, plainKeys := false, apart := false }
def FnTreesSaid : Prop := fnTreesRow.holds Try.pinned (OpenSpec.ofChange fnTreesSpec)

/-- ITS FALSE NEIGHBOUR: 'it returns false'. Refute it at one input. -/
def fnTreesWrong : ChangeSpec := { name := "fnTrees", fn := fun _ => fun
  | [d1, d2] => { results := [.lit (.bool false)], args := [d1, d2] }
  | _ => none }
def FnTreesWrongFalsely : Prop := fnTreesRow.holds Try.pinned (OpenSpec.ofChange fnTreesWrong)

/-- 'laws.FnDecomposed': WHATEVER THE INPUT: true; the input reads as it did. -/
def fnDecomposedSpec : ChangeSpec := { name := "fnDecomposed", fn := fun _ => fun
  | [d1, d2] => { results := [.lit (.bool true)], args := [d1, d2] }
  | _ => none }
def fnDecomposedRow : OpenClaim := { program := "ythgkmaccbcpaeaa", sum := "b03829644bc51241b413da91c014db78c1efbc66823d3968786eecb25cd48623", func := "loop.example/g01165/laws.FnDecomposed", spec := "fnDecomposed", unfollowed := true, recurses := true, plainKeys := false, apart := false }
def FnDecomposedSaid : Prop := fnDecomposedRow.holds Try.pinned (OpenSpec.ofChange fnDecomposedSpec)

/-- ITS FALSE NEIGHBOUR: 'it returns false'. Refute it at one input. -/
def fnDecomposedWrong : ChangeSpec := { name := "fnDecomposed", fn := fun _ => fun
  | [d1, d2] => { results := [.lit (.bool false)], args := [d1, d2] }
  | _ => none }
def FnDecomposedWrongFalsely : Prop := fnDecomposedRow.holds Try.pinned (OpenSpec.ofChange fnDecomposedWrong)

/-- 'laws.FnBorders': WHATEVER THE INPUT: true; the input reads as it did. -/
def fnBordersSpec : ChangeSpec := { name := "fnBorders", fn := fun _ => fun
  | [d1, d2] => { results := [.lit (.bool true)], args := [d1, d2] }
  | _ => none }
def fnBordersRow : OpenClaim := { program := "ythgkmaccbcpaeaa", sum := "b03829644bc51241b413da91c014db78c1efbc66823d3968786eecb25cd48623", func := "loop.example/g01165/laws.FnBorders", spec := "fnBorders", inPlace := ["internal/bytealg.IndexByteString"], unfollowed := true, recurses := true, plainKeys := false, apart := false }
def FnBordersSaid : Prop := fnBordersRow.holds Try.pinned (OpenSpec.ofChange fnBordersSpec)

/-- ITS FALSE NEIGHBOUR: 'it returns false'. Refute it at one input. -/
def fnBordersWrong : ChangeSpec := { name := "fnBorders", fn := fun _ => fun
  | [d1, d2] => { results := [.lit (.bool false)], args := [d1, d2] }
  | _ => none }
def FnBordersWrongFalsely : Prop := fnBordersRow.holds Try.pinned (OpenSpec.ofChange fnBordersWrong)

/-- 'laws.FnEuler': WHATEVER THE INPUT: true; the input reads as it did. -/
def fnEulerSpec : ChangeSpec := { name := "fnEuler", fn := fun _ => fun
  | [d1, d2] => { results := [.lit (.bool true)], args := [d1, d2] }
  | _ => none }
def fnEulerRow : OpenClaim := { program := "ythgkmaccbcpaeaa", sum := "b03829644bc51241b413da91c014db78c1efbc66823d3968786eecb25cd48623", func := "loop.example/g01165/laws.FnEuler", spec := "fnEuler", unfollowed := true, recurses := true, plainKeys := false, apart := false }
def FnEulerSaid : Prop := fnEulerRow.holds Try.pinned (OpenSpec.ofChange fnEulerSpec)

/-- ITS FALSE NEIGHBOUR: 'it returns false'. Refute it at one input. -/
def fnEulerWrong : ChangeSpec := { name := "fnEuler", fn := fun _ => fun
  | [d1, d2] => { results := [.lit (.bool false)], args := [d1, d2] }
  | _ => none }
def FnEulerWrongFalsely : Prop := fnEulerRow.holds Try.pinned (OpenSpec.ofChange fnEulerWrong)

/-- 'laws.FnExactPictureOfBorders': WHATEVER THE INPUT: true; the input reads as it did. -/
def fnExactPictureOfBordersSpec : ChangeSpec := { name := "fnExactPictureOfBorders", fn := fun _ => fun
  | [d1, d2, d3] => { results := [.lit (.bool true)], args := [d1, d2, d3] }
  | _ => none }
def fnExactPictureOfBordersRow : OpenClaim := { program := "ythgkmaccbcpaeaa", sum := "b03829644bc51241b413da91c014db78c1efbc66823d3968786eecb25cd48623", func := "loop.example/g01165/laws.FnExactPictureOfBorders", spec := "fnExactPictureOfBorders", inPlace := ["internal/bytealg.IndexByteString"], unfollowed := true, recurses := true, plainKeys := false, apart := false }
def FnExactPictureOfBordersSaid : Prop := fnExactPictureOfBordersRow.holds Try.pinned (OpenSpec.ofChange fnExactPictureOfBordersSpec)

/-- ITS FALSE NEIGHBOUR: 'it returns false'. Refute it at one input. -/
def fnExactPictureOfBordersWrong : ChangeSpec := { name := "fnExactPictureOfBorders", fn := fun _ => fun
  | [d1, d2, d3] => { results := [.lit (.bool false)], args := [d1, d2, d3] }
  | _ => none }
def FnExactPictureOfBordersWrongFalsely : Prop := fnExactPictureOfBordersRow.holds Try.pinned (OpenSpec.ofChange fnExactPictureOfBordersWrong)

/-- 'laws.FnPeaks': WHATEVER THE INPUT: true; the input reads as it did. -/
def fnPeaksSpec : ChangeSpec := { name := "fnPeaks", fn := fun _ => fun
  | [d1, d2] => { results := [.lit (.bool true)], args := [d1, d2] }
  | _ => none }
def fnPeaksRow : OpenClaim := { program := "ythgkmaccbcpaeaa", sum := "b03829644bc51241b413da91c014db78c1efbc66823d3968786eecb25cd48623", func := "loop.example/g01165/laws.FnPeaks", spec := "fnPeaks", unfollowed := true, recurses := true, plainKeys := false, apart := false }
def FnPeaksSaid : Prop := fnPeaksRow.holds Try.pinned (OpenSpec.ofChange fnPeaksSpec)

/-- ITS FALSE NEIGHBOUR: 'it returns false'. Refute it at one input. -/
def fnPeaksWrong : ChangeSpec := { name := "fnPeaks", fn := fun _ => fun
  | [d1, d2] => { results := [.lit (.bool false)], args := [d1, d2] }
  | _ => none }
def FnPeaksWrongFalsely : Prop := fnPeaksRow.holds Try.pinned (OpenSpec.ofChange fnPeaksWrong)

/-- 'laws.FnCorners': WHATEVER THE INPUT: true; the input reads as it did. -/
def fnCornersSpec : ChangeSpec := { name := "fnCorners", fn := fun _ => fun
  | [d1, d2] => { results := [.lit (.bool true)], args := [d1, d2] }
  | _ => none }
def fnCornersRow : OpenClaim := { program := "ythgkmaccbcpaeaa", sum := "b03829644bc51241b413da91c014db78c1efbc66823d3968786eecb25cd48623", func := "loop.example/g01165/laws.FnCorners", spec := "fnCorners", inPlace := ["internal/bytealg.IndexByteString", "internal/abi.NoEscape", "internal/bytealg.MakeNoZero"], unfollowed := true, recurses := true, plainKeys := false, apart := false }
def FnCornersSaid : Prop := fnCornersRow.holds Try.pinned (OpenSpec.ofChange fnCornersSpec)

/-- ITS FALSE NEIGHBOUR: 'it returns false'. Refute it at one input. -/
def fnCornersWrong : ChangeSpec := { name := "fnCorners", fn := fun _ => fun
  | [d1, d2] => { results := [.lit (.bool false)], args := [d1, d2] }
  | _ => none }
def FnCornersWrongFalsely : Prop := fnCornersRow.holds Try.pinned (OpenSpec.ofChange fnCornersWrong)

/- THE SECOND FORM. 'bulk': how many values and letters a reading holds, each counted each time it is reached (what is shared counts as often as it is met; a slice's spare places count too). A statement '..UptoSaid' is the law's where the arguments, and the package variables that the reading takes, are together of bulk at most 1048576: NARROWER than '..Said'. Prove '..Said' where nothing that the law and all that it calls make is longer than what came in: it says more and counts as full. Else prove '..UptoSaid'. A law counts once. -/
mutual
def uptoBulk {H : Type} : DataW H → Nat
  | .lit (.string bytes) => bytes.length + 1
  | .lit _ => 1
  | .nil => 1
  | .ptr d => uptoBulk d + 1
  | .slice elems spare => uptoBulkAll elems + uptoBulkAll spare + 1
  | .agg parts => uptoBulkAll parts + 1
  | .iface _ d => uptoBulk d + 1
  | .map entries => uptoBulkEntries entries + 1
  | .held _ => 1
def uptoBulkAll {H : Type} : List (DataW H) → Nat
  | [] => 0
  | d :: r => uptoBulk d + uptoBulkAll r
def uptoBulkEntries {H : Type} : List (Lit × DataW H) → Nat
  | [] => 0
  | x :: r => uptoBulkEntry x + uptoBulkEntries r
def uptoBulkEntry {H : Type} : Lit × DataW H → Nat
  | (.string bytes, d) => bytes.length + uptoBulk d + 1
  | (_, d) => uptoBulk d + 1
 end
def uptoSmall : (H : Type) → List (DataW H) → Bool := fun _ ds => decide (uptoBulkAll ds ≤ 1048576)
def OpenSpec.upto (s : _root_.Go.ChangeSpec) : _root_.Go.OpenSpec := { _root_.Go.OpenSpec.ofChange s with cond := some uptoSmall }

/-- 'laws.FnTrees', WHERE WHAT IT READS IS OF BULK AT MOST 1048576: true; the input reads as it did. -/
def fnTreesUptoRow : OpenClaim := { program := "ythgkmaccbcpaeaa", sum := "b03829644bc51241b413da91c014db78c1efbc66823d3968786eecb25cd48623", func := "loop.example/g01165/laws.FnTrees", spec := "fnTrees", unfollowed := true, recurses := true, plainKeys := false, apart := false, narrowed := true }
def FnTreesUptoSaid : Prop := fnTreesUptoRow.holds Try.pinned (OpenSpec.upto fnTreesSpec)

/-- 'laws.FnDecomposed', WHERE WHAT IT READS IS OF BULK AT MOST 1048576: true; the input reads as it did. -/
def fnDecomposedUptoRow : OpenClaim := { program := "ythgkmaccbcpaeaa", sum := "b03829644bc51241b413da91c014db78c1efbc66823d3968786eecb25cd48623", func := "loop.example/g01165/laws.FnDecomposed", spec := "fnDecomposed", unfollowed := true, recurses := true, plainKeys := false, apart := false, narrowed := true }
def FnDecomposedUptoSaid : Prop := fnDecomposedUptoRow.holds Try.pinned (OpenSpec.upto fnDecomposedSpec)

/-- 'laws.FnBorders', WHERE WHAT IT READS IS OF BULK AT MOST 1048576: true; the input reads as it did. -/
def fnBordersUptoRow : OpenClaim := { program := "ythgkmaccbcpaeaa", sum := "b03829644bc51241b413da91c014db78c1efbc66823d3968786eecb25cd48623", func := "loop.example/g01165/laws.FnBorders", spec := "fnBorders", inPlace := ["internal/bytealg.IndexByteString"], unfollowed := true, recurses := true, plainKeys := false, apart := false, narrowed := true }
def FnBordersUptoSaid : Prop := fnBordersUptoRow.holds Try.pinned (OpenSpec.upto fnBordersSpec)

/-- 'laws.FnEuler', WHERE WHAT IT READS IS OF BULK AT MOST 1048576: true; the input reads as it did. -/
def fnEulerUptoRow : OpenClaim := { program := "ythgkmaccbcpaeaa", sum := "b03829644bc51241b413da91c014db78c1efbc66823d3968786eecb25cd48623", func := "loop.example/g01165/laws.FnEuler", spec := "fnEuler", unfollowed := true, recurses := true, plainKeys := false, apart := false, narrowed := true }
def FnEulerUptoSaid : Prop := fnEulerUptoRow.holds Try.pinned (OpenSpec.upto fnEulerSpec)

/-- 'laws.FnExactPictureOfBorders', WHERE WHAT IT READS IS OF BULK AT MOST 1048576: true; the input reads as it did. -/
def fnExactPictureOfBordersUptoRow : OpenClaim := { program := "ythgkmaccbcpaeaa", sum := "b03829644bc51241b413da91c014db78c1efbc66823d3968786eecb25cd48623", func := "loop.example/g01165/laws.FnExactPictureOfBorders", spec := "fnExactPictureOfBorders", inPlace := ["internal/bytealg.IndexByteString"], unfollowed := true, recurses := true, plainKeys := false, apart := false, narrowed := true }
def FnExactPictureOfBordersUptoSaid : Prop := fnExactPictureOfBordersUptoRow.holds Try.pinned (OpenSpec.upto fnExactPictureOfBordersSpec)

/-- 'laws.FnPeaks', WHERE WHAT IT READS IS OF BULK AT MOST 1048576: true; the input reads as it did. -/
def fnPeaksUptoRow : OpenClaim := { program := "ythgkmaccbcpaeaa", sum := "b03829644bc51241b413da91c014db78c1efbc66823d3968786eecb25cd48623", func := "loop.example/g01165/laws.FnPeaks", spec := "fnPeaks", unfollowed := true, recurses := true, plainKeys := false, apart := false, narrowed := true }
def FnPeaksUptoSaid : Prop := fnPeaksUptoRow.holds Try.pinned (OpenSpec.upto fnPeaksSpec)

/-- 'laws.FnCorners', WHERE WHAT IT READS IS OF BULK AT MOST 1048576: true; the input reads as it did. -/
def fnCornersUptoRow : OpenClaim := { program := "ythgkmaccbcpaeaa", sum := "b03829644bc51241b413da91c014db78c1efbc66823d3968786eecb25cd48623", func := "loop.example/g01165/laws.FnCorners", spec := "fnCorners", inPlace := ["internal/bytealg.IndexByteString", "internal/abi.NoEscape", "internal/bytealg.MakeNoZero"], unfollowed := true, recurses := true, plainKeys := false, apart := false, narrowed := true }
def FnCornersUptoSaid : Prop := fnCornersUptoRow.holds Try.pinned (OpenSpec.upto fnCornersSpec)

end Rows
end Go.Proofs.Ythgkmaccbcpaeaa
