/-
  No cell of these rows narrows 'for every input' (looked for: loops, veiled, ifaces, maps, wideKeys, modest, calm, conditions, laid).
  DERIVED. THE GIVEN ROWS OF THIS SEAT. 7 by the template 'for every input the law returns true; each argument reads behind the call as it read before'; 0 by the template 'total and deterministic' (their statements: YtfjjplllcilnaaaTotals.lean).
  GIVEN WITH THE SEED: the statements are not yours to turn. If you find one false, say at which input.
  Laid BY PROGRAM, IN A SANDBOX (cutbox-rows.mjs): the forced cells as the released guide's own fill.sh prints them over the translation 8d1bcf4ca2733471… (all of the seat's roots in one cut). By AI agents, Wed Nov 11 2026. No macro, syntax, notation, axiom, sorry.
-/
import Derived.Test.YtfjjplllcilnaaaChecked
import GoSem.Claim
import GoSem.ClaimJoined
import GoSem.ClaimMapViews
import Derived.JoinedTies
import Derived.KernelRfl
namespace Go.Proofs.Ytfjjplllcilnaaa
/- THE CELL 'sum', in the pinned program and in every row, IS THE sha256 OF THE DUMP (.gsa) THAT YtfjjplllcilnaaaProg.lean LOADS. Nothing in Lean hashes anything: it is a label: what it is worth is what the hold of that sum in a sandbox is worth. -/
noncomputable def Try.pinned : Pinned := { name := "ytfjjplllcilnaaa", sum := "8d1bcf4ca27334714285bb29a624cf340bae6bf6311a84296edefad541438114", checked := Try.checked }
namespace Rows
def none {H : Type} : Left H := { results := [], args := [] }

/-- 'laws.FnExactIsCurveBox': WHATEVER THE INPUT: true; the input reads as it did. -/
def fnExactIsCurveBoxSpec : ChangeSpec := { name := "fnExactIsCurveBox", fn := fun _ => fun
  | [d1, d2, d3] => { results := [.lit (.bool true)], args := [d1, d2, d3] }
  | _ => none }
def fnExactIsCurveBoxRow : OpenClaim := { program := "ytfjjplllcilnaaa", sum := "8d1bcf4ca27334714285bb29a624cf340bae6bf6311a84296edefad541438114", func := "loop.example/g01165/laws.FnExactIsCurveBox", spec := "fnExactIsCurveBox", apart := false }
def FnExactIsCurveBoxSaid : Prop := fnExactIsCurveBoxRow.holds Try.pinned (OpenSpec.ofChange fnExactIsCurveBoxSpec)

/-- ITS FALSE NEIGHBOUR: 'it returns false'. Refute it at one input. -/
def fnExactIsCurveBoxWrong : ChangeSpec := { name := "fnExactIsCurveBox", fn := fun _ => fun
  | [d1, d2, d3] => { results := [.lit (.bool false)], args := [d1, d2, d3] }
  | _ => none }
def FnExactIsCurveBoxWrongFalsely : Prop := fnExactIsCurveBoxRow.holds Try.pinned (OpenSpec.ofChange fnExactIsCurveBoxWrong)

/-- 'laws.FnExactIndexOf': WHATEVER THE INPUT: true; the input reads as it did. -/
def fnExactIndexOfSpec : ChangeSpec := { name := "fnExactIndexOf", fn := fun _ => fun
  | [d1, d2, d3, d4] => { results := [.lit (.bool true)], args := [d1, d2, d3, d4] }
  | _ => none }
def fnExactIndexOfRow : OpenClaim := { program := "ytfjjplllcilnaaa", sum := "8d1bcf4ca27334714285bb29a624cf340bae6bf6311a84296edefad541438114", func := "loop.example/g01165/laws.FnExactIndexOf", spec := "fnExactIndexOf", recurses := true, apart := false }
def FnExactIndexOfSaid : Prop := fnExactIndexOfRow.holds Try.pinned (OpenSpec.ofChange fnExactIndexOfSpec)

/-- ITS FALSE NEIGHBOUR: 'it returns false'. Refute it at one input. -/
def fnExactIndexOfWrong : ChangeSpec := { name := "fnExactIndexOf", fn := fun _ => fun
  | [d1, d2, d3, d4] => { results := [.lit (.bool false)], args := [d1, d2, d3, d4] }
  | _ => none }
def FnExactIndexOfWrongFalsely : Prop := fnExactIndexOfRow.holds Try.pinned (OpenSpec.ofChange fnExactIndexOfWrong)

/-- 'laws.FnRuns': WHATEVER THE INPUT: true; the input reads as it did. -/
def fnRunsSpec : ChangeSpec := { name := "fnRuns", fn := fun _ => fun
  | [d1, d2] => { results := [.lit (.bool true)], args := [d1, d2] }
  | _ => none }
def fnRunsRow : OpenClaim := { program := "ytfjjplllcilnaaa", sum := "8d1bcf4ca27334714285bb29a624cf340bae6bf6311a84296edefad541438114", func := "loop.example/g01165/laws.FnRuns", spec := "fnRuns", unfollowed := true, recurses := true, apart := false }
def FnRunsSaid : Prop := fnRunsRow.holds Try.pinned (OpenSpec.ofChange fnRunsSpec)

/-- ITS FALSE NEIGHBOUR: 'it returns false'. Refute it at one input. -/
def fnRunsWrong : ChangeSpec := { name := "fnRuns", fn := fun _ => fun
  | [d1, d2] => { results := [.lit (.bool false)], args := [d1, d2] }
  | _ => none }
def FnRunsWrongFalsely : Prop := fnRunsRow.holds Try.pinned (OpenSpec.ofChange fnRunsWrong)

/-- 'laws.FnShift': WHATEVER THE INPUT: true; the input reads as it did. -/
def fnShiftSpec : ChangeSpec := { name := "fnShift", fn := fun _ => fun
  | [d1, d2] => { results := [.lit (.bool true)], args := [d1, d2] }
  | _ => none }
def fnShiftRow : OpenClaim := { program := "ytfjjplllcilnaaa", sum := "8d1bcf4ca27334714285bb29a624cf340bae6bf6311a84296edefad541438114", func := "loop.example/g01165/laws.FnShift", spec := "fnShift", unfollowed := true, recurses := true, apart := false }
def FnShiftSaid : Prop := fnShiftRow.holds Try.pinned (OpenSpec.ofChange fnShiftSpec)

/-- ITS FALSE NEIGHBOUR: 'it returns false'. Refute it at one input. -/
def fnShiftWrong : ChangeSpec := { name := "fnShift", fn := fun _ => fun
  | [d1, d2] => { results := [.lit (.bool false)], args := [d1, d2] }
  | _ => none }
def FnShiftWrongFalsely : Prop := fnShiftRow.holds Try.pinned (OpenSpec.ofChange fnShiftWrong)

/-- 'laws.FnExactThresholdGrey': WHATEVER THE INPUT: true; the input reads as it did. -/
def fnExactThresholdGreySpec : ChangeSpec := { name := "fnExactThresholdGrey", fn := fun _ => fun
  | [d1, d2] => { results := [.lit (.bool true)], args := [d1, d2] }
  | _ => none }
def fnExactThresholdGreyRow : OpenClaim := { program := "ytfjjplllcilnaaa", sum := "8d1bcf4ca27334714285bb29a624cf340bae6bf6311a84296edefad541438114", func := "loop.example/g01165/laws.FnExactThresholdGrey", spec := "fnExactThresholdGrey", unfollowed := true, recurses := true, apart := false }
def FnExactThresholdGreySaid : Prop := fnExactThresholdGreyRow.holds Try.pinned (OpenSpec.ofChange fnExactThresholdGreySpec)

/-- ITS FALSE NEIGHBOUR: 'it returns false'. Refute it at one input. -/
def fnExactThresholdGreyWrong : ChangeSpec := { name := "fnExactThresholdGrey", fn := fun _ => fun
  | [d1, d2] => { results := [.lit (.bool false)], args := [d1, d2] }
  | _ => none }
def FnExactThresholdGreyWrongFalsely : Prop := fnExactThresholdGreyRow.holds Try.pinned (OpenSpec.ofChange fnExactThresholdGreyWrong)

/-- 'laws.FnExactTurnTree': WHATEVER THE INPUT: true; the input reads as it did. -/
def fnExactTurnTreeSpec : ChangeSpec := { name := "fnExactTurnTree", fn := fun _ => fun
  | [d1, d2] => { results := [.lit (.bool true)], args := [d1, d2] }
  | _ => none }
def fnExactTurnTreeRow : OpenClaim := { program := "ytfjjplllcilnaaa", sum := "8d1bcf4ca27334714285bb29a624cf340bae6bf6311a84296edefad541438114", func := "loop.example/g01165/laws.FnExactTurnTree", spec := "fnExactTurnTree", unfollowed := true, recurses := true, apart := false }
def FnExactTurnTreeSaid : Prop := fnExactTurnTreeRow.holds Try.pinned (OpenSpec.ofChange fnExactTurnTreeSpec)

/-- ITS FALSE NEIGHBOUR: 'it returns false'. Refute it at one input. -/
def fnExactTurnTreeWrong : ChangeSpec := { name := "fnExactTurnTree", fn := fun _ => fun
  | [d1, d2] => { results := [.lit (.bool false)], args := [d1, d2] }
  | _ => none }
def FnExactTurnTreeWrongFalsely : Prop := fnExactTurnTreeRow.holds Try.pinned (OpenSpec.ofChange fnExactTurnTreeWrong)

/-- 'laws.FnExactCombineTrees': WHATEVER THE INPUT: true; the input reads as it did. -/
def fnExactCombineTreesSpec : ChangeSpec := { name := "fnExactCombineTrees", fn := fun _ => fun
  | [d1, d2, d3] => { results := [.lit (.bool true)], args := [d1, d2, d3] }
  | _ => none }
def fnExactCombineTreesRow : OpenClaim := { program := "ytfjjplllcilnaaa", sum := "8d1bcf4ca27334714285bb29a624cf340bae6bf6311a84296edefad541438114", func := "loop.example/g01165/laws.FnExactCombineTrees", spec := "fnExactCombineTrees", unfollowed := true, recurses := true, apart := false }
def FnExactCombineTreesSaid : Prop := fnExactCombineTreesRow.holds Try.pinned (OpenSpec.ofChange fnExactCombineTreesSpec)

/-- ITS FALSE NEIGHBOUR: 'it returns false'. Refute it at one input. -/
def fnExactCombineTreesWrong : ChangeSpec := { name := "fnExactCombineTrees", fn := fun _ => fun
  | [d1, d2, d3] => { results := [.lit (.bool false)], args := [d1, d2, d3] }
  | _ => none }
def FnExactCombineTreesWrongFalsely : Prop := fnExactCombineTreesRow.holds Try.pinned (OpenSpec.ofChange fnExactCombineTreesWrong)

/- THE SECOND FORM. 'bulk': how many values and letters a reading holds, each counted each time it is reached (what is shared counts as often as it is met; a slice's spare places count too). A statement '..UptoSaid' is the law's where the arguments, and the package variables that the reading takes, are together of bulk at most 1048576: NARROWER than '..Said'. Prove '..Said' where nothing that the law and all that it calls make is longer than what came in: it says more and counts as full. Else prove '..UptoSaid'. A law counts once. -/
mutual
def uptoBulk {H : Type} : DataW H → Nat
  | .lit (.string bytes) => bytes.length + 1
  | .lit _ => 1
  | .nil => 1
  | .ptr d => uptoBulk d + 1
  | .slice elems spare => uptoBulkAll elems + uptoBulkAll spare + 1
  | .agg parts => uptoBulkAll parts + 1
  | .iface _ d => uptoBulk d + 1
  | .map entries => uptoBulkEntries entries + 1
  | .held _ => 1
def uptoBulkAll {H : Type} : List (DataW H) → Nat
  | [] => 0
  | d :: r => uptoBulk d + uptoBulkAll r
def uptoBulkEntries {H : Type} : List (Lit × DataW H) → Nat
  | [] => 0
  | x :: r => uptoBulkEntry x + uptoBulkEntries r
def uptoBulkEntry {H : Type} : Lit × DataW H → Nat
  | (.string bytes, d) => bytes.length + uptoBulk d + 1
  | (_, d) => uptoBulk d + 1
 end
def uptoSmall : (H : Type) → List (DataW H) → Bool := fun _ ds => decide (uptoBulkAll ds ≤ 1048576)
def OpenSpec.upto (s : _root_.Go.ChangeSpec) : _root_.Go.OpenSpec := { _root_.Go.OpenSpec.ofChange s with cond := some uptoSmall }

/-- 'laws.FnExactIsCurveBox', WHERE WHAT IT READS IS OF BULK AT MOST 1048576: true; the input reads as it did. -/
def fnExactIsCurveBoxUptoRow : OpenClaim := { program := "ytfjjplllcilnaaa", sum := "8d1bcf4ca27334714285bb29a624cf340bae6bf6311a84296edefad541438114", func := "loop.example/g01165/laws.FnExactIsCurveBox", spec := "fnExactIsCurveBox", apart := false, narrowed := true }
def FnExactIsCurveBoxUptoSaid : Prop := fnExactIsCurveBoxUptoRow.holds Try.pinned (OpenSpec.upto fnExactIsCurveBoxSpec)

/-- 'laws.FnExactIndexOf', WHERE WHAT IT READS IS OF BULK AT MOST 1048576: true; the input reads as it did. -/
def fnExactIndexOfUptoRow : OpenClaim := { program := "ytfjjplllcilnaaa", sum := "8d1bcf4ca27334714285bb29a624cf340bae6bf6311a84296edefad541438114", func := "loop.example/g01165/laws.FnExactIndexOf", spec := "fnExactIndexOf", recurses := true, apart := false, narrowed := true }
def FnExactIndexOfUptoSaid : Prop := fnExactIndexOfUptoRow.holds Try.pinned (OpenSpec.upto fnExactIndexOfSpec)

/-- 'laws.FnRuns', WHERE WHAT IT READS IS OF BULK AT MOST 1048576: true; the input reads as it did. -/
def fnRunsUptoRow : OpenClaim := { program := "ytfjjplllcilnaaa", sum := "8d1bcf4ca27334714285bb29a624cf340bae6bf6311a84296edefad541438114", func := "loop.example/g01165/laws.FnRuns", spec := "fnRuns", unfollowed := true, recurses := true, apart := false, narrowed := true }
def FnRunsUptoSaid : Prop := fnRunsUptoRow.holds Try.pinned (OpenSpec.upto fnRunsSpec)

/-- 'laws.FnShift', WHERE WHAT IT READS IS OF BULK AT MOST 1048576: true; the input reads as it did. -/
def fnShiftUptoRow : OpenClaim := { program := "ytfjjplllcilnaaa", sum := "8d1bcf4ca27334714285bb29a624cf340bae6bf6311a84296edefad541438114", func := "loop.example/g01165/laws.FnShift", spec := "fnShift", unfollowed := true, recurses := true, apart := false, narrowed := true }
def FnShiftUptoSaid : Prop := fnShiftUptoRow.holds Try.pinned (OpenSpec.upto fnShiftSpec)

/-- 'laws.FnExactThresholdGrey', WHERE WHAT IT READS IS OF BULK AT MOST 1048576: true; the input reads as it did. -/
def fnExactThresholdGreyUptoRow : OpenClaim := { program := "ytfjjplllcilnaaa", sum := "8d1bcf4ca27334714285bb29a624cf340bae6bf6311a84296edefad541438114", func := "loop.example/g01165/laws.FnExactThresholdGrey", spec := "fnExactThresholdGrey", unfollowed := true, recurses := true, apart := false, narrowed := true }
def FnExactThresholdGreyUptoSaid : Prop := fnExactThresholdGreyUptoRow.holds Try.pinned (OpenSpec.upto fnExactThresholdGreySpec)

/-- 'laws.FnExactTurnTree', WHERE WHAT IT READS IS OF BULK AT MOST 1048576: true; the input reads as it did. -/
def fnExactTurnTreeUptoRow : OpenClaim := { program := "ytfjjplllcilnaaa", sum := "8d1bcf4ca27334714285bb29a624cf340bae6bf6311a84296edefad541438114", func := "loop.example/g01165/laws.FnExactTurnTree", spec := "fnExactTurnTree", unfollowed := true, recurses := true, apart := false, narrowed := true }
def FnExactTurnTreeUptoSaid : Prop := fnExactTurnTreeUptoRow.holds Try.pinned (OpenSpec.upto fnExactTurnTreeSpec)

/-- 'laws.FnExactCombineTrees', WHERE WHAT IT READS IS OF BULK AT MOST 1048576: true; the input reads as it did. -/
def fnExactCombineTreesUptoRow : OpenClaim := { program := "ytfjjplllcilnaaa", sum := "8d1bcf4ca27334714285bb29a624cf340bae6bf6311a84296edefad541438114", func := "loop.example/g01165/laws.FnExactCombineTrees", spec := "fnExactCombineTrees", unfollowed := true, recurses := true, apart := false, narrowed := true }
def FnExactCombineTreesUptoSaid : Prop := fnExactCombineTreesUptoRow.holds Try.pinned (OpenSpec.upto fnExactCombineTreesSpec)

end Rows
end Go.Proofs.Ytfjjplllcilnaaa
