/-
  No cell of these rows narrows 'for every input' (looked for: loops, veiled, ifaces, maps, wideKeys, modest, calm, conditions, laid).
  DERIVED. THE GIVEN ROWS OF THIS SEAT. 12 by the template 'for every input the law returns true; each argument reads behind the call as it read before'; 0 by the template 'total and deterministic' (their statements: YtpploijlijnahaaTotals.lean).
  GIVEN WITH THE SEED: the statements are not yours to turn. If you find one false, say at which input.
  Laid BY PROGRAM, IN A SANDBOX (cutbox-rows.mjs): the forced cells as the released guide's own fill.sh prints them over the translation 1d9cef7fd55573fd… (all of the seat's roots in one cut). By AI agents, Wed Nov 11 2026. No macro, syntax, notation, axiom, sorry.
-/
import Derived.Test.YtpploijlijnahaaChecked
import GoSem.Claim
import GoSem.ClaimJoined
import GoSem.ClaimMapViews
import Derived.JoinedTies
import Derived.KernelRfl
namespace Go.Proofs.Ytpploijlijnahaa
/- THE CELL 'sum', in the pinned program and in every row, IS THE sha256 OF THE DUMP (.gsa) THAT YtpploijlijnahaaProg.lean LOADS. Nothing in Lean hashes anything: it is a label: what it is worth is what the hold of that sum in a sandbox is worth. -/
noncomputable def Try.pinned : Pinned := { name := "ytpploijlijnahaa", sum := "1d9cef7fd55573fd11445968747810885a9c01fe2c84c277aae78b6ef5f89e45", checked := Try.checked }
namespace Rows
def none {H : Type} : Left H := { results := [], args := [] }

/-- 'laws.FnExactDilatePicture': WHATEVER THE INPUT: true; the input reads as it did. -/
def fnExactDilatePictureSpec : ChangeSpec := { name := "fnExactDilatePicture", fn := fun _ => fun
  | [d1, d2] => { results := [.lit (.bool true)], args := [d1, d2] }
  | _ => none }
def fnExactDilatePictureRow : OpenClaim := { program := "ytpploijlijnahaa", sum := "1d9cef7fd55573fd11445968747810885a9c01fe2c84c277aae78b6ef5f89e45", func := "loop.example/g01165/laws.FnExactDilatePicture", spec := "fnExactDilatePicture", unfollowed := true, recurses := true, apart := false }
def FnExactDilatePictureSaid : Prop := fnExactDilatePictureRow.holds Try.pinned (OpenSpec.ofChange fnExactDilatePictureSpec)

/-- ITS FALSE NEIGHBOUR: 'it returns false'. Refute it at one input. -/
def fnExactDilatePictureWrong : ChangeSpec := { name := "fnExactDilatePicture", fn := fun _ => fun
  | [d1, d2] => { results := [.lit (.bool false)], args := [d1, d2] }
  | _ => none }
def FnExactDilatePictureWrongFalsely : Prop := fnExactDilatePictureRow.holds Try.pinned (OpenSpec.ofChange fnExactDilatePictureWrong)

/-- 'laws.FnExactErodePicture': WHATEVER THE INPUT: true; the input reads as it did. -/
def fnExactErodePictureSpec : ChangeSpec := { name := "fnExactErodePicture", fn := fun _ => fun
  | [d1, d2] => { results := [.lit (.bool true)], args := [d1, d2] }
  | _ => none }
def fnExactErodePictureRow : OpenClaim := { program := "ytpploijlijnahaa", sum := "1d9cef7fd55573fd11445968747810885a9c01fe2c84c277aae78b6ef5f89e45", func := "loop.example/g01165/laws.FnExactErodePicture", spec := "fnExactErodePicture", unfollowed := true, recurses := true, apart := false }
def FnExactErodePictureSaid : Prop := fnExactErodePictureRow.holds Try.pinned (OpenSpec.ofChange fnExactErodePictureSpec)

/-- ITS FALSE NEIGHBOUR: 'it returns false'. Refute it at one input. -/
def fnExactErodePictureWrong : ChangeSpec := { name := "fnExactErodePicture", fn := fun _ => fun
  | [d1, d2] => { results := [.lit (.bool false)], args := [d1, d2] }
  | _ => none }
def FnExactErodePictureWrongFalsely : Prop := fnExactErodePictureRow.holds Try.pinned (OpenSpec.ofChange fnExactErodePictureWrong)

/-- 'laws.FnExactOpenPicture': WHATEVER THE INPUT: true; the input reads as it did. -/
def fnExactOpenPictureSpec : ChangeSpec := { name := "fnExactOpenPicture", fn := fun _ => fun
  | [d1, d2] => { results := [.lit (.bool true)], args := [d1, d2] }
  | _ => none }
def fnExactOpenPictureRow : OpenClaim := { program := "ytpploijlijnahaa", sum := "1d9cef7fd55573fd11445968747810885a9c01fe2c84c277aae78b6ef5f89e45", func := "loop.example/g01165/laws.FnExactOpenPicture", spec := "fnExactOpenPicture", unfollowed := true, recurses := true, apart := false }
def FnExactOpenPictureSaid : Prop := fnExactOpenPictureRow.holds Try.pinned (OpenSpec.ofChange fnExactOpenPictureSpec)

/-- ITS FALSE NEIGHBOUR: 'it returns false'. Refute it at one input. -/
def fnExactOpenPictureWrong : ChangeSpec := { name := "fnExactOpenPicture", fn := fun _ => fun
  | [d1, d2] => { results := [.lit (.bool false)], args := [d1, d2] }
  | _ => none }
def FnExactOpenPictureWrongFalsely : Prop := fnExactOpenPictureRow.holds Try.pinned (OpenSpec.ofChange fnExactOpenPictureWrong)

/-- 'laws.FnExactClosePicture': WHATEVER THE INPUT: true; the input reads as it did. -/
def fnExactClosePictureSpec : ChangeSpec := { name := "fnExactClosePicture", fn := fun _ => fun
  | [d1, d2] => { results := [.lit (.bool true)], args := [d1, d2] }
  | _ => none }
def fnExactClosePictureRow : OpenClaim := { program := "ytpploijlijnahaa", sum := "1d9cef7fd55573fd11445968747810885a9c01fe2c84c277aae78b6ef5f89e45", func := "loop.example/g01165/laws.FnExactClosePicture", spec := "fnExactClosePicture", unfollowed := true, recurses := true, apart := false }
def FnExactClosePictureSaid : Prop := fnExactClosePictureRow.holds Try.pinned (OpenSpec.ofChange fnExactClosePictureSpec)

/-- ITS FALSE NEIGHBOUR: 'it returns false'. Refute it at one input. -/
def fnExactClosePictureWrong : ChangeSpec := { name := "fnExactClosePicture", fn := fun _ => fun
  | [d1, d2] => { results := [.lit (.bool false)], args := [d1, d2] }
  | _ => none }
def FnExactClosePictureWrongFalsely : Prop := fnExactClosePictureRow.holds Try.pinned (OpenSpec.ofChange fnExactClosePictureWrong)

/-- 'laws.FnExactHitOrMiss': WHATEVER THE INPUT: true; the input reads as it did. -/
def fnExactHitOrMissSpec : ChangeSpec := { name := "fnExactHitOrMiss", fn := fun _ => fun
  | [d1, d2, d3] => { results := [.lit (.bool true)], args := [d1, d2, d3] }
  | _ => none }
def fnExactHitOrMissRow : OpenClaim := { program := "ytpploijlijnahaa", sum := "1d9cef7fd55573fd11445968747810885a9c01fe2c84c277aae78b6ef5f89e45", func := "loop.example/g01165/laws.FnExactHitOrMiss", spec := "fnExactHitOrMiss", unfollowed := true, recurses := true, apart := false }
def FnExactHitOrMissSaid : Prop := fnExactHitOrMissRow.holds Try.pinned (OpenSpec.ofChange fnExactHitOrMissSpec)

/-- ITS FALSE NEIGHBOUR: 'it returns false'. Refute it at one input. -/
def fnExactHitOrMissWrong : ChangeSpec := { name := "fnExactHitOrMiss", fn := fun _ => fun
  | [d1, d2, d3] => { results := [.lit (.bool false)], args := [d1, d2, d3] }
  | _ => none }
def FnExactHitOrMissWrongFalsely : Prop := fnExactHitOrMissRow.holds Try.pinned (OpenSpec.ofChange fnExactHitOrMissWrong)

/-- 'laws.FnFitting': WHATEVER THE INPUT: true; the input reads as it did. -/
def fnFittingSpec : ChangeSpec := { name := "fnFitting", fn := fun _ => fun
  | [d1, d2] => { results := [.lit (.bool true)], args := [d1, d2] }
  | _ => none }
def fnFittingRow : OpenClaim := { program := "ytpploijlijnahaa", sum := "1d9cef7fd55573fd11445968747810885a9c01fe2c84c277aae78b6ef5f89e45", func := "loop.example/g01165/laws.FnFitting", spec := "fnFitting", unfollowed := true, recurses := true, apart := false }
def FnFittingSaid : Prop := fnFittingRow.holds Try.pinned (OpenSpec.ofChange fnFittingSpec)

/-- ITS FALSE NEIGHBOUR: 'it returns false'. Refute it at one input. -/
def fnFittingWrong : ChangeSpec := { name := "fnFitting", fn := fun _ => fun
  | [d1, d2] => { results := [.lit (.bool false)], args := [d1, d2] }
  | _ => none }
def FnFittingWrongFalsely : Prop := fnFittingRow.holds Try.pinned (OpenSpec.ofChange fnFittingWrong)

/-- 'laws.FnExactSizesOf': WHATEVER THE INPUT: true; the input reads as it did. -/
def fnExactSizesOfSpec : ChangeSpec := { name := "fnExactSizesOf", fn := fun _ => fun
  | [d] => { results := [.lit (.bool true)], args := [d] }
  | _ => none }
def fnExactSizesOfRow : OpenClaim := { program := "ytpploijlijnahaa", sum := "1d9cef7fd55573fd11445968747810885a9c01fe2c84c277aae78b6ef5f89e45", func := "loop.example/g01165/laws.FnExactSizesOf", spec := "fnExactSizesOf", unfollowed := true, recurses := true, apart := false }
def FnExactSizesOfSaid : Prop := fnExactSizesOfRow.holds Try.pinned (OpenSpec.ofChange fnExactSizesOfSpec)

/-- ITS FALSE NEIGHBOUR: 'it returns false'. Refute it at one input. -/
def fnExactSizesOfWrong : ChangeSpec := { name := "fnExactSizesOf", fn := fun _ => fun
  | [d] => { results := [.lit (.bool false)], args := [d] }
  | _ => none }
def FnExactSizesOfWrongFalsely : Prop := fnExactSizesOfRow.holds Try.pinned (OpenSpec.ofChange fnExactSizesOfWrong)

/-- 'laws.FnOpenings': WHATEVER THE INPUT: true; the input reads as it did. -/
def fnOpeningsSpec : ChangeSpec := { name := "fnOpenings", fn := fun _ => fun
  | [d1, d2] => { results := [.lit (.bool true)], args := [d1, d2] }
  | _ => none }
def fnOpeningsRow : OpenClaim := { program := "ytpploijlijnahaa", sum := "1d9cef7fd55573fd11445968747810885a9c01fe2c84c277aae78b6ef5f89e45", func := "loop.example/g01165/laws.FnOpenings", spec := "fnOpenings", unfollowed := true, recurses := true, apart := false }
def FnOpeningsSaid : Prop := fnOpeningsRow.holds Try.pinned (OpenSpec.ofChange fnOpeningsSpec)

/-- ITS FALSE NEIGHBOUR: 'it returns false'. Refute it at one input. -/
def fnOpeningsWrong : ChangeSpec := { name := "fnOpenings", fn := fun _ => fun
  | [d1, d2] => { results := [.lit (.bool false)], args := [d1, d2] }
  | _ => none }
def FnOpeningsWrongFalsely : Prop := fnOpeningsRow.holds Try.pinned (OpenSpec.ofChange fnOpeningsWrong)

/-- 'laws.FnExactStackPictures': WHATEVER THE INPUT: true; the input reads as it did. -/
def fnExactStackPicturesSpec : ChangeSpec := { name := "fnExactStackPictures", fn := fun _ => fun
  | [d] => { results := [.lit (.bool true)], args := [d] }
  | _ => none }
def fnExactStackPicturesRow : OpenClaim := { program := "ytpploijlijnahaa", sum := "1d9cef7fd55573fd11445968747810885a9c01fe2c84c277aae78b6ef5f89e45", func := "loop.example/g01165/laws.FnExactStackPictures", spec := "fnExactStackPictures", unfollowed := true, recurses := true, apart := false }
def FnExactStackPicturesSaid : Prop := fnExactStackPicturesRow.holds Try.pinned (OpenSpec.ofChange fnExactStackPicturesSpec)

/-- ITS FALSE NEIGHBOUR: 'it returns false'. Refute it at one input. -/
def fnExactStackPicturesWrong : ChangeSpec := { name := "fnExactStackPictures", fn := fun _ => fun
  | [d] => { results := [.lit (.bool false)], args := [d] }
  | _ => none }
def FnExactStackPicturesWrongFalsely : Prop := fnExactStackPicturesRow.holds Try.pinned (OpenSpec.ofChange fnExactStackPicturesWrong)

/-- 'laws.FnExactPictureOfRuns': WHATEVER THE INPUT: true; the input reads as it did. -/
def fnExactPictureOfRunsSpec : ChangeSpec := { name := "fnExactPictureOfRuns", fn := fun _ => fun
  | [d1, d2, d3] => { results := [.lit (.bool true)], args := [d1, d2, d3] }
  | _ => none }
def fnExactPictureOfRunsRow : OpenClaim := { program := "ytpploijlijnahaa", sum := "1d9cef7fd55573fd11445968747810885a9c01fe2c84c277aae78b6ef5f89e45", func := "loop.example/g01165/laws.FnExactPictureOfRuns", spec := "fnExactPictureOfRuns", unfollowed := true, recurses := true, apart := false }
def FnExactPictureOfRunsSaid : Prop := fnExactPictureOfRunsRow.holds Try.pinned (OpenSpec.ofChange fnExactPictureOfRunsSpec)

/-- ITS FALSE NEIGHBOUR: 'it returns false'. Refute it at one input. -/
def fnExactPictureOfRunsWrong : ChangeSpec := { name := "fnExactPictureOfRuns", fn := fun _ => fun
  | [d1, d2, d3] => { results := [.lit (.bool false)], args := [d1, d2, d3] }
  | _ => none }
def FnExactPictureOfRunsWrongFalsely : Prop := fnExactPictureOfRunsRow.holds Try.pinned (OpenSpec.ofChange fnExactPictureOfRunsWrong)

/-- 'laws.FnExactGrowBy': WHATEVER THE INPUT: true; the input reads as it did. -/
def fnExactGrowBySpec : ChangeSpec := { name := "fnExactGrowBy", fn := fun _ => fun
  | [d1, d2, d3] => { results := [.lit (.bool true)], args := [d1, d2, d3] }
  | _ => none }
def fnExactGrowByRow : OpenClaim := { program := "ytpploijlijnahaa", sum := "1d9cef7fd55573fd11445968747810885a9c01fe2c84c277aae78b6ef5f89e45", func := "loop.example/g01165/laws.FnExactGrowBy", spec := "fnExactGrowBy", unfollowed := true, recurses := true, apart := false }
def FnExactGrowBySaid : Prop := fnExactGrowByRow.holds Try.pinned (OpenSpec.ofChange fnExactGrowBySpec)

/-- ITS FALSE NEIGHBOUR: 'it returns false'. Refute it at one input. -/
def fnExactGrowByWrong : ChangeSpec := { name := "fnExactGrowBy", fn := fun _ => fun
  | [d1, d2, d3] => { results := [.lit (.bool false)], args := [d1, d2, d3] }
  | _ => none }
def FnExactGrowByWrongFalsely : Prop := fnExactGrowByRow.holds Try.pinned (OpenSpec.ofChange fnExactGrowByWrong)

/-- 'laws.FnExactShrinkBy': WHATEVER THE INPUT: true; the input reads as it did. -/
def fnExactShrinkBySpec : ChangeSpec := { name := "fnExactShrinkBy", fn := fun _ => fun
  | [d1, d2, d3] => { results := [.lit (.bool true)], args := [d1, d2, d3] }
  | _ => none }
def fnExactShrinkByRow : OpenClaim := { program := "ytpploijlijnahaa", sum := "1d9cef7fd55573fd11445968747810885a9c01fe2c84c277aae78b6ef5f89e45", func := "loop.example/g01165/laws.FnExactShrinkBy", spec := "fnExactShrinkBy", unfollowed := true, recurses := true, apart := false }
def FnExactShrinkBySaid : Prop := fnExactShrinkByRow.holds Try.pinned (OpenSpec.ofChange fnExactShrinkBySpec)

/-- ITS FALSE NEIGHBOUR: 'it returns false'. Refute it at one input. -/
def fnExactShrinkByWrong : ChangeSpec := { name := "fnExactShrinkBy", fn := fun _ => fun
  | [d1, d2, d3] => { results := [.lit (.bool false)], args := [d1, d2, d3] }
  | _ => none }
def FnExactShrinkByWrongFalsely : Prop := fnExactShrinkByRow.holds Try.pinned (OpenSpec.ofChange fnExactShrinkByWrong)

/- THE SECOND FORM. 'bulk': how many values and letters a reading holds, each counted each time it is reached (what is shared counts as often as it is met; a slice's spare places count too). A statement '..UptoSaid' is the law's where the arguments, and the package variables that the reading takes, are together of bulk at most 1048576: NARROWER than '..Said'. Prove '..Said' where nothing that the law and all that it calls make is longer than what came in: it says more and counts as full. Else prove '..UptoSaid'. A law counts once. -/
mutual
def uptoBulk {H : Type} : DataW H → Nat
  | .lit (.string bytes) => bytes.length + 1
  | .lit _ => 1
  | .nil => 1
  | .ptr d => uptoBulk d + 1
  | .slice elems spare => uptoBulkAll elems + uptoBulkAll spare + 1
  | .agg parts => uptoBulkAll parts + 1
  | .iface _ d => uptoBulk d + 1
  | .map entries => uptoBulkEntries entries + 1
  | .held _ => 1
def uptoBulkAll {H : Type} : List (DataW H) → Nat
  | [] => 0
  | d :: r => uptoBulk d + uptoBulkAll r
def uptoBulkEntries {H : Type} : List (Lit × DataW H) → Nat
  | [] => 0
  | x :: r => uptoBulkEntry x + uptoBulkEntries r
def uptoBulkEntry {H : Type} : Lit × DataW H → Nat
  | (.string bytes, d) => bytes.length + uptoBulk d + 1
  | (_, d) => uptoBulk d + 1
 end
def uptoSmall : (H : Type) → List (DataW H) → Bool := fun _ ds => decide (uptoBulkAll ds ≤ 1048576)
def OpenSpec.upto (s : _root_.Go.ChangeSpec) : _root_.Go.OpenSpec := { _root_.Go.OpenSpec.ofChange s with cond := some uptoSmall }

/-- 'laws.FnExactDilatePicture', WHERE WHAT IT READS IS OF BULK AT MOST 1048576: true; the input reads as it did. -/
def fnExactDilatePictureUptoRow : OpenClaim := { program := "ytpploijlijnahaa", sum := "1d9cef7fd55573fd11445968747810885a9c01fe2c84c277aae78b6ef5f89e45", func := "loop.example/g01165/laws.FnExactDilatePicture", spec := "fnExactDilatePicture", unfollowed := true, recurses := true, apart := false, narrowed := true }
def FnExactDilatePictureUptoSaid : Prop := fnExactDilatePictureUptoRow.holds Try.pinned (OpenSpec.upto fnExactDilatePictureSpec)

/-- 'laws.FnExactErodePicture', WHERE WHAT IT READS IS OF BULK AT MOST 1048576: true; the input reads as it did. -/
def fnExactErodePictureUptoRow : OpenClaim := { program := "ytpploijlijnahaa", sum := "1d9cef7fd55573fd11445968747810885a9c01fe2c84c277aae78b6ef5f89e45", func := "loop.example/g01165/laws.FnExactErodePicture", spec := "fnExactErodePicture", unfollowed := true, recurses := true, apart := false, narrowed := true }
def FnExactErodePictureUptoSaid : Prop := fnExactErodePictureUptoRow.holds Try.pinned (OpenSpec.upto fnExactErodePictureSpec)

/-- 'laws.FnExactOpenPicture', WHERE WHAT IT READS IS OF BULK AT MOST 1048576: true; the input reads as it did. -/
def fnExactOpenPictureUptoRow : OpenClaim := { program := "ytpploijlijnahaa", sum := "1d9cef7fd55573fd11445968747810885a9c01fe2c84c277aae78b6ef5f89e45", func := "loop.example/g01165/laws.FnExactOpenPicture", spec := "fnExactOpenPicture", unfollowed := true, recurses := true, apart := false, narrowed := true }
def FnExactOpenPictureUptoSaid : Prop := fnExactOpenPictureUptoRow.holds Try.pinned (OpenSpec.upto fnExactOpenPictureSpec)

/-- 'laws.FnExactClosePicture', WHERE WHAT IT READS IS OF BULK AT MOST 1048576: true; the input reads as it did. -/
def fnExactClosePictureUptoRow : OpenClaim := { program := "ytpploijlijnahaa", sum := "1d9cef7fd55573fd11445968747810885a9c01fe2c84c277aae78b6ef5f89e45", func := "loop.example/g01165/laws.FnExactClosePicture", spec := "fnExactClosePicture", unfollowed := true, recurses := true, apart := false, narrowed := true }
def FnExactClosePictureUptoSaid : Prop := fnExactClosePictureUptoRow.holds Try.pinned (OpenSpec.upto fnExactClosePictureSpec)

/-- 'laws.FnExactHitOrMiss', WHERE WHAT IT READS IS OF BULK AT MOST 1048576: true; the input reads as it did. -/
def fnExactHitOrMissUptoRow : OpenClaim := { program := "ytpploijlijnahaa", sum := "1d9cef7fd55573fd11445968747810885a9c01fe2c84c277aae78b6ef5f89e45", func := "loop.example/g01165/laws.FnExactHitOrMiss", spec := "fnExactHitOrMiss", unfollowed := true, recurses := true, apart := false, narrowed := true }
def FnExactHitOrMissUptoSaid : Prop := fnExactHitOrMissUptoRow.holds Try.pinned (OpenSpec.upto fnExactHitOrMissSpec)

/-- 'laws.FnFitting', WHERE WHAT IT READS IS OF BULK AT MOST 1048576: true; the input reads as it did. -/
def fnFittingUptoRow : OpenClaim := { program := "ytpploijlijnahaa", sum := "1d9cef7fd55573fd11445968747810885a9c01fe2c84c277aae78b6ef5f89e45", func := "loop.example/g01165/laws.FnFitting", spec := "fnFitting", unfollowed := true, recurses := true, apart := false, narrowed := true }
def FnFittingUptoSaid : Prop := fnFittingUptoRow.holds Try.pinned (OpenSpec.upto fnFittingSpec)

/-- 'laws.FnExactSizesOf', WHERE WHAT IT READS IS OF BULK AT MOST 1048576: true; the input reads as it did. -/
def fnExactSizesOfUptoRow : OpenClaim := { program := "ytpploijlijnahaa", sum := "1d9cef7fd55573fd11445968747810885a9c01fe2c84c277aae78b6ef5f89e45", func := "loop.example/g01165/laws.FnExactSizesOf", spec := "fnExactSizesOf", unfollowed := true, recurses := true, apart := false, narrowed := true }
def FnExactSizesOfUptoSaid : Prop := fnExactSizesOfUptoRow.holds Try.pinned (OpenSpec.upto fnExactSizesOfSpec)

/-- 'laws.FnOpenings', WHERE WHAT IT READS IS OF BULK AT MOST 1048576: true; the input reads as it did. -/
def fnOpeningsUptoRow : OpenClaim := { program := "ytpploijlijnahaa", sum := "1d9cef7fd55573fd11445968747810885a9c01fe2c84c277aae78b6ef5f89e45", func := "loop.example/g01165/laws.FnOpenings", spec := "fnOpenings", unfollowed := true, recurses := true, apart := false, narrowed := true }
def FnOpeningsUptoSaid : Prop := fnOpeningsUptoRow.holds Try.pinned (OpenSpec.upto fnOpeningsSpec)

/-- 'laws.FnExactStackPictures', WHERE WHAT IT READS IS OF BULK AT MOST 1048576: true; the input reads as it did. -/
def fnExactStackPicturesUptoRow : OpenClaim := { program := "ytpploijlijnahaa", sum := "1d9cef7fd55573fd11445968747810885a9c01fe2c84c277aae78b6ef5f89e45", func := "loop.example/g01165/laws.FnExactStackPictures", spec := "fnExactStackPictures", unfollowed := true, recurses := true, apart := false, narrowed := true }
def FnExactStackPicturesUptoSaid : Prop := fnExactStackPicturesUptoRow.holds Try.pinned (OpenSpec.upto fnExactStackPicturesSpec)

/-- 'laws.FnExactPictureOfRuns', WHERE WHAT IT READS IS OF BULK AT MOST 1048576: true; the input reads as it did. -/
def fnExactPictureOfRunsUptoRow : OpenClaim := { program := "ytpploijlijnahaa", sum := "1d9cef7fd55573fd11445968747810885a9c01fe2c84c277aae78b6ef5f89e45", func := "loop.example/g01165/laws.FnExactPictureOfRuns", spec := "fnExactPictureOfRuns", unfollowed := true, recurses := true, apart := false, narrowed := true }
def FnExactPictureOfRunsUptoSaid : Prop := fnExactPictureOfRunsUptoRow.holds Try.pinned (OpenSpec.upto fnExactPictureOfRunsSpec)

/-- 'laws.FnExactGrowBy', WHERE WHAT IT READS IS OF BULK AT MOST 1048576: true; the input reads as it did. -/
def fnExactGrowByUptoRow : OpenClaim := { program := "ytpploijlijnahaa", sum := "1d9cef7fd55573fd11445968747810885a9c01fe2c84c277aae78b6ef5f89e45", func := "loop.example/g01165/laws.FnExactGrowBy", spec := "fnExactGrowBy", unfollowed := true, recurses := true, apart := false, narrowed := true }
def FnExactGrowByUptoSaid : Prop := fnExactGrowByUptoRow.holds Try.pinned (OpenSpec.upto fnExactGrowBySpec)

/-- 'laws.FnExactShrinkBy', WHERE WHAT IT READS IS OF BULK AT MOST 1048576: true; the input reads as it did. -/
def fnExactShrinkByUptoRow : OpenClaim := { program := "ytpploijlijnahaa", sum := "1d9cef7fd55573fd11445968747810885a9c01fe2c84c277aae78b6ef5f89e45", func := "loop.example/g01165/laws.FnExactShrinkBy", spec := "fnExactShrinkBy", unfollowed := true, recurses := true, apart := false, narrowed := true }
def FnExactShrinkByUptoSaid : Prop := fnExactShrinkByUptoRow.holds Try.pinned (OpenSpec.upto fnExactShrinkBySpec)

end Rows
end Go.Proofs.Ytpploijlijnahaa
