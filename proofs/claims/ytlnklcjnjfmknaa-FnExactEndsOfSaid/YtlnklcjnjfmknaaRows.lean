/-
  No cell of these rows narrows 'for every input' (looked for: loops, veiled, ifaces, maps, wideKeys, modest, calm, conditions, laid).
  DERIVED. THE GIVEN ROWS OF THIS SEAT. 12 by the template 'for every input the law returns true; each argument reads behind the call as it read before'; 0 by the template 'total and deterministic' (their statements: YtlnklcjnjfmknaaTotals.lean).
  GIVEN WITH THE SEED: the statements are not yours to turn. If you find one false, say at which input.
  Laid BY PROGRAM, IN A SANDBOX (cutbox-rows.mjs): the forced cells as the released guide's own fill.sh prints them over the translation 60c4a32b733aace1… (all of the seat's roots in one cut). By AI agents, Wed Nov 11 2026. No macro, syntax, notation, axiom, sorry.
-/
import Derived.Test.YtlnklcjnjfmknaaChecked
import GoSem.Claim
import GoSem.ClaimJoined
import GoSem.ClaimMapViews
import Derived.JoinedTies
import Derived.KernelRfl
namespace Go.Proofs.Ytlnklcjnjfmknaa
/- THE CELL 'sum', in the pinned program and in every row, IS THE sha256 OF THE DUMP (.gsa) THAT YtlnklcjnjfmknaaProg.lean LOADS. Nothing in Lean hashes anything: it is a label: what it is worth is what the hold of that sum in a sandbox is worth. -/
noncomputable def Try.pinned : Pinned := { name := "ytlnklcjnjfmknaa", sum := "60c4a32b733aace19b6ecad868b133a6548276bceb52a6aaf9b1b438215c1ecd", checked := Try.checked }
namespace Rows
def none {H : Type} : Left H := { results := [], args := [] }

/-- 'laws.FnExactDepthsOf': WHATEVER THE INPUT: true; the input reads as it did. -/
def fnExactDepthsOfSpec : ChangeSpec := { name := "fnExactDepthsOf", fn := fun _ => fun
  | [d1, d2] => { results := [.lit (.bool true)], args := [d1, d2] }
  | _ => none }
def fnExactDepthsOfRow : OpenClaim := { program := "ytlnklcjnjfmknaa", sum := "60c4a32b733aace19b6ecad868b133a6548276bceb52a6aaf9b1b438215c1ecd", func := "loop.example/g01165/laws.FnExactDepthsOf", spec := "fnExactDepthsOf", unfollowed := true, recurses := true, plainKeys := false, apart := false }
def FnExactDepthsOfSaid : Prop := fnExactDepthsOfRow.holds Try.pinned (OpenSpec.ofChange fnExactDepthsOfSpec)

/-- ITS FALSE NEIGHBOUR: 'it returns false'. Refute it at one input. -/
def fnExactDepthsOfWrong : ChangeSpec := { name := "fnExactDepthsOf", fn := fun _ => fun
  | [d1, d2] => { results := [.lit (.bool false)], args := [d1, d2] }
  | _ => none }
def FnExactDepthsOfWrongFalsely : Prop := fnExactDepthsOfRow.holds Try.pinned (OpenSpec.ofChange fnExactDepthsOfWrong)

/-- 'laws.FnExactDistancesOf': WHATEVER THE INPUT: true; the input reads as it did. -/
def fnExactDistancesOfSpec : ChangeSpec := { name := "fnExactDistancesOf", fn := fun _ => fun
  | [d1, d2] => { results := [.lit (.bool true)], args := [d1, d2] }
  | _ => none }
def fnExactDistancesOfRow : OpenClaim := { program := "ytlnklcjnjfmknaa", sum := "60c4a32b733aace19b6ecad868b133a6548276bceb52a6aaf9b1b438215c1ecd", func := "loop.example/g01165/laws.FnExactDistancesOf", spec := "fnExactDistancesOf", unfollowed := true, recurses := true, plainKeys := false, apart := false }
def FnExactDistancesOfSaid : Prop := fnExactDistancesOfRow.holds Try.pinned (OpenSpec.ofChange fnExactDistancesOfSpec)

/-- ITS FALSE NEIGHBOUR: 'it returns false'. Refute it at one input. -/
def fnExactDistancesOfWrong : ChangeSpec := { name := "fnExactDistancesOf", fn := fun _ => fun
  | [d1, d2] => { results := [.lit (.bool false)], args := [d1, d2] }
  | _ => none }
def FnExactDistancesOfWrongFalsely : Prop := fnExactDistancesOfRow.holds Try.pinned (OpenSpec.ofChange fnExactDistancesOfWrong)

/-- 'laws.FnExactDiscsOf': WHATEVER THE INPUT: true; the input reads as it did. -/
def fnExactDiscsOfSpec : ChangeSpec := { name := "fnExactDiscsOf", fn := fun _ => fun
  | [d1, d2] => { results := [.lit (.bool true)], args := [d1, d2] }
  | _ => none }
def fnExactDiscsOfRow : OpenClaim := { program := "ytlnklcjnjfmknaa", sum := "60c4a32b733aace19b6ecad868b133a6548276bceb52a6aaf9b1b438215c1ecd", func := "loop.example/g01165/laws.FnExactDiscsOf", spec := "fnExactDiscsOf", unfollowed := true, recurses := true, plainKeys := false, apart := false }
def FnExactDiscsOfSaid : Prop := fnExactDiscsOfRow.holds Try.pinned (OpenSpec.ofChange fnExactDiscsOfSpec)

/-- ITS FALSE NEIGHBOUR: 'it returns false'. Refute it at one input. -/
def fnExactDiscsOfWrong : ChangeSpec := { name := "fnExactDiscsOf", fn := fun _ => fun
  | [d1, d2] => { results := [.lit (.bool false)], args := [d1, d2] }
  | _ => none }
def FnExactDiscsOfWrongFalsely : Prop := fnExactDiscsOfRow.holds Try.pinned (OpenSpec.ofChange fnExactDiscsOfWrong)

/-- 'laws.FnExactFewDiscs': WHATEVER THE INPUT: true; the input reads as it did. -/
def fnExactFewDiscsSpec : ChangeSpec := { name := "fnExactFewDiscs", fn := fun _ => fun
  | [d1, d2] => { results := [.lit (.bool true)], args := [d1, d2] }
  | _ => none }
def fnExactFewDiscsRow : OpenClaim := { program := "ytlnklcjnjfmknaa", sum := "60c4a32b733aace19b6ecad868b133a6548276bceb52a6aaf9b1b438215c1ecd", func := "loop.example/g01165/laws.FnExactFewDiscs", spec := "fnExactFewDiscs", unfollowed := true, recurses := true, plainKeys := false, apart := false }
def FnExactFewDiscsSaid : Prop := fnExactFewDiscsRow.holds Try.pinned (OpenSpec.ofChange fnExactFewDiscsSpec)

/-- ITS FALSE NEIGHBOUR: 'it returns false'. Refute it at one input. -/
def fnExactFewDiscsWrong : ChangeSpec := { name := "fnExactFewDiscs", fn := fun _ => fun
  | [d1, d2] => { results := [.lit (.bool false)], args := [d1, d2] }
  | _ => none }
def FnExactFewDiscsWrongFalsely : Prop := fnExactFewDiscsRow.holds Try.pinned (OpenSpec.ofChange fnExactFewDiscsWrong)

/-- 'laws.FnExactEndsOf': WHATEVER THE INPUT: true; the input reads as it did. -/
def fnExactEndsOfSpec : ChangeSpec := { name := "fnExactEndsOf", fn := fun _ => fun
  | [d] => { results := [.lit (.bool true)], args := [d] }
  | _ => none }
def fnExactEndsOfRow : OpenClaim := { program := "ytlnklcjnjfmknaa", sum := "60c4a32b733aace19b6ecad868b133a6548276bceb52a6aaf9b1b438215c1ecd", func := "loop.example/g01165/laws.FnExactEndsOf", spec := "fnExactEndsOf", unfollowed := true, recurses := true, plainKeys := false, apart := false }
def FnExactEndsOfSaid : Prop := fnExactEndsOfRow.holds Try.pinned (OpenSpec.ofChange fnExactEndsOfSpec)

/-- ITS FALSE NEIGHBOUR: 'it returns false'. Refute it at one input. -/
def fnExactEndsOfWrong : ChangeSpec := { name := "fnExactEndsOf", fn := fun _ => fun
  | [d] => { results := [.lit (.bool false)], args := [d] }
  | _ => none }
def FnExactEndsOfWrongFalsely : Prop := fnExactEndsOfRow.holds Try.pinned (OpenSpec.ofChange fnExactEndsOfWrong)

/-- 'laws.FnExactReconstructPicture': WHATEVER THE INPUT: true; the input reads as it did. -/
def fnExactReconstructPictureSpec : ChangeSpec := { name := "fnExactReconstructPicture", fn := fun _ => fun
  | [d1, d2, d3] => { results := [.lit (.bool true)], args := [d1, d2, d3] }
  | _ => none }
def fnExactReconstructPictureRow : OpenClaim := { program := "ytlnklcjnjfmknaa", sum := "60c4a32b733aace19b6ecad868b133a6548276bceb52a6aaf9b1b438215c1ecd", func := "loop.example/g01165/laws.FnExactReconstructPicture", spec := "fnExactReconstructPicture", unfollowed := true, recurses := true, plainKeys := false, apart := false }
def FnExactReconstructPictureSaid : Prop := fnExactReconstructPictureRow.holds Try.pinned (OpenSpec.ofChange fnExactReconstructPictureSpec)

/-- ITS FALSE NEIGHBOUR: 'it returns false'. Refute it at one input. -/
def fnExactReconstructPictureWrong : ChangeSpec := { name := "fnExactReconstructPicture", fn := fun _ => fun
  | [d1, d2, d3] => { results := [.lit (.bool false)], args := [d1, d2, d3] }
  | _ => none }
def FnExactReconstructPictureWrongFalsely : Prop := fnExactReconstructPictureRow.holds Try.pinned (OpenSpec.ofChange fnExactReconstructPictureWrong)

/-- 'laws.FnExactFillHoles': WHATEVER THE INPUT: true; the input reads as it did. -/
def fnExactFillHolesSpec : ChangeSpec := { name := "fnExactFillHoles", fn := fun _ => fun
  | [d1, d2] => { results := [.lit (.bool true)], args := [d1, d2] }
  | _ => none }
def fnExactFillHolesRow : OpenClaim := { program := "ytlnklcjnjfmknaa", sum := "60c4a32b733aace19b6ecad868b133a6548276bceb52a6aaf9b1b438215c1ecd", func := "loop.example/g01165/laws.FnExactFillHoles", spec := "fnExactFillHoles", unfollowed := true, recurses := true, plainKeys := false, apart := false }
def FnExactFillHolesSaid : Prop := fnExactFillHolesRow.holds Try.pinned (OpenSpec.ofChange fnExactFillHolesSpec)

/-- ITS FALSE NEIGHBOUR: 'it returns false'. Refute it at one input. -/
def fnExactFillHolesWrong : ChangeSpec := { name := "fnExactFillHoles", fn := fun _ => fun
  | [d1, d2] => { results := [.lit (.bool false)], args := [d1, d2] }
  | _ => none }
def FnExactFillHolesWrongFalsely : Prop := fnExactFillHolesRow.holds Try.pinned (OpenSpec.ofChange fnExactFillHolesWrong)

/-- 'laws.FnExactCountHoles': WHATEVER THE INPUT: true; the input reads as it did. -/
def fnExactCountHolesSpec : ChangeSpec := { name := "fnExactCountHoles", fn := fun _ => fun
  | [d1, d2] => { results := [.lit (.bool true)], args := [d1, d2] }
  | _ => none }
def fnExactCountHolesRow : OpenClaim := { program := "ytlnklcjnjfmknaa", sum := "60c4a32b733aace19b6ecad868b133a6548276bceb52a6aaf9b1b438215c1ecd", func := "loop.example/g01165/laws.FnExactCountHoles", spec := "fnExactCountHoles", unfollowed := true, recurses := true, plainKeys := false, apart := false }
def FnExactCountHolesSaid : Prop := fnExactCountHolesRow.holds Try.pinned (OpenSpec.ofChange fnExactCountHolesSpec)

/-- ITS FALSE NEIGHBOUR: 'it returns false'. Refute it at one input. -/
def fnExactCountHolesWrong : ChangeSpec := { name := "fnExactCountHoles", fn := fun _ => fun
  | [d1, d2] => { results := [.lit (.bool false)], args := [d1, d2] }
  | _ => none }
def FnExactCountHolesWrongFalsely : Prop := fnExactCountHolesRow.holds Try.pinned (OpenSpec.ofChange fnExactCountHolesWrong)

/-- 'laws.FnExactEulerNumber': WHATEVER THE INPUT: true; the input reads as it did. -/
def fnExactEulerNumberSpec : ChangeSpec := { name := "fnExactEulerNumber", fn := fun _ => fun
  | [d1, d2] => { results := [.lit (.bool true)], args := [d1, d2] }
  | _ => none }
def fnExactEulerNumberRow : OpenClaim := { program := "ytlnklcjnjfmknaa", sum := "60c4a32b733aace19b6ecad868b133a6548276bceb52a6aaf9b1b438215c1ecd", func := "loop.example/g01165/laws.FnExactEulerNumber", spec := "fnExactEulerNumber", unfollowed := true, recurses := true, plainKeys := false, apart := false }
def FnExactEulerNumberSaid : Prop := fnExactEulerNumberRow.holds Try.pinned (OpenSpec.ofChange fnExactEulerNumberSpec)

/-- ITS FALSE NEIGHBOUR: 'it returns false'. Refute it at one input. -/
def fnExactEulerNumberWrong : ChangeSpec := { name := "fnExactEulerNumber", fn := fun _ => fun
  | [d1, d2] => { results := [.lit (.bool false)], args := [d1, d2] }
  | _ => none }
def FnExactEulerNumberWrongFalsely : Prop := fnExactEulerNumberRow.holds Try.pinned (OpenSpec.ofChange fnExactEulerNumberWrong)

/-- 'laws.FnExactAreasOf': WHATEVER THE INPUT: true; the input reads as it did. -/
def fnExactAreasOfSpec : ChangeSpec := { name := "fnExactAreasOf", fn := fun _ => fun
  | [d1, d2] => { results := [.lit (.bool true)], args := [d1, d2] }
  | _ => none }
def fnExactAreasOfRow : OpenClaim := { program := "ytlnklcjnjfmknaa", sum := "60c4a32b733aace19b6ecad868b133a6548276bceb52a6aaf9b1b438215c1ecd", func := "loop.example/g01165/laws.FnExactAreasOf", spec := "fnExactAreasOf", unfollowed := true, recurses := true, plainKeys := false, apart := false }
def FnExactAreasOfSaid : Prop := fnExactAreasOfRow.holds Try.pinned (OpenSpec.ofChange fnExactAreasOfSpec)

/-- ITS FALSE NEIGHBOUR: 'it returns false'. Refute it at one input. -/
def fnExactAreasOfWrong : ChangeSpec := { name := "fnExactAreasOf", fn := fun _ => fun
  | [d1, d2] => { results := [.lit (.bool false)], args := [d1, d2] }
  | _ => none }
def FnExactAreasOfWrongFalsely : Prop := fnExactAreasOfRow.holds Try.pinned (OpenSpec.ofChange fnExactAreasOfWrong)

/-- 'laws.FnExactComponentsOf': WHATEVER THE INPUT: true; the input reads as it did. -/
def fnExactComponentsOfSpec : ChangeSpec := { name := "fnExactComponentsOf", fn := fun _ => fun
  | [d1, d2] => { results := [.lit (.bool true)], args := [d1, d2] }
  | _ => none }
def fnExactComponentsOfRow : OpenClaim := { program := "ytlnklcjnjfmknaa", sum := "60c4a32b733aace19b6ecad868b133a6548276bceb52a6aaf9b1b438215c1ecd", func := "loop.example/g01165/laws.FnExactComponentsOf", spec := "fnExactComponentsOf", unfollowed := true, recurses := true, plainKeys := false, apart := false }
def FnExactComponentsOfSaid : Prop := fnExactComponentsOfRow.holds Try.pinned (OpenSpec.ofChange fnExactComponentsOfSpec)

/-- ITS FALSE NEIGHBOUR: 'it returns false'. Refute it at one input. -/
def fnExactComponentsOfWrong : ChangeSpec := { name := "fnExactComponentsOf", fn := fun _ => fun
  | [d1, d2] => { results := [.lit (.bool false)], args := [d1, d2] }
  | _ => none }
def FnExactComponentsOfWrongFalsely : Prop := fnExactComponentsOfRow.holds Try.pinned (OpenSpec.ofChange fnExactComponentsOfWrong)

/-- 'laws.FnExactKeepComponents': WHATEVER THE INPUT: true; the input reads as it did. -/
def fnExactKeepComponentsSpec : ChangeSpec := { name := "fnExactKeepComponents", fn := fun _ => fun
  | [d1, d2, d3] => { results := [.lit (.bool true)], args := [d1, d2, d3] }
  | _ => none }
def fnExactKeepComponentsRow : OpenClaim := { program := "ytlnklcjnjfmknaa", sum := "60c4a32b733aace19b6ecad868b133a6548276bceb52a6aaf9b1b438215c1ecd", func := "loop.example/g01165/laws.FnExactKeepComponents", spec := "fnExactKeepComponents", unfollowed := true, recurses := true, plainKeys := false, apart := false }
def FnExactKeepComponentsSaid : Prop := fnExactKeepComponentsRow.holds Try.pinned (OpenSpec.ofChange fnExactKeepComponentsSpec)

/-- ITS FALSE NEIGHBOUR: 'it returns false'. Refute it at one input. -/
def fnExactKeepComponentsWrong : ChangeSpec := { name := "fnExactKeepComponents", fn := fun _ => fun
  | [d1, d2, d3] => { results := [.lit (.bool false)], args := [d1, d2, d3] }
  | _ => none }
def FnExactKeepComponentsWrongFalsely : Prop := fnExactKeepComponentsRow.holds Try.pinned (OpenSpec.ofChange fnExactKeepComponentsWrong)

/- THE SECOND FORM. 'bulk': how many values and letters a reading holds, each counted each time it is reached (what is shared counts as often as it is met; a slice's spare places count too). A statement '..UptoSaid' is the law's where the arguments, and the package variables that the reading takes, are together of bulk at most 1048576: NARROWER than '..Said'. Prove '..Said' where nothing that the law and all that it calls make is longer than what came in: it says more and counts as full. Else prove '..UptoSaid'. A law counts once. -/
mutual
def uptoBulk {H : Type} : DataW H → Nat
  | .lit (.string bytes) => bytes.length + 1
  | .lit _ => 1
  | .nil => 1
  | .ptr d => uptoBulk d + 1
  | .slice elems spare => uptoBulkAll elems + uptoBulkAll spare + 1
  | .agg parts => uptoBulkAll parts + 1
  | .iface _ d => uptoBulk d + 1
  | .map entries => uptoBulkEntries entries + 1
  | .held _ => 1
def uptoBulkAll {H : Type} : List (DataW H) → Nat
  | [] => 0
  | d :: r => uptoBulk d + uptoBulkAll r
def uptoBulkEntries {H : Type} : List (Lit × DataW H) → Nat
  | [] => 0
  | x :: r => uptoBulkEntry x + uptoBulkEntries r
def uptoBulkEntry {H : Type} : Lit × DataW H → Nat
  | (.string bytes, d) => bytes.length + uptoBulk d + 1
  | (_, d) => uptoBulk d + 1
 end
def uptoSmall : (H : Type) → List (DataW H) → Bool := fun _ ds => decide (uptoBulkAll ds ≤ 1048576)
def OpenSpec.upto (s : _root_.Go.ChangeSpec) : _root_.Go.OpenSpec := { _root_.Go.OpenSpec.ofChange s with cond := some uptoSmall }

/-- 'laws.FnExactDepthsOf', WHERE WHAT IT READS IS OF BULK AT MOST 1048576: true; the input reads as it did. -/
def fnExactDepthsOfUptoRow : OpenClaim := { program := "ytlnklcjnjfmknaa", sum := "60c4a32b733aace19b6ecad868b133a6548276bceb52a6aaf9b1b438215c1ecd", func := "loop.example/g01165/laws.FnExactDepthsOf", spec := "fnExactDepthsOf", unfollowed := true, recurses := true, plainKeys := false, apart := false, narrowed := true }
def FnExactDepthsOfUptoSaid : Prop := fnExactDepthsOfUptoRow.holds Try.pinned (OpenSpec.upto fnExactDepthsOfSpec)

/-- 'laws.FnExactDistancesOf', WHERE WHAT IT READS IS OF BULK AT MOST 1048576: true; the input reads as it did. -/
def fnExactDistancesOfUptoRow : OpenClaim := { program := "ytlnklcjnjfmknaa", sum := "60c4a32b733aace19b6ecad868b133a6548276bceb52a6aaf9b1b438215c1ecd", func := "loop.example/g01165/laws.FnExactDistancesOf", spec := "fnExactDistancesOf", unfollowed := true, recurses := true, plainKeys := false, apart := false, narrowed := true }
def FnExactDistancesOfUptoSaid : Prop := fnExactDistancesOfUptoRow.holds Try.pinned (OpenSpec.upto fnExactDistancesOfSpec)

/-- 'laws.FnExactDiscsOf', WHERE WHAT IT READS IS OF BULK AT MOST 1048576: true; the input reads as it did. -/
def fnExactDiscsOfUptoRow : OpenClaim := { program := "ytlnklcjnjfmknaa", sum := "60c4a32b733aace19b6ecad868b133a6548276bceb52a6aaf9b1b438215c1ecd", func := "loop.example/g01165/laws.FnExactDiscsOf", spec := "fnExactDiscsOf", unfollowed := true, recurses := true, plainKeys := false, apart := false, narrowed := true }
def FnExactDiscsOfUptoSaid : Prop := fnExactDiscsOfUptoRow.holds Try.pinned (OpenSpec.upto fnExactDiscsOfSpec)

/-- 'laws.FnExactFewDiscs', WHERE WHAT IT READS IS OF BULK AT MOST 1048576: true; the input reads as it did. -/
def fnExactFewDiscsUptoRow : OpenClaim := { program := "ytlnklcjnjfmknaa", sum := "60c4a32b733aace19b6ecad868b133a6548276bceb52a6aaf9b1b438215c1ecd", func := "loop.example/g01165/laws.FnExactFewDiscs", spec := "fnExactFewDiscs", unfollowed := true, recurses := true, plainKeys := false, apart := false, narrowed := true }
def FnExactFewDiscsUptoSaid : Prop := fnExactFewDiscsUptoRow.holds Try.pinned (OpenSpec.upto fnExactFewDiscsSpec)

/-- 'laws.FnExactEndsOf', WHERE WHAT IT READS IS OF BULK AT MOST 1048576: true; the input reads as it did. -/
def fnExactEndsOfUptoRow : OpenClaim := { program := "ytlnklcjnjfmknaa", sum := "60c4a32b733aace19b6ecad868b133a6548276bceb52a6aaf9b1b438215c1ecd", func := "loop.example/g01165/laws.FnExactEndsOf", spec := "fnExactEndsOf", unfollowed := true, recurses := true, plainKeys := false, apart := false, narrowed := true }
def FnExactEndsOfUptoSaid : Prop := fnExactEndsOfUptoRow.holds Try.pinned (OpenSpec.upto fnExactEndsOfSpec)

/-- 'laws.FnExactReconstructPicture', WHERE WHAT IT READS IS OF BULK AT MOST 1048576: true; the input reads as it did. -/
def fnExactReconstructPictureUptoRow : OpenClaim := { program := "ytlnklcjnjfmknaa", sum := "60c4a32b733aace19b6ecad868b133a6548276bceb52a6aaf9b1b438215c1ecd", func := "loop.example/g01165/laws.FnExactReconstructPicture", spec := "fnExactReconstructPicture", unfollowed := true, recurses := true, plainKeys := false, apart := false, narrowed := true }
def FnExactReconstructPictureUptoSaid : Prop := fnExactReconstructPictureUptoRow.holds Try.pinned (OpenSpec.upto fnExactReconstructPictureSpec)

/-- 'laws.FnExactFillHoles', WHERE WHAT IT READS IS OF BULK AT MOST 1048576: true; the input reads as it did. -/
def fnExactFillHolesUptoRow : OpenClaim := { program := "ytlnklcjnjfmknaa", sum := "60c4a32b733aace19b6ecad868b133a6548276bceb52a6aaf9b1b438215c1ecd", func := "loop.example/g01165/laws.FnExactFillHoles", spec := "fnExactFillHoles", unfollowed := true, recurses := true, plainKeys := false, apart := false, narrowed := true }
def FnExactFillHolesUptoSaid : Prop := fnExactFillHolesUptoRow.holds Try.pinned (OpenSpec.upto fnExactFillHolesSpec)

/-- 'laws.FnExactCountHoles', WHERE WHAT IT READS IS OF BULK AT MOST 1048576: true; the input reads as it did. -/
def fnExactCountHolesUptoRow : OpenClaim := { program := "ytlnklcjnjfmknaa", sum := "60c4a32b733aace19b6ecad868b133a6548276bceb52a6aaf9b1b438215c1ecd", func := "loop.example/g01165/laws.FnExactCountHoles", spec := "fnExactCountHoles", unfollowed := true, recurses := true, plainKeys := false, apart := false, narrowed := true }
def FnExactCountHolesUptoSaid : Prop := fnExactCountHolesUptoRow.holds Try.pinned (OpenSpec.upto fnExactCountHolesSpec)

/-- 'laws.FnExactEulerNumber', WHERE WHAT IT READS IS OF BULK AT MOST 1048576: true; the input reads as it did. -/
def fnExactEulerNumberUptoRow : OpenClaim := { program := "ytlnklcjnjfmknaa", sum := "60c4a32b733aace19b6ecad868b133a6548276bceb52a6aaf9b1b438215c1ecd", func := "loop.example/g01165/laws.FnExactEulerNumber", spec := "fnExactEulerNumber", unfollowed := true, recurses := true, plainKeys := false, apart := false, narrowed := true }
def FnExactEulerNumberUptoSaid : Prop := fnExactEulerNumberUptoRow.holds Try.pinned (OpenSpec.upto fnExactEulerNumberSpec)

/-- 'laws.FnExactAreasOf', WHERE WHAT IT READS IS OF BULK AT MOST 1048576: true; the input reads as it did. -/
def fnExactAreasOfUptoRow : OpenClaim := { program := "ytlnklcjnjfmknaa", sum := "60c4a32b733aace19b6ecad868b133a6548276bceb52a6aaf9b1b438215c1ecd", func := "loop.example/g01165/laws.FnExactAreasOf", spec := "fnExactAreasOf", unfollowed := true, recurses := true, plainKeys := false, apart := false, narrowed := true }
def FnExactAreasOfUptoSaid : Prop := fnExactAreasOfUptoRow.holds Try.pinned (OpenSpec.upto fnExactAreasOfSpec)

/-- 'laws.FnExactComponentsOf', WHERE WHAT IT READS IS OF BULK AT MOST 1048576: true; the input reads as it did. -/
def fnExactComponentsOfUptoRow : OpenClaim := { program := "ytlnklcjnjfmknaa", sum := "60c4a32b733aace19b6ecad868b133a6548276bceb52a6aaf9b1b438215c1ecd", func := "loop.example/g01165/laws.FnExactComponentsOf", spec := "fnExactComponentsOf", unfollowed := true, recurses := true, plainKeys := false, apart := false, narrowed := true }
def FnExactComponentsOfUptoSaid : Prop := fnExactComponentsOfUptoRow.holds Try.pinned (OpenSpec.upto fnExactComponentsOfSpec)

/-- 'laws.FnExactKeepComponents', WHERE WHAT IT READS IS OF BULK AT MOST 1048576: true; the input reads as it did. -/
def fnExactKeepComponentsUptoRow : OpenClaim := { program := "ytlnklcjnjfmknaa", sum := "60c4a32b733aace19b6ecad868b133a6548276bceb52a6aaf9b1b438215c1ecd", func := "loop.example/g01165/laws.FnExactKeepComponents", spec := "fnExactKeepComponents", unfollowed := true, recurses := true, plainKeys := false, apart := false, narrowed := true }
def FnExactKeepComponentsUptoSaid : Prop := fnExactKeepComponentsUptoRow.holds Try.pinned (OpenSpec.upto fnExactKeepComponentsSpec)

end Rows
end Go.Proofs.Ytlnklcjnjfmknaa
