/-
  No cell of these rows narrows 'for every input' (looked for: loops, veiled, ifaces, maps, wideKeys, modest, calm, conditions, laid).
  DERIVED. THE GIVEN ROWS OF THIS SEAT. 11 by the template 'for every input the law returns true; each argument reads behind the call as it read before'; 0 by the template 'total and deterministic' (their statements: YtldbabigjfkdlaaTotals.lean).
  GIVEN WITH THE SEED: the statements are not yours to turn. If you find one false, say at which input.
  Laid BY PROGRAM, IN A SANDBOX (cutbox-rows.mjs): the forced cells as the released guide's own fill.sh prints them over the translation 4013e98f2e82d46d… (all of the seat's roots in one cut). By AI agents, Wed Nov 11 2026. No macro, syntax, notation, axiom, sorry.
-/
import Derived.Test.YtldbabigjfkdlaaChecked
import GoSem.Claim
import GoSem.ClaimJoined
import GoSem.ClaimMapViews
import Derived.JoinedTies
import Derived.KernelRfl
namespace Go.Proofs.Ytldbabigjfkdlaa
/- THE CELL 'sum', in the pinned program and in every row, IS THE sha256 OF THE DUMP (.gsa) THAT YtldbabigjfkdlaaProg.lean LOADS. Nothing in Lean hashes anything: it is a label: what it is worth is what the hold of that sum in a sandbox is worth. -/
noncomputable def Try.pinned : Pinned := { name := "ytldbabigjfkdlaa", sum := "4013e98f2e82d46d8fb0a2413363029e1f51e9338f6da945d55706be0b7a8da0", checked := Try.checked }
namespace Rows
def none {H : Type} : Left H := { results := [], args := [] }

/-- 'laws.FnTrees': WHATEVER THE INPUT: true; the input reads as it did. -/
def fnTreesSpec : ChangeSpec := { name := "fnTrees", fn := fun _ => fun
  | [d1, d2] => { results := [.lit (.bool true)], args := [d1, d2] }
  | _ => none }
def fnTreesRow : OpenClaim := { program := "ytldbabigjfkdlaa", sum := "4013e98f2e82d46d8fb0a2413363029e1f51e9338f6da945d55706be0b7a8da0", func := "loop.example/g01165/laws.FnTrees", spec := "fnTrees", unfollowed := true, recurses := true, plainKeys := false, apart := false }
def FnTreesSaid : Prop := fnTreesRow.holds Try.pinned (OpenSpec.ofChange fnTreesSpec)

/-- ITS FALSE NEIGHBOUR: 'it returns false'. Refute it at one input. -/
def fnTreesWrong : ChangeSpec := { name := "fnTrees", fn := fun _ => fun
  | [d1, d2] => { results := [.lit (.bool false)], args := [d1, d2] }
  | _ => none }
def FnTreesWrongFalsely : Prop := fnTreesRow.holds Try.pinned (OpenSpec.ofChange fnTreesWrong)

/-- 'laws.FnExactStackPictures': WHATEVER THE INPUT: true; the input reads as it did. -/
def fnExactStackPicturesSpec : ChangeSpec := { name := "fnExactStackPictures", fn := fun _ => fun
  | [d] => { results := [.lit (.bool true)], args := [d] }
  | _ => none }
def fnExactStackPicturesRow : OpenClaim := { program := "ytldbabigjfkdlaa", sum := "4013e98f2e82d46d8fb0a2413363029e1f51e9338f6da945d55706be0b7a8da0", func := "loop.example/g01165/laws.FnExactStackPictures", spec := "fnExactStackPictures", unfollowed := true, recurses := true, plainKeys := false, apart := false }
def FnExactStackPicturesSaid : Prop := fnExactStackPicturesRow.holds Try.pinned (OpenSpec.ofChange fnExactStackPicturesSpec)

/-- ITS FALSE NEIGHBOUR: 'it returns false'. Refute it at one input. -/
def fnExactStackPicturesWrong : ChangeSpec := { name := "fnExactStackPictures", fn := fun _ => fun
  | [d] => { results := [.lit (.bool false)], args := [d] }
  | _ => none }
def FnExactStackPicturesWrongFalsely : Prop := fnExactStackPicturesRow.holds Try.pinned (OpenSpec.ofChange fnExactStackPicturesWrong)

/-- 'laws.FnExactFloodMarks': WHATEVER THE INPUT: true; the input reads as it did. -/
def fnExactFloodMarksSpec : ChangeSpec := { name := "fnExactFloodMarks", fn := fun _ => fun
  | [d1, d2] => { results := [.lit (.bool true)], args := [d1, d2] }
  | _ => none }
def fnExactFloodMarksRow : OpenClaim := { program := "ytldbabigjfkdlaa", sum := "4013e98f2e82d46d8fb0a2413363029e1f51e9338f6da945d55706be0b7a8da0", func := "loop.example/g01165/laws.FnExactFloodMarks", spec := "fnExactFloodMarks", unfollowed := true, recurses := true, plainKeys := false, apart := false }
def FnExactFloodMarksSaid : Prop := fnExactFloodMarksRow.holds Try.pinned (OpenSpec.ofChange fnExactFloodMarksSpec)

/-- ITS FALSE NEIGHBOUR: 'it returns false'. Refute it at one input. -/
def fnExactFloodMarksWrong : ChangeSpec := { name := "fnExactFloodMarks", fn := fun _ => fun
  | [d1, d2] => { results := [.lit (.bool false)], args := [d1, d2] }
  | _ => none }
def FnExactFloodMarksWrongFalsely : Prop := fnExactFloodMarksRow.holds Try.pinned (OpenSpec.ofChange fnExactFloodMarksWrong)

/-- 'laws.FnExactBorderAt': WHATEVER THE INPUT: true; the input reads as it did. -/
def fnExactBorderAtSpec : ChangeSpec := { name := "fnExactBorderAt", fn := fun _ => fun
  | [d1, d2] => { results := [.lit (.bool true)], args := [d1, d2] }
  | _ => none }
def fnExactBorderAtRow : OpenClaim := { program := "ytldbabigjfkdlaa", sum := "4013e98f2e82d46d8fb0a2413363029e1f51e9338f6da945d55706be0b7a8da0", func := "loop.example/g01165/laws.FnExactBorderAt", spec := "fnExactBorderAt", inPlace := ["internal/bytealg.IndexByteString"], unfollowed := true, recurses := true, plainKeys := false, apart := false }
def FnExactBorderAtSaid : Prop := fnExactBorderAtRow.holds Try.pinned (OpenSpec.ofChange fnExactBorderAtSpec)

/-- ITS FALSE NEIGHBOUR: 'it returns false'. Refute it at one input. -/
def fnExactBorderAtWrong : ChangeSpec := { name := "fnExactBorderAt", fn := fun _ => fun
  | [d1, d2] => { results := [.lit (.bool false)], args := [d1, d2] }
  | _ => none }
def FnExactBorderAtWrongFalsely : Prop := fnExactBorderAtRow.holds Try.pinned (OpenSpec.ofChange fnExactBorderAtWrong)

/-- 'laws.FnDiscs': WHATEVER THE INPUT: true; the input reads as it did. -/
def fnDiscsSpec : ChangeSpec := { name := "fnDiscs", fn := fun _ => fun
  | [d1, d2] => { results := [.lit (.bool true)], args := [d1, d2] }
  | _ => none }
def fnDiscsRow : OpenClaim := { program := "ytldbabigjfkdlaa", sum := "4013e98f2e82d46d8fb0a2413363029e1f51e9338f6da945d55706be0b7a8da0", func := "loop.example/g01165/laws.FnDiscs", spec := "fnDiscs", unfollowed := true, recurses := true, plainKeys := false, apart := false }
def FnDiscsSaid : Prop := fnDiscsRow.holds Try.pinned (OpenSpec.ofChange fnDiscsSpec)

/-- ITS FALSE NEIGHBOUR: 'it returns false'. Refute it at one input. -/
def fnDiscsWrong : ChangeSpec := { name := "fnDiscs", fn := fun _ => fun
  | [d1, d2] => { results := [.lit (.bool false)], args := [d1, d2] }
  | _ => none }
def FnDiscsWrongFalsely : Prop := fnDiscsRow.holds Try.pinned (OpenSpec.ofChange fnDiscsWrong)

/-- 'laws.FnExactBordersOf': WHATEVER THE INPUT: true; the input reads as it did. -/
def fnExactBordersOfSpec : ChangeSpec := { name := "fnExactBordersOf", fn := fun _ => fun
  | [d] => { results := [.lit (.bool true)], args := [d] }
  | _ => none }
def fnExactBordersOfRow : OpenClaim := { program := "ytldbabigjfkdlaa", sum := "4013e98f2e82d46d8fb0a2413363029e1f51e9338f6da945d55706be0b7a8da0", func := "loop.example/g01165/laws.FnExactBordersOf", spec := "fnExactBordersOf", unfollowed := true, recurses := true, plainKeys := false, apart := false }
def FnExactBordersOfSaid : Prop := fnExactBordersOfRow.holds Try.pinned (OpenSpec.ofChange fnExactBordersOfSpec)

/-- ITS FALSE NEIGHBOUR: 'it returns false'. Refute it at one input. -/
def fnExactBordersOfWrong : ChangeSpec := { name := "fnExactBordersOf", fn := fun _ => fun
  | [d] => { results := [.lit (.bool false)], args := [d] }
  | _ => none }
def FnExactBordersOfWrongFalsely : Prop := fnExactBordersOfRow.holds Try.pinned (OpenSpec.ofChange fnExactBordersOfWrong)

/-- 'laws.FnExactDiscsOf': WHATEVER THE INPUT: true; the input reads as it did. -/
def fnExactDiscsOfSpec : ChangeSpec := { name := "fnExactDiscsOf", fn := fun _ => fun
  | [d1, d2] => { results := [.lit (.bool true)], args := [d1, d2] }
  | _ => none }
def fnExactDiscsOfRow : OpenClaim := { program := "ytldbabigjfkdlaa", sum := "4013e98f2e82d46d8fb0a2413363029e1f51e9338f6da945d55706be0b7a8da0", func := "loop.example/g01165/laws.FnExactDiscsOf", spec := "fnExactDiscsOf", unfollowed := true, recurses := true, plainKeys := false, apart := false }
def FnExactDiscsOfSaid : Prop := fnExactDiscsOfRow.holds Try.pinned (OpenSpec.ofChange fnExactDiscsOfSpec)

/-- ITS FALSE NEIGHBOUR: 'it returns false'. Refute it at one input. -/
def fnExactDiscsOfWrong : ChangeSpec := { name := "fnExactDiscsOf", fn := fun _ => fun
  | [d1, d2] => { results := [.lit (.bool false)], args := [d1, d2] }
  | _ => none }
def FnExactDiscsOfWrongFalsely : Prop := fnExactDiscsOfRow.holds Try.pinned (OpenSpec.ofChange fnExactDiscsOfWrong)

/-- 'laws.FnBorders': WHATEVER THE INPUT: true; the input reads as it did. -/
def fnBordersSpec : ChangeSpec := { name := "fnBorders", fn := fun _ => fun
  | [d1, d2] => { results := [.lit (.bool true)], args := [d1, d2] }
  | _ => none }
def fnBordersRow : OpenClaim := { program := "ytldbabigjfkdlaa", sum := "4013e98f2e82d46d8fb0a2413363029e1f51e9338f6da945d55706be0b7a8da0", func := "loop.example/g01165/laws.FnBorders", spec := "fnBorders", inPlace := ["internal/bytealg.IndexByteString"], unfollowed := true, recurses := true, plainKeys := false, apart := false }
def FnBordersSaid : Prop := fnBordersRow.holds Try.pinned (OpenSpec.ofChange fnBordersSpec)

/-- ITS FALSE NEIGHBOUR: 'it returns false'. Refute it at one input. -/
def fnBordersWrong : ChangeSpec := { name := "fnBorders", fn := fun _ => fun
  | [d1, d2] => { results := [.lit (.bool false)], args := [d1, d2] }
  | _ => none }
def FnBordersWrongFalsely : Prop := fnBordersRow.holds Try.pinned (OpenSpec.ofChange fnBordersWrong)

/-- 'laws.FnExactFewDiscs': WHATEVER THE INPUT: true; the input reads as it did. -/
def fnExactFewDiscsSpec : ChangeSpec := { name := "fnExactFewDiscs", fn := fun _ => fun
  | [d1, d2] => { results := [.lit (.bool true)], args := [d1, d2] }
  | _ => none }
def fnExactFewDiscsRow : OpenClaim := { program := "ytldbabigjfkdlaa", sum := "4013e98f2e82d46d8fb0a2413363029e1f51e9338f6da945d55706be0b7a8da0", func := "loop.example/g01165/laws.FnExactFewDiscs", spec := "fnExactFewDiscs", unfollowed := true, recurses := true, plainKeys := false, apart := false }
def FnExactFewDiscsSaid : Prop := fnExactFewDiscsRow.holds Try.pinned (OpenSpec.ofChange fnExactFewDiscsSpec)

/-- ITS FALSE NEIGHBOUR: 'it returns false'. Refute it at one input. -/
def fnExactFewDiscsWrong : ChangeSpec := { name := "fnExactFewDiscs", fn := fun _ => fun
  | [d1, d2] => { results := [.lit (.bool false)], args := [d1, d2] }
  | _ => none }
def FnExactFewDiscsWrongFalsely : Prop := fnExactFewDiscsRow.holds Try.pinned (OpenSpec.ofChange fnExactFewDiscsWrong)

/-- 'laws.FnEuler': WHATEVER THE INPUT: true; the input reads as it did. -/
def fnEulerSpec : ChangeSpec := { name := "fnEuler", fn := fun _ => fun
  | [d1, d2] => { results := [.lit (.bool true)], args := [d1, d2] }
  | _ => none }
def fnEulerRow : OpenClaim := { program := "ytldbabigjfkdlaa", sum := "4013e98f2e82d46d8fb0a2413363029e1f51e9338f6da945d55706be0b7a8da0", func := "loop.example/g01165/laws.FnEuler", spec := "fnEuler", unfollowed := true, recurses := true, plainKeys := false, apart := false }
def FnEulerSaid : Prop := fnEulerRow.holds Try.pinned (OpenSpec.ofChange fnEulerSpec)

/-- ITS FALSE NEIGHBOUR: 'it returns false'. Refute it at one input. -/
def fnEulerWrong : ChangeSpec := { name := "fnEuler", fn := fun _ => fun
  | [d1, d2] => { results := [.lit (.bool false)], args := [d1, d2] }
  | _ => none }
def FnEulerWrongFalsely : Prop := fnEulerRow.holds Try.pinned (OpenSpec.ofChange fnEulerWrong)

/-- 'laws.FnExactPictureOfBorders': WHATEVER THE INPUT: true; the input reads as it did. -/
def fnExactPictureOfBordersSpec : ChangeSpec := { name := "fnExactPictureOfBorders", fn := fun _ => fun
  | [d1, d2, d3] => { results := [.lit (.bool true)], args := [d1, d2, d3] }
  | _ => none }
def fnExactPictureOfBordersRow : OpenClaim := { program := "ytldbabigjfkdlaa", sum := "4013e98f2e82d46d8fb0a2413363029e1f51e9338f6da945d55706be0b7a8da0", func := "loop.example/g01165/laws.FnExactPictureOfBorders", spec := "fnExactPictureOfBorders", inPlace := ["internal/bytealg.IndexByteString"], unfollowed := true, recurses := true, plainKeys := false, apart := false }
def FnExactPictureOfBordersSaid : Prop := fnExactPictureOfBordersRow.holds Try.pinned (OpenSpec.ofChange fnExactPictureOfBordersSpec)

/-- ITS FALSE NEIGHBOUR: 'it returns false'. Refute it at one input. -/
def fnExactPictureOfBordersWrong : ChangeSpec := { name := "fnExactPictureOfBorders", fn := fun _ => fun
  | [d1, d2, d3] => { results := [.lit (.bool false)], args := [d1, d2, d3] }
  | _ => none }
def FnExactPictureOfBordersWrongFalsely : Prop := fnExactPictureOfBordersRow.holds Try.pinned (OpenSpec.ofChange fnExactPictureOfBordersWrong)

/- THE SECOND FORM. 'bulk': how many values and letters a reading holds, each counted each time it is reached (what is shared counts as often as it is met; a slice's spare places count too). A statement '..UptoSaid' is the law's where the arguments, and the package variables that the reading takes, are together of bulk at most 1048576: NARROWER than '..Said'. Prove '..Said' where nothing that the law and all that it calls make is longer than what came in: it says more and counts as full. Else prove '..UptoSaid'. A law counts once. -/
mutual
def uptoBulk {H : Type} : DataW H → Nat
  | .lit (.string bytes) => bytes.length + 1
  | .lit _ => 1
  | .nil => 1
  | .ptr d => uptoBulk d + 1
  | .slice elems spare => uptoBulkAll elems + uptoBulkAll spare + 1
  | .agg parts => uptoBulkAll parts + 1
  | .iface _ d => uptoBulk d + 1
  | .map entries => uptoBulkEntries entries + 1
  | .held _ => 1
def uptoBulkAll {H : Type} : List (DataW H) → Nat
  | [] => 0
  | d :: r => uptoBulk d + uptoBulkAll r
def uptoBulkEntries {H : Type} : List (Lit × DataW H) → Nat
  | [] => 0
  | x :: r => uptoBulkEntry x + uptoBulkEntries r
def uptoBulkEntry {H : Type} : Lit × DataW H → Nat
  | (.string bytes, d) => bytes.length + uptoBulk d + 1
  | (_, d) => uptoBulk d + 1
 end
def uptoSmall : (H : Type) → List (DataW H) → Bool := fun _ ds => decide (uptoBulkAll ds ≤ 1048576)
def OpenSpec.upto (s : _root_.Go.ChangeSpec) : _root_.Go.OpenSpec := { _root_.Go.OpenSpec.ofChange s with cond := some uptoSmall }

/-- 'laws.FnTrees', WHERE WHAT IT READS IS OF BULK AT MOST 1048576: true; the input reads as it did. -/
def fnTreesUptoRow : OpenClaim := { program := "ytldbabigjfkdlaa", sum := "4013e98f2e82d46d8fb0a2413363029e1f51e9338f6da945d55706be0b7a8da0", func := "loop.example/g01165/laws.FnTrees", spec := "fnTrees", unfollowed := true, recurses := true, plainKeys := false, apart := false, narrowed := true }
def FnTreesUptoSaid : Prop := fnTreesUptoRow.holds Try.pinned (OpenSpec.upto fnTreesSpec)

/-- 'laws.FnExactStackPictures', WHERE WHAT IT READS IS OF BULK AT MOST 1048576: true; the input reads as it did. -/
def fnExactStackPicturesUptoRow : OpenClaim := { program := "ytldbabigjfkdlaa", sum := "4013e98f2e82d46d8fb0a2413363029e1f51e9338f6da945d55706be0b7a8da0", func := "loop.example/g01165/laws.FnExactStackPictures", spec := "fnExactStackPictures", unfollowed := true, recurses := true, plainKeys := false, apart := false, narrowed := true }
def FnExactStackPicturesUptoSaid : Prop := fnExactStackPicturesUptoRow.holds Try.pinned (OpenSpec.upto fnExactStackPicturesSpec)

/-- 'laws.FnExactFloodMarks', WHERE WHAT IT READS IS OF BULK AT MOST 1048576: true; the input reads as it did. -/
def fnExactFloodMarksUptoRow : OpenClaim := { program := "ytldbabigjfkdlaa", sum := "4013e98f2e82d46d8fb0a2413363029e1f51e9338f6da945d55706be0b7a8da0", func := "loop.example/g01165/laws.FnExactFloodMarks", spec := "fnExactFloodMarks", unfollowed := true, recurses := true, plainKeys := false, apart := false, narrowed := true }
def FnExactFloodMarksUptoSaid : Prop := fnExactFloodMarksUptoRow.holds Try.pinned (OpenSpec.upto fnExactFloodMarksSpec)

/-- 'laws.FnExactBorderAt', WHERE WHAT IT READS IS OF BULK AT MOST 1048576: true; the input reads as it did. -/
def fnExactBorderAtUptoRow : OpenClaim := { program := "ytldbabigjfkdlaa", sum := "4013e98f2e82d46d8fb0a2413363029e1f51e9338f6da945d55706be0b7a8da0", func := "loop.example/g01165/laws.FnExactBorderAt", spec := "fnExactBorderAt", inPlace := ["internal/bytealg.IndexByteString"], unfollowed := true, recurses := true, plainKeys := false, apart := false, narrowed := true }
def FnExactBorderAtUptoSaid : Prop := fnExactBorderAtUptoRow.holds Try.pinned (OpenSpec.upto fnExactBorderAtSpec)

/-- 'laws.FnDiscs', WHERE WHAT IT READS IS OF BULK AT MOST 1048576: true; the input reads as it did. -/
def fnDiscsUptoRow : OpenClaim := { program := "ytldbabigjfkdlaa", sum := "4013e98f2e82d46d8fb0a2413363029e1f51e9338f6da945d55706be0b7a8da0", func := "loop.example/g01165/laws.FnDiscs", spec := "fnDiscs", unfollowed := true, recurses := true, plainKeys := false, apart := false, narrowed := true }
def FnDiscsUptoSaid : Prop := fnDiscsUptoRow.holds Try.pinned (OpenSpec.upto fnDiscsSpec)

/-- 'laws.FnExactBordersOf', WHERE WHAT IT READS IS OF BULK AT MOST 1048576: true; the input reads as it did. -/
def fnExactBordersOfUptoRow : OpenClaim := { program := "ytldbabigjfkdlaa", sum := "4013e98f2e82d46d8fb0a2413363029e1f51e9338f6da945d55706be0b7a8da0", func := "loop.example/g01165/laws.FnExactBordersOf", spec := "fnExactBordersOf", unfollowed := true, recurses := true, plainKeys := false, apart := false, narrowed := true }
def FnExactBordersOfUptoSaid : Prop := fnExactBordersOfUptoRow.holds Try.pinned (OpenSpec.upto fnExactBordersOfSpec)

/-- 'laws.FnExactDiscsOf', WHERE WHAT IT READS IS OF BULK AT MOST 1048576: true; the input reads as it did. -/
def fnExactDiscsOfUptoRow : OpenClaim := { program := "ytldbabigjfkdlaa", sum := "4013e98f2e82d46d8fb0a2413363029e1f51e9338f6da945d55706be0b7a8da0", func := "loop.example/g01165/laws.FnExactDiscsOf", spec := "fnExactDiscsOf", unfollowed := true, recurses := true, plainKeys := false, apart := false, narrowed := true }
def FnExactDiscsOfUptoSaid : Prop := fnExactDiscsOfUptoRow.holds Try.pinned (OpenSpec.upto fnExactDiscsOfSpec)

/-- 'laws.FnBorders', WHERE WHAT IT READS IS OF BULK AT MOST 1048576: true; the input reads as it did. -/
def fnBordersUptoRow : OpenClaim := { program := "ytldbabigjfkdlaa", sum := "4013e98f2e82d46d8fb0a2413363029e1f51e9338f6da945d55706be0b7a8da0", func := "loop.example/g01165/laws.FnBorders", spec := "fnBorders", inPlace := ["internal/bytealg.IndexByteString"], unfollowed := true, recurses := true, plainKeys := false, apart := false, narrowed := true }
def FnBordersUptoSaid : Prop := fnBordersUptoRow.holds Try.pinned (OpenSpec.upto fnBordersSpec)

/-- 'laws.FnExactFewDiscs', WHERE WHAT IT READS IS OF BULK AT MOST 1048576: true; the input reads as it did. -/
def fnExactFewDiscsUptoRow : OpenClaim := { program := "ytldbabigjfkdlaa", sum := "4013e98f2e82d46d8fb0a2413363029e1f51e9338f6da945d55706be0b7a8da0", func := "loop.example/g01165/laws.FnExactFewDiscs", spec := "fnExactFewDiscs", unfollowed := true, recurses := true, plainKeys := false, apart := false, narrowed := true }
def FnExactFewDiscsUptoSaid : Prop := fnExactFewDiscsUptoRow.holds Try.pinned (OpenSpec.upto fnExactFewDiscsSpec)

/-- 'laws.FnEuler', WHERE WHAT IT READS IS OF BULK AT MOST 1048576: true; the input reads as it did. -/
def fnEulerUptoRow : OpenClaim := { program := "ytldbabigjfkdlaa", sum := "4013e98f2e82d46d8fb0a2413363029e1f51e9338f6da945d55706be0b7a8da0", func := "loop.example/g01165/laws.FnEuler", spec := "fnEuler", unfollowed := true, recurses := true, plainKeys := false, apart := false, narrowed := true }
def FnEulerUptoSaid : Prop := fnEulerUptoRow.holds Try.pinned (OpenSpec.upto fnEulerSpec)

/-- 'laws.FnExactPictureOfBorders', WHERE WHAT IT READS IS OF BULK AT MOST 1048576: true; the input reads as it did. -/
def fnExactPictureOfBordersUptoRow : OpenClaim := { program := "ytldbabigjfkdlaa", sum := "4013e98f2e82d46d8fb0a2413363029e1f51e9338f6da945d55706be0b7a8da0", func := "loop.example/g01165/laws.FnExactPictureOfBorders", spec := "fnExactPictureOfBorders", inPlace := ["internal/bytealg.IndexByteString"], unfollowed := true, recurses := true, plainKeys := false, apart := false, narrowed := true }
def FnExactPictureOfBordersUptoSaid : Prop := fnExactPictureOfBordersUptoRow.holds Try.pinned (OpenSpec.upto fnExactPictureOfBordersSpec)

end Rows
end Go.Proofs.Ytldbabigjfkdlaa
