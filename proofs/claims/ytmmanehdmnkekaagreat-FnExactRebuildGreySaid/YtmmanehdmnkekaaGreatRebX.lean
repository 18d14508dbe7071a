/- FnExactRebuildGrey: for every tree of a grey picture the program returns what the reference returns; no condition. -/
import Derived.Test.YtmmanehdmnkekaaGreatRows
import Derived.Test.YtmmanehdmnkekaaGreatRebW
import Derived.Test.YtmmanehdmnkekaaGreatRebS
import Derived.Test.YtmmanehdmnkekaaGreatLTg
import Derived.Test.YtmmanehdmnkekaaGreatLaws
import Derived.Test.YtmmanehdmnkekaaGreatPrgF
import Derived.WalkKit
import Derived.ProofKit
import Derived.OpenShut
import Derived.ShutString
import Derived.ChangeOld
import Derived.Below
import Derived.Lib.SmallJoins
namespace Go.Proofs.YtmmanehdmnkekaaGreat.exactRebuild
open Go.ChangeShapes Go.WideShapes Go.ChangeAt Go.RowKit Go.Joins
open Go.ChangeMaps (open_string shut_string)
theorem all (a0w a0x a0y a0z : Option Addr) (c0w c0x c0y c0z : Nat) (A0 : Nat → Option Addr) (C0 : Nat → Nat) (m0 : GT) (w : World) (hm0 : RowG w a0w a0x a0y a0z A0 C0 m0) (hl0 : GtLen m0) :
    Calls Tryz.prog 4 #[.agg #[.slice a0w m0.1.length c0w, .slice a0x m0.2.1.length c0x, .slice a0y m0.2.2.1.length c0y, .slice a0z m0.2.2.2.length c0z]] w fun e w' => e = .returned (.bool true) ∧ w.Ext w' :=
  exactRebuildGreyWalk a0w a0x a0y a0z c0w c0x c0y c0z A0 C0 m0 _ _ (fun b a1 a2 a3 a4 c1 c2 c3 c4 A C w h => specRebuildGrey_any a1 a2 a3 a4 c1 c2 c3 c4 A C m0 w b h) (fun b a1 a2 a3 a4 c1 c2 c3 c4 A C w h => implRebuildGrey_any a1 a2 a3 a4 c1 c2 c3 c4 A C m0 w b h) (fun _ => reb_bnd m0) w hm0 hl0
theorem own : ownKnob Tryz.prog.godebug = none := by kernel_rfl
theorem laidOut : laidOutB Tryz.prog = true := by kernel_rfl
set_option maxRecDepth 100000 in
theorem lifted (os : Os) (started : os.Started) (H : Type) (enc : TypeId × Value → H) :
    ReturnsInHanded {} Tryz.checked os 4 .any (Rows.fnExactRebuildGreySpec.pre6 enc Tryz.prog Tryz.f4 Rows.fnExactRebuildGreyRow.domain false) (Rows.fnExactRebuildGreySpec.post enc Tryz.prog Tryz.f4 false true false false) := by
  refine returnsInHanded_of_change (C := Tryz.checked) own started (by kernel_rfl) Tryz.func4
    (ChangeSpec.witness6 (enc := enc) (C := Tryz.checked) false ⟨#[], #[.agg #[.slice none 0 0, .slice none 0 0, .slice none 0 0, .slice none 0 0]], []⟩ 8 (by kernel_rfl) (by kernel_rfl) (by kernel_rfl) (by kernel_rfl)) ?_
  intro W base args ds gs before hval0 hW hcnd _
  have hval : ∀ (j : Nat) t v, Tryz.f4.params[j]? = some t → args[j]? = some v → Value.okWide Tryz.prog W .any base t v := hval0
  have hW' := hW
  obtain ⟨p, q, hA0, hV, rfl, hfz, hnd⟩ := hW
  have hA : DataW.TrodAll enc Tryz.prog W 0 (fun _ => true) true Tryz.f4.params.toList args.toList ds p := hA0
  rw [Tryz.params4] at hA hval
  obtain ⟨v0, vs0, d0, ds0, p0, q0, hargs, rfl, rfl, h0, r0⟩ := trodAll_cons hA
  obtain ⟨rfl, rfl, rfl⟩ := trodAll_nil r0
  obtain rfl : args = #[v0] := by cases args; simp_all
  obtain ⟨rfl, rfl⟩ := trodVars_none hV
  have k0 := h0
  have lt0 : ∀ x ∈ p0, x.block < W.heap.size := by obtain ⟨m, hm⟩ := k0; exact DataW.trod_lt m _ _ _ hm
  obtain ⟨f0w, f0x, f0y, f0z, y0w, y0x, y0y, y0z, m0, rfl, rfl, rfl, hy0w, hy0x, hy0y, hy0z⟩ := open_agg4 Tryz.underlying40 (by kernel_rfl) (by kernel_rfl : Tryz.prog.cellsOf 40 = 4) (hval 0 40 v0 rfl rfl) h0
  obtain ⟨a0w, c0w, z0w, rfl, w0w, n0w⟩ := open_intl Tryz.underlying38 Tryz.underlying2 (by kernel_rfl) hy0w
  obtain ⟨a0x, c0x, z0x, rfl, w0x, n0x⟩ := open_intl Tryz.underlying38 Tryz.underlying2 (by kernel_rfl) hy0x
  obtain ⟨a0y, c0y, z0y, rfl, w0y, n0y⟩ := open_intl Tryz.underlying38 Tryz.underlying2 (by kernel_rfl) hy0y
  obtain ⟨a0z, c0z, A0, C0, z0z, rfl, w0z, n0z, rr0⟩ := open_rows Tryz.underlying22 Tryz.underlying38 Tryz.underlying2 (by kernel_rfl) (by kernel_rfl) hy0z
  clear hA0 hval0
  refine (all a0w a0x a0y a0z c0w c0x c0y c0z A0 C0 (z0w, z0x, z0y, z0z) W ⟨w0w, w0x, w0y, w0z⟩ ⟨n0w, n0x, n0y, ⟨n0z, rr0⟩⟩).mono fun e W' ⟨he, bel0⟩ => ?_
  have bel := bel0.below
  subst he
  exact ⟨_, rfl, _, _, _, [], _, [], hW', trodAll_mk1 (shut_bool Tryz.underlying4 _), (trodAll_cons_mk (Below.trod laidOut (by kernel_rfl) (of_decide_eq_true (by kernel_rfl)) k0 bel lt0) trodAll_mk0), rfl, bel.frame _, fun h => by cases h⟩

set_option maxHeartbeats 20000000 in
set_option maxRecDepth 100000 in
theorem joined : joinedFacts Tryz.prog 4 Tryz.f4 Rows.fnExactRebuildGreySpec Rows.fnExactRebuildGreyRow = true := by
  unfold joinedFacts
  refine (bAnd (bAnd (bAnd (bAnd (bAnd (bAnd (bAnd (bAnd (bAnd (bAnd (bAnd (bAnd (bAnd (bAnd (bAnd (bAnd (bAnd (bAnd (bAnd (bAnd (bAnd (bAnd (bAnd (bAnd (bAnd (bAnd (bAnd (bAnd (bAnd (bAnd (bAnd ?_ ?_) ?_) ?_) ?_) ?_) ?_) ?_) ?_) ?_) ?_) ?_) ?_) ?_) ?_) ?_) ?_) ?_) ?_) ?_) ?_) ?_) ?_) ?_) ?_) ?_) ?_) ?_) ?_) ?_) ?_) ?_)
  · as_aux_lemma => kernel_rfl
  · as_aux_lemma => kernel_rfl
  · as_aux_lemma => kernel_rfl
  · as_aux_lemma => kernel_rfl
  · as_aux_lemma => kernel_rfl
  · as_aux_lemma => kernel_rfl
  · exact pStops
  · as_aux_lemma => kernel_rfl
  · exact pKnobs
  · as_aux_lemma => kernel_rfl
  · as_aux_lemma => kernel_rfl
  · as_aux_lemma => kernel_rfl
  · as_aux_lemma => kernel_rfl
  · as_aux_lemma => kernel_rfl
  · as_aux_lemma => kernel_rfl
  · as_aux_lemma => kernel_rfl
  · as_aux_lemma => kernel_rfl
  · as_aux_lemma => kernel_rfl
  · as_aux_lemma => kernel_rfl
  · as_aux_lemma => kernel_rfl
  · as_aux_lemma => kernel_rfl
  · as_aux_lemma => kernel_rfl
  · as_aux_lemma => kernel_rfl
  · as_aux_lemma => kernel_rfl
  · as_aux_lemma => kernel_rfl
  · exact pEnter
  · rw [pLifts]; rfl
  · as_aux_lemma => kernel_rfl
  · as_aux_lemma => kernel_rfl
  · as_aux_lemma => kernel_rfl
  · as_aux_lemma => kernel_rfl
  · as_aux_lemma => kernel_rfl
theorem over : Rows.fnExactRebuildGreyRow.holds Tryz.pinned (OpenSpec.ofChange Rows.fnExactRebuildGreySpec) :=
  OpenClaim.holds_of_wide 4 Tryz.f4 rfl rfl rfl rfl rfl rfl rfl ⟨rfl, rfl, rfl, rfl, rfl⟩ rfl rfl rfl rfl rfl (by kernel_rfl) Tryz.func4 joined
    (of_decide_eq_true (by kernel_rfl)) (by unfold Func.isWrapper; first | (rw [if_pos (by decide +kernel)]; kernel_rfl) | (rw [if_neg (by decide +kernel)]; exact ⟨rfl, rfl⟩))
    (fun os started H enc _ => lifted os started H enc)

theorem proved : Rows.FnExactRebuildGreySaid := over
#print axioms proved
end Go.Proofs.YtmmanehdmnkekaaGreat.exactRebuild
