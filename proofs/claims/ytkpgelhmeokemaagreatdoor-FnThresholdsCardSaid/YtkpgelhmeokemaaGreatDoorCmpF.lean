/- ComponentsOf and KeepComponents, both sides. -/
import Derived.Test.YtkpgelhmeokemaaGreatDoorAreF
import Derived.Test.YtkpgelhmeokemaaGreatDoorHolF
namespace Go.Proofs.YtkpgelhmeokemaaGreatDoor
open Go Go.RowKit
set_option maxHeartbeats 800000 in
theorem l00Own_any (b o c : Nat) (xs : List Int) (w : World) (hn : xs.length ≤ 65536) (hr : RowI w (some ⟨b, o, none⟩) xs) :
    Calls Tryz.prog 58 #[.slice (some ⟨b, o, none⟩) xs.length c] w fun e w' => ∃ v, e = .returned v ∧ w.Ext w' ∧ GrowOf (Value.int .i64) w.heap.size 2 w' v xs := by
  obtain ⟨i0, hi, hz0, hz1, hz2⟩ := info_parts Tryz.infoI64
  obtain ⟨W0, hW0⟩ : ∃ W0, W0 = w.alloc (.cells #[] 2) := ⟨_, rfl⟩
  have hx0 : w.Ext W0 := by rw [hW0]; repeat (first | exact World.Ext.refl _ | exact ⟨_, rfl⟩ | assumption | refine World.Ext.over ?_ _ | refine World.Ext.drewN ?_ _ | refine World.Ext.drew ?_ | refine World.Ext.alloc ?_ _ | refine World.Ext.setCell ?_ (by simp) _)
  have hg0 : GrowOf (Value.int .i64) w.heap.size 2 W0 (.slice (some ⟨w.heap.size, 0, none⟩) 0 0) ([] : List Int) := by rw [hW0]; exact GrowOf.empty _ (Nat.le_refl _)
  have HNEWS := Lib.hid (RowOf.news (RowOf.ext hr hx0))
  have HLQ : Hid ((xs.map (Value.int .i64)).length = xs.length * 1) := by show _ = _; simp
  have HB1 : Hid (0 + xs.length ≤ maxLen) := by show _ ≤ _; unfold maxLen; omega
  have HB2 : Hid ((0 + xs.length) * 8 ≤ 140737488355328) := by show _ ≤ _; omega
  have HLE := Lib.hid hx0.size
  have HNEXT : Hid (∀ (v' : Value) (w1 : World), W0.grownBy w1 (Value.ownBlock (.slice (some ⟨w.heap.size, 0, none⟩) 0 0)) → w1.ownsRow w.heap.size 2 1 v' (0 + xs.length) (([] : List Int).map (Value.int .i64) ++ xs.map (Value.int .i64)) → Hid (w.Ext w1 ∧ GrowOf (Value.int .i64) w.heap.size 2 w1 v' xs)) := fun v' w1 hgrow hown => by
    refine ⟨hg0.pushesExt hx0 hgrow, ?_⟩
    have := GrowOf.pushes (xs := ([] : List Int)) hown
    simpa using this
  have hown := hg0
  unfold GrowOf at hown
  clear hr hn hg0 hx0
  go_enter Tryz.func58, Tryz.ntmps58
  go_wp2_with (at_builtin; rw [← hW0]; refine wpList_append_own _ rfl _ _ 57 rfl w.heap.size 2 i0 (.int .i64 0) 1 8 Tryz.underlying57 hi hz0 hz1 hz2 rfl (by decide) _ _ _ rfl hown ⟨b, o, none⟩ xs.length _ (xs.map (Value.int .i64)) rfl HLQ.out HNEWS.out (by intro u hu; obtain ⟨z, _, rfl⟩ := List.mem_map.1 hu; rfl) HB1.out HB2.out HLE.out (fun v' w1 hown' hgrow _ => ?_); have HR := HNEXT.out _ _ hgrow hown'; clear hown' hgrow hown)
  go_ret
  exact ⟨_, rfl, HR.out⟩
def CmpRet (w : World) (m : List (List Int)) (n : Int) (ok : Bool) (e : Ending) (w' : World) : Prop := ∃ a c A C, e = .returned (.tuple #[.slice a m.length c, .int .i64 n, .bool ok]) ∧ w.Ext w' ∧ OwnMat w.heap.size w'.heap.size w' a A C m
theorem CmpRet.no {w w' : World} (hx : w.Ext w') : CmpRet w [] 0 false (.returned (.tuple #[.slice none 0 0, .int .i64 0, .bool false])) w' := ⟨none, 0, _, _, rfl, hx, OwnMat.none _ _ _ _⟩
theorem CmpRet.yes {w w1 w' : World} {m : List (List Int)} {n : Int} {a : Option Addr} {c : Nat} (hx1 : w.Ext w1) (h : MatRet w1 m (.returned (.slice a m.length c)) w') : CmpRet w m n true (.returned (.tuple #[.slice a m.length c, .int .i64 n, .bool true])) w' := by
  obtain ⟨a', c', A, C, e, hx, hm⟩ := h
  simp only [Ending.returned.injEq, Value.slice.injEq, true_and] at e
  obtain ⟨rfl, rfl⟩ := e
  exact ⟨a, c, A, C, rfl, hx1.trans hx, (hm.mat (by decide)).mono hx1.size (Nat.le_refl _)⟩
/-- The numbers of pixels as a table. -/
def cmpG (F : Int × Int → Nat) (x y : Nat) : Int := (F ((x : Int), (y : Int)) : Int)
theorem cmp_bnd {ss : List ByteArray} (F : Int × Int → Nat) : MatBnd (optM (picOk ss) (grd (picW ss) ss.length (cmpG F))) ∧ offM (optM (picOk ss) (grd (picW ss) ss.length (cmpG F))) (optM (picOk ss) (grd (picW ss) ss.length (cmpG F))).length ≤ 1048576 := by
  cases h : picOk ss
  · exact optM_bnd false 0 0 (fun _ _ => 0) (by omega) (by omega)
  · obtain ⟨q1, q2, q3, q4, -, -⟩ := picOk_spec h
    exact optM_bnd _ _ _ _ (by omega) (by omega)
theorem slice_run (g o c lo hi : Nat) (w : World) (M : Nat) (h1 : lo < hi) (h2 : hi ≤ c) (L U : Int) (hL : L = lo) (hU : U = hi) :
    (Instr.sliceAt 57 (.slice (some ⟨g, o, none⟩) M c) (some (.int .i64 L)) (some (.int .i64 U)) none).run Tryz.prog w = .ok (.slice (some ⟨g, o + lo, none⟩) (hi - lo) (c - lo)) w := by
  subst hL hU
  obtain ⟨i0, hi0, hz0, hz1, hz2⟩ := info_parts Tryz.infoI64
  have he : Tryz.prog.elem 57 = 2 := by unfold Program.elem; rw [Tryz.underlying57]
  have ht' : Tryz.prog.underlying 57 = some (.slice (Tryz.prog.elem 57)) := by rw [he]; exact Tryz.underlying57
  rw [run_sliceAt_slice w _ _ _ _ _ ht', run_slice_lh w _ _ _ _ ht' .i64 .i64 _ _ (by omega) (by omega) (by omega)]
  have hne : ¬ c = lo := by omega
  simp [sizeOf, typeInfo, he, hi0, hz1, sliced, Addr.add_lit, Result.andThen, hne]
end Go.Proofs.YtkpgelhmeokemaaGreatDoor
