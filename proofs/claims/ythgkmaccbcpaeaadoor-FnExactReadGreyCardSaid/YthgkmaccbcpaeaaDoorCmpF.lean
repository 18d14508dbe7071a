/- ComponentsOf and KeepComponents, both sides. -/
import Derived.Test.YthgkmaccbcpaeaaDoorAreF
import Derived.Test.YthgkmaccbcpaeaaDoorHolF
namespace Go.Proofs.YthgkmaccbcpaeaaDoor
open Go Go.RowKit
def CmpRet (w : World) (m : List (List Int)) (n : Int) (ok : Bool) (e : Ending) (w' : World) : Prop := ∃ a c A C, e = .returned (.tuple #[.slice a m.length c, .int .i64 n, .bool ok]) ∧ w.Ext w' ∧ OwnMat w.heap.size w'.heap.size w' a A C m
theorem CmpRet.no {w w' : World} (hx : w.Ext w') : CmpRet w [] 0 false (.returned (.tuple #[.slice none 0 0, .int .i64 0, .bool false])) w' := ⟨none, 0, _, _, rfl, hx, OwnMat.none _ _ _ _⟩
theorem CmpRet.yes {w w1 w' : World} {m : List (List Int)} {n : Int} {a : Option Addr} {c : Nat} (hx1 : w.Ext w1) (h : MatRet w1 m (.returned (.slice a m.length c)) w') : CmpRet w m n true (.returned (.tuple #[.slice a m.length c, .int .i64 n, .bool true])) w' := by
  obtain ⟨a', c', A, C, e, hx, hm⟩ := h
  simp only [Ending.returned.injEq, Value.slice.injEq, true_and] at e
  obtain ⟨rfl, rfl⟩ := e
  exact ⟨a, c, A, C, rfl, hx1.trans hx, (hm.mat (by decide)).mono hx1.size (Nat.le_refl _)⟩
/-- The numbers of pixels as a table. -/
def cmpG (F : Int × Int → Nat) (x y : Nat) : Int := (F ((x : Int), (y : Int)) : Int)
theorem cmp_bnd {ss : List ByteArray} (F : Int × Int → Nat) : MatBnd (optM (picOk ss) (grd (picW ss) ss.length (cmpG F))) ∧ offM (optM (picOk ss) (grd (picW ss) ss.length (cmpG F))) (optM (picOk ss) (grd (picW ss) ss.length (cmpG F))).length ≤ 1048576 := by
  cases h : picOk ss
  · exact optM_bnd false 0 0 (fun _ _ => 0) (by omega) (by omega)
  · obtain ⟨q1, q2, q3, q4, -, -⟩ := picOk_spec h
    exact optM_bnd _ _ _ _ (by omega) (by omega)
theorem slice_run (g o c lo hi : Nat) (w : World) (M : Nat) (h1 : lo < hi) (h2 : hi ≤ c) (L U : Int) (hL : L = lo) (hU : U = hi) :
    (Instr.sliceAt 68 (.slice (some ⟨g, o, none⟩) M c) (some (.int .i64 L)) (some (.int .i64 U)) none).run Tryd.prog w = .ok (.slice (some ⟨g, o + lo, none⟩) (hi - lo) (c - lo)) w := by
  subst hL hU
  obtain ⟨i0, hi0, hz0, hz1, hz2⟩ := info_parts Tryd.infoI64
  have he : Tryd.prog.elem 68 = 2 := by unfold Program.elem; rw [Tryd.underlying68]
  have ht' : Tryd.prog.underlying 68 = some (.slice (Tryd.prog.elem 68)) := by rw [he]; exact Tryd.underlying68
  rw [run_sliceAt_slice w _ _ _ _ _ ht', run_slice_lh w _ _ _ _ ht' .i64 .i64 _ _ (by omega) (by omega) (by omega)]
  have hne : ¬ c = lo := by omega
  simp [sizeOf, typeInfo, he, hi0, hz1, sliced, Addr.add_lit, Result.andThen, hne]
end Go.Proofs.YthgkmaccbcpaeaaDoor
