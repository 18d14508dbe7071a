/- ComponentsOf and KeepComponents, both sides. -/
import Derived.Test.YtelaoimcaidoiaaAreF
import Derived.Test.YtelaoimcaidoiaaHolF
namespace Go.Proofs.Ytelaoimcaidoiaa
open Go Go.RowKit
def CmpRet (w : World) (m : List (List Int)) (n : Int) (ok : Bool) (e : Ending) (w' : World) : Prop := ∃ a c A C, e = .returned (.tuple #[.slice a m.length c, .int .i64 n, .bool ok]) ∧ w.Ext w' ∧ OwnMat w.heap.size w'.heap.size w' a A C m
theorem CmpRet.no {w w' : World} (hx : w.Ext w') : CmpRet w [] 0 false (.returned (.tuple #[.slice none 0 0, .int .i64 0, .bool false])) w' := ⟨none, 0, _, _, rfl, hx, OwnMat.none _ _ _ _⟩
/-- The numbers of pixels as a table. -/
def cmpG (F : Int × Int → Nat) (x y : Nat) : Int := (F ((x : Int), (y : Int)) : Int)
theorem cmp_bnd {ss : List ByteArray} (F : Int × Int → Nat) : MatBnd (optM (picOk ss) (grd (picW ss) ss.length (cmpG F))) ∧ offM (optM (picOk ss) (grd (picW ss) ss.length (cmpG F))) (optM (picOk ss) (grd (picW ss) ss.length (cmpG F))).length ≤ 1048576 := by
  cases h : picOk ss
  · exact optM_bnd false 0 0 (fun _ _ => 0) (by omega) (by omega)
  · obtain ⟨q1, q2, q3, q4, -, -⟩ := picOk_spec h
    exact optM_bnd _ _ _ _ (by omega) (by omega)
end Go.Proofs.Ytelaoimcaidoiaa
