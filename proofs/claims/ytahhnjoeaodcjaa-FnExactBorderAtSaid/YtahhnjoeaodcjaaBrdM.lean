/- BordersOf: the reference's. -/
import Derived.Test.YtahhnjoeaodcjaaBrdL
namespace Go.Proofs.Ytahhnjoeaodcjaa
open Go Go.RowKit
def optBd (ok : Bool) (bs : List Bord) : List Bord := if ok then bs else []
def bordA (ss : List ByteArray) : List Bord := brds (pxl (picW ss) ss.length (picL ss)) (picW ss) (ss.length * picW ss)
def BordsRet2 (w : World) (bs : List Bord) (ok : Bool) (e : Ending) (w' : World) : Prop := ∃ a c, e = .returned (.tuple #[.slice a bs.length c, .bool ok]) ∧ w.Ext w' ∧ OwnBd w.heap.size w'.heap.size w' a bs
theorem bordA_bnd (ss : List ByteArray) : (optBd (picOk ss) (bordA ss)).length ≤ 262144 := by
  cases hk : picOk ss
  · simp [optBd]
  · obtain ⟨v1, v2, v3, v4, e1, -⟩ := picOk_spec hk
    have h1 := brds_len (pxl (picW ss) ss.length (picL ss)) (picW ss) (ss.length * picW ss)
    have h2 := Nat.mul_le_mul v2 v4
    show (bordA ss).length ≤ _
    unfold bordA
    omega
set_option maxRecDepth 5000 in
set_option maxHeartbeats 1600000 in
theorem specBorders_any (a : Option Addr) (c : Nat) (ss : List ByteArray) (w : World) (hb : PicBnd ss) (hm : RowS w a ss) :
    Calls Try.prog 47 #[.agg #[.slice a ss.length c]] w (BordsRet2 w (optBd (picOk ss) (bordA ss)) (picOk ss)) := by
  obtain ⟨W0, hW0⟩ : ∃ W0, W0 = w.alloc (.cells #[.slice a ss.length c] 26) := ⟨_, rfl⟩
  have hx0 : w.Ext W0 := by rw [hW0]; repeat (first | exact World.Ext.refl _ | exact ⟨_, rfl⟩ | assumption | refine World.Ext.over ?_ _ | refine World.Ext.drewN ?_ _ | refine World.Ext.drew ?_ | refine World.Ext.alloc ?_ _ | refine World.Ext.setCell ?_ (by simp) _)
  have d0 : W0.cell? ⟨w.heap.size, 0, none⟩ = some (.slice a ss.length c) := by rw [hW0]; simp [go_sem]
  have HI : Hid (Calls Try.prog 129 #[.pointer (some ⟨w.heap.size, 0, none⟩)] W0 fun e w' => e = .returned (.bool (picOk ss)) ∧ W0.Ext w') := l01Is_any _ a c ss W0 hb.1 hb.2 d0 (hm.ext hx0) _ rfl
  have HX0 := Lib.hid hx0
  cases h : picOk ss
  · rw [h] at HI
    clear hb hm hx0 d0 h
    show Calls _ _ _ _ (BordsRet2 w [] false)
    go_enter Try.func47, Try.ntmps47
    go_wp2_with fail
    rw [← hW0]
    refine HI.out.mono ?_
    rintro e w1 ⟨rfl, hx1⟩
    have HR : Hid (BordsRet2 w [] false (.returned (.tuple #[.slice none 0 0, .bool false])) w1) := ⟨none, 0, rfl, HX0.out.trans hx1, OwnBd.nil _ _⟩
    clear hx1 hW0
    go_wp2
    go_ret2
    exact HR.out
  · rw [h] at HI
    obtain ⟨v1, v2, v3, v4, e1, -⟩ := picOk_spec h
    have HAL := Lib.hid (fun w' (hx : W0.Ext w') => l04All_any _ a c ss w' e1 v4 v2 (hx.cell d0) ((hm.ext hx0).ext hx))
    clear hb hm hx0 d0 h v1 v2 v3 v4 e1
    show Calls _ _ _ _ (BordsRet2 w (bordA ss) true)
    unfold bordA
    generalize brds (pxl (picW ss) ss.length (picL ss)) (picW ss) (ss.length * picW ss) = R at *
    go_enter Try.func47, Try.ntmps47
    go_wp2_with fail
    rw [← hW0]
    refine HI.out.mono ?_
    rintro e w1 ⟨rfl, hx1⟩
    go_wp2_with fail
    refine (HAL.out _ hx1).mono ?_
    rintro e w2 ⟨a2, c2, rfl, hx2, ho2⟩
    have HR : Hid (BordsRet2 w R true (.returned (.tuple #[.slice a2 R.length c2, .bool true])) w2) := ⟨a2, c2, rfl, HX0.out.trans (hx1.trans hx2), ho2.mono (HX0.out.trans hx1).size (Nat.le_refl _)⟩
    clear hx1 hx2 ho2 hW0
    go_wp2
    go_ret2
    exact HR.out
end Go.Proofs.Ytahhnjoeaodcjaa
