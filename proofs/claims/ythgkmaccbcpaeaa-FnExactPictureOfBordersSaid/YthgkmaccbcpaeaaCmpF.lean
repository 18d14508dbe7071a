/- ComponentsOf and KeepComponents, both sides. -/
import Derived.Test.YthgkmaccbcpaeaaAreF
import Derived.Test.YthgkmaccbcpaeaaHolF
namespace Go.Proofs.Ythgkmaccbcpaeaa
open Go Go.RowKit
set_option maxHeartbeats 800000 in
theorem l00Own_any (b o c : Nat) (xs : List Int) (w : World) (hn : xs.length ≤ 65536) (hr : RowI w (some ⟨b, o, none⟩) xs) :
    Calls Try.prog 228 #[.slice (some ⟨b, o, none⟩) xs.length c] w fun e w' => ∃ v, e = .returned v ∧ w.Ext w' ∧ GrowOf (Value.int .i64) w.heap.size 2 w' v xs := by
  obtain ⟨i0, hi, hz0, hz1, hz2⟩ := info_parts Try.infoI64
  obtain ⟨W0, hW0⟩ : ∃ W0, W0 = w.alloc (.cells #[] 2) := ⟨_, rfl⟩
  have hx0 : w.Ext W0 := by rw [hW0]; repeat (first | exact World.Ext.refl _ | exact ⟨_, rfl⟩ | assumption | refine World.Ext.over ?_ _ | refine World.Ext.drewN ?_ _ | refine World.Ext.drew ?_ | refine World.Ext.alloc ?_ _ | refine World.Ext.setCell ?_ (by simp) _)
  have hg0 : GrowOf (Value.int .i64) w.heap.size 2 W0 (.slice (some ⟨w.heap.size, 0, none⟩) 0 0) ([] : List Int) := by rw [hW0]; exact GrowOf.empty _ (Nat.le_refl _)
  have HNEWS := Lib.hid (RowOf.news (RowOf.ext hr hx0))
  have HLQ : Hid ((xs.map (Value.int .i64)).length = xs.length * 1) := by show _ = _; simp
  have HB1 : Hid (0 + xs.length ≤ maxLen) := by show _ ≤ _; unfold maxLen; omega
  have HB2 : Hid ((0 + xs.length) * 8 ≤ 140737488355328) := by show _ ≤ _; omega
  have HLE := Lib.hid hx0.size
  have HNEXT : Hid (∀ (v' : Value) (w1 : World), W0.grownBy w1 (Value.ownBlock (.slice (some ⟨w.heap.size, 0, none⟩) 0 0)) → w1.ownsRow w.heap.size 2 1 v' (0 + xs.length) (([] : List Int).map (Value.int .i64) ++ xs.map (Value.int .i64)) → Hid (w.Ext w1 ∧ GrowOf (Value.int .i64) w.heap.size 2 w1 v' xs)) := fun v' w1 hgrow hown => by
    refine ⟨hg0.pushesExt hx0 hgrow, ?_⟩
    have := GrowOf.pushes (xs := ([] : List Int)) hown
    simpa using this
  have hown := hg0
  unfold GrowOf at hown
  clear hr hn hg0 hx0
  go_enter Try.func228, Try.ntmps228
  go_wp2_with (at_builtin; rw [← hW0]; refine wpList_append_own _ rfl _ _ 41 rfl w.heap.size 2 i0 (.int .i64 0) 1 8 Try.underlying41 hi hz0 hz1 hz2 rfl (by decide) _ _ _ rfl hown ⟨b, o, none⟩ xs.length _ (xs.map (Value.int .i64)) rfl HLQ.out HNEWS.out (by intro u hu; obtain ⟨z, _, rfl⟩ := List.mem_map.1 hu; rfl) HB1.out HB2.out HLE.out (fun v' w1 hown' hgrow _ => ?_); have HR := HNEXT.out _ _ hgrow hown'; clear hown' hgrow hown)
  go_ret
  exact ⟨_, rfl, HR.out⟩
def CmpRet (w : World) (m : List (List Int)) (n : Int) (ok : Bool) (e : Ending) (w' : World) : Prop := ∃ a c A C, e = .returned (.tuple #[.slice a m.length c, .int .i64 n, .bool ok]) ∧ w.Ext w' ∧ OwnMat w.heap.size w'.heap.size w' a A C m
theorem CmpRet.no {w w' : World} (hx : w.Ext w') : CmpRet w [] 0 false (.returned (.tuple #[.slice none 0 0, .int .i64 0, .bool false])) w' := ⟨none, 0, _, _, rfl, hx, OwnMat.none _ _ _ _⟩
theorem CmpRet.yes {w w1 w' : World} {m : List (List Int)} {n : Int} {a : Option Addr} {c : Nat} (hx1 : w.Ext w1) (h : MatRet w1 m (.returned (.slice a m.length c)) w') : CmpRet w m n true (.returned (.tuple #[.slice a m.length c, .int .i64 n, .bool true])) w' := by
  obtain ⟨a', c', A, C, e, hx, hm⟩ := h
  simp only [Ending.returned.injEq, Value.slice.injEq, true_and] at e
  obtain ⟨rfl, rfl⟩ := e
  exact ⟨a, c, A, C, rfl, hx1.trans hx, (hm.mat (by decide)).mono hx1.size (Nat.le_refl _)⟩
/-- The numbers of pixels as a table. -/
def cmpG (F : Int × Int → Nat) (x y : Nat) : Int := (F ((x : Int), (y : Int)) : Int)
theorem cmp_bnd {ss : List ByteArray} (F : Int × Int → Nat) : MatBnd (optM (picOk ss) (grd (picW ss) ss.length (cmpG F))) ∧ offM (optM (picOk ss) (grd (picW ss) ss.length (cmpG F))) (optM (picOk ss) (grd (picW ss) ss.length (cmpG F))).length ≤ 1048576 := by
  cases h : picOk ss
  · exact optM_bnd false 0 0 (fun _ _ => 0) (by omega) (by omega)
  · obtain ⟨q1, q2, q3, q4, -, -⟩ := picOk_spec h
    exact optM_bnd _ _ _ _ (by omega) (by omega)
set_option maxHeartbeats 800000 in
theorem cmp1_any (p bm : Nat) (f : Int × Int → Nat) (x y : Nat) (w : World) (hx : x < 1000) (hy : y < 1000) (hp : w.cell? ⟨p, 0, none⟩ = some (.map (some bm))) (hM : MapS w Try.prog 45 bm (labM f)) :
    Calls Try.prog 116 #[.int .i64 x, .int .i64 y, .pointer (some ⟨p, 0, none⟩)] w fun e w' => e = .returned (.int .i64 (cmpG f x y)) ∧ w.Ext w' := by
  have hl := hM.lookI (x := (x : Int)) (y := (y : Int)) (by omega) (by omega)
  clear hM
  unfold cmpG
  generalize (f ((x : Int), (y : Int)) : Int) = t at *
  go_enter Try.func116, Try.ntmps116
  go_wp2
  go_ret
  exact ⟨rfl, .refl _⟩
theorem enters_cmp1 : Enters 116 := enters_of Try.func116 (by kernel_rfl) (by kernel_rfl)
set_option maxRecDepth 5000 in
set_option maxHeartbeats 1600000 in
theorem implCmp_any (a : Option Addr) (c : Nat) (ss : List ByteArray) (eight : Bool) (F : Int × Int → Nat) (n : Nat) (hF : LabP ss eight F n) (w : World) (hb : PicBnd ss) (hm : RowS w a ss) :
    Calls Try.prog 41 #[.agg #[.slice a ss.length c], .bool eight] w (CmpRet w (optM (picOk ss) (grd (picW ss) ss.length (cmpG F))) (optI (picOk ss) n) (picOk ss)) := by
  obtain ⟨W0, hW0⟩ : ∃ W0, W0 = w.alloc (.cells #[.slice a ss.length c] 26) := ⟨_, rfl⟩
  have hx0 : w.Ext W0 := by rw [hW0]; repeat (first | exact World.Ext.refl _ | exact ⟨_, rfl⟩ | assumption | refine World.Ext.over ?_ _ | refine World.Ext.drewN ?_ _ | refine World.Ext.drew ?_ | refine World.Ext.alloc ?_ _ | refine World.Ext.setCell ?_ (by simp) _)
  have HIO : Hid (Calls Try.prog 72 #[.agg #[.slice a ss.length c]] W0 (ImgOf W0 ss (picOk ss))) := imageOf_any a c ss W0 hb.1 hb.2 (hm.ext hx0) _ rfl
  have HX0 := Lib.hid hx0
  cases h : picOk ss
  · rw [h] at HIO
    clear hb hm hx0 h hF
    show Calls _ _ _ _ (CmpRet w [] 0 false)
    go_enter Try.func41, Try.ntmps41
    go_wp2_with fail
    rw [← hW0]
    refine HIO.out.mono ?_
    rintro e w1 ⟨rfl, hx1⟩
    have HX := Lib.hid (HX0.out.trans hx1)
    clear hx1 hW0
    go_wp2
    go_ret3
    exact CmpRet.no HX.out
  · rw [h] at HIO
    obtain ⟨v1, v2, v3, v4, e1, -⟩ := picOk_spec h
    have HLB : Hid (∀ w' b ab, Img w' b ab (picW ss) ss.length (picL ss) → Calls Try.prog 114 #[.pointer (some ⟨b, 0, none⟩), .bool eight] w' (LabRet w' F n)) := fun w' b ab hI => labels_any b ab _ _ _ eight F n w' (by omega) (by omega) hI hF
    have HGR : Hid (∀ (w' : World) (b ab p9 bm : Nat), Img w' b ab (picW ss) ss.length (picL ss) → w'.cell? ⟨p9, 0, none⟩ = some (.map (some bm)) → MapS w' Try.prog 45 bm (labM F) →
        Calls Try.prog 115 #[.pointer (some ⟨b, 0, none⟩), .func (.func 116) #[] #[.pointer (some ⟨p9, 0, none⟩)]] w' (MatRet w' (grd (picW ss) ss.length (cmpG F)))) := fun w' b ab p9 bm hI hc hM =>
      grid_any b ab 116 _ _ _ #[.pointer (some ⟨p9, 0, none⟩)] (cmpG F) w' (by omega) (by omega) hI enters_cmp1 (fun w'' hx x y h1 h2 => cmp1_any p9 bm F x y w'' (by omega) (by omega) (hx.cell hc) (hM.ext hx))
    have hRl := grd_len (picW ss) ss.length (cmpG F)
    clear hb hm hx0 h hF v1 v2 v3 v4 e1
    show Calls _ _ _ _ (CmpRet w (grd (picW ss) ss.length (cmpG F)) n true)
    generalize grd (picW ss) ss.length (cmpG F) = M at *
    clear hRl
    go_enter Try.func41, Try.ntmps41
    go_wp2_with fail
    rw [← hW0]
    refine HIO.out.mono ?_
    rintro e w1 ⟨b1, ab1, rfl, hx1, hi1, -, -⟩
    have HC := Lib.hid (HLB.out w1 b1 ab1 hi1)
    have HX1 := Lib.hid (HX0.out.trans hx1)
    have HI1 := Lib.hid hi1
    clear hi1 hx1 hW0
    go_wp2_with fail
    refine HC.out.mono ?_
    rintro e w2 ⟨bm, rfl, hx2, hlo, hM⟩
    obtain ⟨w3, hw3⟩ : ∃ w3, w3 = w2.alloc (.cells #[.map (some bm)] 161) := ⟨_, rfl⟩
    have hx3 : w2.Ext w3 := by rw [hw3]; repeat (first | exact World.Ext.refl _ | exact ⟨_, rfl⟩ | assumption | refine World.Ext.over ?_ _ | refine World.Ext.drewN ?_ _ | refine World.Ext.drew ?_ | refine World.Ext.alloc ?_ _ | refine World.Ext.setCell ?_ (by simp) _)
    have HC3 := Lib.hid (HGR.out w3 b1 ab1 w2.heap.size bm (HI1.out.ext (hx2.trans hx3)) (by rw [hw3]; simp [go_sem]) (hM.ext hx3))
    have HX3 := Lib.hid (HX1.out.trans (hx2.trans hx3))
    clear hx2 hx3 hM HC HI1
    go_wp2_with fail
    rw [← hw3]
    clear hw3
    refine HC3.out.mono ?_
    rintro e w4 ⟨a4, c4, A4, C4, rfl, hx4, hm4⟩
    have HR : Hid (CmpRet w M n true (.returned (.tuple #[.slice a4 M.length c4, .int .i64 n, .bool true])) w4) := CmpRet.yes HX3.out ⟨a4, c4, A4, C4, rfl, hx4, hm4⟩
    clear hx4 hm4
    go_wp2
    go_ret3
    exact HR.out
end Go.Proofs.Ythgkmaccbcpaeaa
