/- ComponentsOf and KeepComponents, both sides. -/
import Derived.Test.YtlnklcjnjfmknaaAreF
import Derived.Test.YtlnklcjnjfmknaaHolF
namespace Go.Proofs.Ytlnklcjnjfmknaa
open Go Go.RowKit
set_option maxHeartbeats 800000 in
theorem l00Own_any (b o c : Nat) (xs : List Int) (w : World) (hn : xs.length ≤ 65536) (hr : RowI w (some ⟨b, o, none⟩) xs) :
    Calls Try.prog 107 #[.slice (some ⟨b, o, none⟩) xs.length c] w fun e w' => ∃ v, e = .returned v ∧ w.Ext w' ∧ GrowOf (Value.int .i64) w.heap.size 2 w' v xs := by
  obtain ⟨i0, hi, hz0, hz1, hz2⟩ := info_parts Try.infoI64L
  obtain ⟨W0, hW0⟩ : ∃ W0, W0 = w.alloc (.cells #[] 2) := ⟨_, rfl⟩
  have hx0 : w.Ext W0 := by rw [hW0]; repeat (first | exact World.Ext.refl _ | exact ⟨_, rfl⟩ | assumption | refine World.Ext.over ?_ _ | refine World.Ext.drewN ?_ _ | refine World.Ext.drew ?_ | refine World.Ext.alloc ?_ _ | refine World.Ext.setCell ?_ (by simp) _)
  have hg0 : GrowOf (Value.int .i64) w.heap.size 2 W0 (.slice (some ⟨w.heap.size, 0, none⟩) 0 0) ([] : List Int) := by rw [hW0]; exact GrowOf.empty _ (Nat.le_refl _)
  have HNEWS := Lib.hid (RowOf.news (RowOf.ext hr hx0))
  have HLQ : Hid ((xs.map (Value.int .i64)).length = xs.length * 1) := by show _ = _; simp
  have HB1 : Hid (0 + xs.length ≤ maxLen) := by show _ ≤ _; unfold maxLen; omega
  have HB2 : Hid ((0 + xs.length) * 8 ≤ 140737488355328) := by show _ ≤ _; omega
  have HLE := Lib.hid hx0.size
  have HNEXT : Hid (∀ (v' : Value) (w1 : World), W0.grownBy w1 (Value.ownBlock (.slice (some ⟨w.heap.size, 0, none⟩) 0 0)) → w1.ownsRow w.heap.size 2 1 v' (0 + xs.length) (([] : List Int).map (Value.int .i64) ++ xs.map (Value.int .i64)) → Hid (w.Ext w1 ∧ GrowOf (Value.int .i64) w.heap.size 2 w1 v' xs)) := fun v' w1 hgrow hown => by
    refine ⟨hg0.pushesExt hx0 hgrow, ?_⟩
    have := GrowOf.pushes (xs := ([] : List Int)) hown
    simpa using this
  have hown := hg0
  unfold GrowOf at hown
  clear hr hn hg0 hx0
  go_enter Try.func107, Try.ntmps107
  go_wp2_with (at_builtin; rw [← hW0]; refine wpList_append_own _ rfl _ _ 54 rfl w.heap.size 2 i0 (.int .i64 0) 1 8 Try.underlying54 hi hz0 hz1 hz2 rfl (by decide) _ _ _ rfl hown ⟨b, o, none⟩ xs.length _ (xs.map (Value.int .i64)) rfl HLQ.out HNEWS.out (by intro u hu; obtain ⟨z, _, rfl⟩ := List.mem_map.1 hu; rfl) HB1.out HB2.out HLE.out (fun v' w1 hown' hgrow _ => ?_); have HR := HNEXT.out _ _ hgrow hown'; clear hown' hgrow hown)
  go_ret
  exact ⟨_, rfl, HR.out⟩
def CmpRet (w : World) (m : List (List Int)) (n : Int) (ok : Bool) (e : Ending) (w' : World) : Prop := ∃ a c A C, e = .returned (.tuple #[.slice a m.length c, .int .i64 n, .bool ok]) ∧ w.Ext w' ∧ OwnMat w.heap.size w'.heap.size w' a A C m
theorem CmpRet.no {w w' : World} (hx : w.Ext w') : CmpRet w [] 0 false (.returned (.tuple #[.slice none 0 0, .int .i64 0, .bool false])) w' := ⟨none, 0, _, _, rfl, hx, OwnMat.none _ _ _ _⟩
theorem CmpRet.yes {w w1 w' : World} {m : List (List Int)} {n : Int} {a : Option Addr} {c : Nat} (hx1 : w.Ext w1) (h : MatRet w1 m (.returned (.slice a m.length c)) w') : CmpRet w m n true (.returned (.tuple #[.slice a m.length c, .int .i64 n, .bool true])) w' := by
  obtain ⟨a', c', A, C, e, hx, hm⟩ := h
  simp only [Ending.returned.injEq, Value.slice.injEq, true_and] at e
  obtain ⟨rfl, rfl⟩ := e
  exact ⟨a, c, A, C, rfl, hx1.trans hx, (hm.mat (by decide)).mono hx1.size (Nat.le_refl _)⟩
/-- The numbers of pixels as a table. -/
def cmpG (F : Int × Int → Nat) (x y : Nat) : Int := (F ((x : Int), (y : Int)) : Int)
theorem cmp_bnd {ss : List ByteArray} (F : Int × Int → Nat) : MatBnd (optM (picOk ss) (grd (picW ss) ss.length (cmpG F))) ∧ offM (optM (picOk ss) (grd (picW ss) ss.length (cmpG F))) (optM (picOk ss) (grd (picW ss) ss.length (cmpG F))).length ≤ 1048576 := by
  cases h : picOk ss
  · exact optM_bnd false 0 0 (fun _ _ => 0) (by omega) (by omega)
  · obtain ⟨q1, q2, q3, q4, -, -⟩ := picOk_spec h
    exact optM_bnd _ _ _ _ (by omega) (by omega)
set_option maxHeartbeats 800000 in
theorem cmp1_any (p bm : Nat) (f : Int × Int → Nat) (x y : Nat) (w : World) (hx : x < 1000) (hy : y < 1000) (hp : w.cell? ⟨p, 0, none⟩ = some (.map (some bm))) (hM : MapS w Try.prog 80 bm (labM f)) :
    Calls Try.prog 108 #[.int .i64 x, .int .i64 y, .pointer (some ⟨p, 0, none⟩)] w fun e w' => e = .returned (.int .i64 (cmpG f x y)) ∧ w.Ext w' := by
  have hl := hM.lookI (x := (x : Int)) (y := (y : Int)) (by omega) (by omega)
  clear hM
  unfold cmpG
  generalize (f ((x : Int), (y : Int)) : Int) = t at *
  go_enter Try.func108, Try.ntmps108
  go_wp2
  go_ret
  exact ⟨rfl, .refl _⟩
theorem enters_cmp1 : Enters 108 := enters_of Try.func108 (by kernel_rfl) (by kernel_rfl)
set_option maxRecDepth 5000 in
set_option maxHeartbeats 1600000 in
theorem implCmp_any (a : Option Addr) (c : Nat) (ss : List ByteArray) (eight : Bool) (F : Int × Int → Nat) (n : Nat) (hF : LabP ss eight F n) (w : World) (hb : PicBnd ss) (hm : RowS w a ss) :
    Calls Try.prog 53 #[.agg #[.slice a ss.length c], .bool eight] w (CmpRet w (optM (picOk ss) (grd (picW ss) ss.length (cmpG F))) (optI (picOk ss) n) (picOk ss)) := by
  obtain ⟨W0, hW0⟩ : ∃ W0, W0 = w.alloc (.cells #[.slice a ss.length c] 29) := ⟨_, rfl⟩
  have hx0 : w.Ext W0 := by rw [hW0]; repeat (first | exact World.Ext.refl _ | exact ⟨_, rfl⟩ | assumption | refine World.Ext.over ?_ _ | refine World.Ext.drewN ?_ _ | refine World.Ext.drew ?_ | refine World.Ext.alloc ?_ _ | refine World.Ext.setCell ?_ (by simp) _)
  have HIO : Hid (Calls Try.prog 60 #[.agg #[.slice a ss.length c]] W0 (ImgOf W0 ss (picOk ss))) := imageOf_any a c ss W0 hb.1 hb.2 (hm.ext hx0) _ rfl
  have HX0 := Lib.hid hx0
  cases h : picOk ss
  · rw [h] at HIO
    clear hb hm hx0 h hF
    show Calls _ _ _ _ (CmpRet w [] 0 false)
    go_enter Try.func53, Try.ntmps53
    go_wp2_with fail
    rw [← hW0]
    refine HIO.out.mono ?_
    rintro e w1 ⟨rfl, hx1⟩
    have HX := Lib.hid (HX0.out.trans hx1)
    clear hx1 hW0
    go_wp2
    go_ret3
    exact CmpRet.no HX.out
  · rw [h] at HIO
    obtain ⟨v1, v2, v3, v4, e1, -⟩ := picOk_spec h
    have HLB : Hid (∀ w' b ab, Img w' b ab (picW ss) ss.length (picL ss) → Calls Try.prog 103 #[.pointer (some ⟨b, 0, none⟩), .bool eight] w' (LabRet w' F n)) := fun w' b ab hI => labels_any b ab _ _ _ eight F n w' (by omega) (by omega) hI hF
    have HGR : Hid (∀ (w' : World) (b ab p9 bm : Nat), Img w' b ab (picW ss) ss.length (picL ss) → w'.cell? ⟨p9, 0, none⟩ = some (.map (some bm)) → MapS w' Try.prog 80 bm (labM F) →
        Calls Try.prog 68 #[.pointer (some ⟨b, 0, none⟩), .func (.func 108) #[] #[.pointer (some ⟨p9, 0, none⟩)]] w' (MatRet w' (grd (picW ss) ss.length (cmpG F)))) := fun w' b ab p9 bm hI hc hM =>
      grid_any b ab 108 _ _ _ #[.pointer (some ⟨p9, 0, none⟩)] (cmpG F) w' (by omega) (by omega) hI enters_cmp1 (fun w'' hx x y h1 h2 => cmp1_any p9 bm F x y w'' (by omega) (by omega) (hx.cell hc) (hM.ext hx))
    have hRl := grd_len (picW ss) ss.length (cmpG F)
    clear hb hm hx0 h hF v1 v2 v3 v4 e1
    show Calls _ _ _ _ (CmpRet w (grd (picW ss) ss.length (cmpG F)) n true)
    generalize grd (picW ss) ss.length (cmpG F) = M at *
    clear hRl
    go_enter Try.func53, Try.ntmps53
    go_wp2_with fail
    rw [← hW0]
    refine HIO.out.mono ?_
    rintro e w1 ⟨b1, ab1, rfl, hx1, hi1, -, -⟩
    have HC := Lib.hid (HLB.out w1 b1 ab1 hi1)
    have HX1 := Lib.hid (HX0.out.trans hx1)
    have HI1 := Lib.hid hi1
    clear hi1 hx1 hW0
    go_wp2_with fail
    refine HC.out.mono ?_
    rintro e w2 ⟨bm, rfl, hx2, hlo, hM⟩
    obtain ⟨w3, hw3⟩ : ∃ w3, w3 = w2.alloc (.cells #[.map (some bm)] 118) := ⟨_, rfl⟩
    have hx3 : w2.Ext w3 := by rw [hw3]; repeat (first | exact World.Ext.refl _ | exact ⟨_, rfl⟩ | assumption | refine World.Ext.over ?_ _ | refine World.Ext.drewN ?_ _ | refine World.Ext.drew ?_ | refine World.Ext.alloc ?_ _ | refine World.Ext.setCell ?_ (by simp) _)
    have HC3 := Lib.hid (HGR.out w3 b1 ab1 w2.heap.size bm (HI1.out.ext (hx2.trans hx3)) (by rw [hw3]; simp [go_sem]) (hM.ext hx3))
    have HX3 := Lib.hid (HX1.out.trans (hx2.trans hx3))
    clear hx2 hx3 hM HC HI1
    go_wp2_with fail
    rw [← hw3]
    clear hw3
    refine HC3.out.mono ?_
    rintro e w4 ⟨a4, c4, A4, C4, rfl, hx4, hm4⟩
    have HR : Hid (CmpRet w M n true (.returned (.tuple #[.slice a4 M.length c4, .int .i64 n, .bool true])) w4) := CmpRet.yes HX3.out ⟨a4, c4, A4, C4, rfl, hx4, hm4⟩
    clear hx4 hm4
    go_wp2
    go_ret3
    exact HR.out
theorem slice_run (g o c lo hi : Nat) (w : World) (M : Nat) (h1 : lo < hi) (h2 : hi ≤ c) (L U : Int) (hL : L = lo) (hU : U = hi) :
    (Instr.sliceAt 54 (.slice (some ⟨g, o, none⟩) M c) (some (.int .i64 L)) (some (.int .i64 U)) none).run Try.prog w = .ok (.slice (some ⟨g, o + lo, none⟩) (hi - lo) (c - lo)) w := by
  subst hL hU
  obtain ⟨i0, hi0, hz0, hz1, hz2⟩ := info_parts Try.infoI64L
  have he : Try.prog.elem 54 = 2 := by unfold Program.elem; rw [Try.underlying54]
  have ht' : Try.prog.underlying 54 = some (.slice (Try.prog.elem 54)) := by rw [he]; exact Try.underlying54
  rw [run_sliceAt_slice w _ _ _ _ _ ht', run_slice_lh w _ _ _ _ ht' .i64 .i64 _ _ (by omega) (by omega) (by omega)]
  have hne : ¬ c = lo := by omega
  simp [sizeOf, typeInfo, he, hi0, hz1, sliced, Addr.add_lit, Result.andThen, hne]
set_option maxRecDepth 5000 in
set_option maxHeartbeats 1600000 in
theorem specCmp_any (a : Option Addr) (c : Nat) (ss : List ByteArray) (eight : Bool) (F : Int × Int → Nat) (n : Nat) (hF : LabP ss eight F n) (w : World) (hb : PicBnd ss) (hm : RowS w a ss) :
    Calls Try.prog 52 #[.agg #[.slice a ss.length c], .bool eight] w (CmpRet w (optM (picOk ss) (grd (picW ss) ss.length (cmpG F))) (optI (picOk ss) n) (picOk ss)) := by
  obtain ⟨j0, hj, hy0, hy1, hy2⟩ := info_parts Try.infoRowG
  obtain ⟨W0, hW0⟩ : ∃ W0, W0 = w.alloc (.cells #[.slice a ss.length c] 29) := ⟨_, rfl⟩
  have hx0 : w.Ext W0 := by rw [hW0]; repeat (first | exact World.Ext.refl _ | exact ⟨_, rfl⟩ | assumption | refine World.Ext.over ?_ _ | refine World.Ext.drewN ?_ _ | refine World.Ext.drew ?_ | refine World.Ext.alloc ?_ _ | refine World.Ext.setCell ?_ (by simp) _)
  have d0 : W0.cell? ⟨w.heap.size, 0, none⟩ = some (.slice a ss.length c) := by rw [hW0]; simp [go_sem]
  have HI : Hid (Calls Try.prog 78 #[.pointer (some ⟨w.heap.size, 0, none⟩)] W0 fun e w' => e = .returned (.bool (picOk ss)) ∧ W0.Ext w') := l01Is_any _ a c ss W0 hb.1 hb.2 d0 (hm.ext hx0) _ rfl
  have HX0 := Lib.hid hx0
  cases h : picOk ss
  · rw [h] at HI
    clear hb hm hx0 d0 h hF
    show Calls _ _ _ _ (CmpRet w [] 0 false)
    go_enter Try.func52, Try.ntmps52
    go_wp2_with fail
    rw [← hW0]
    refine HI.out.mono ?_
    rintro e w1 ⟨rfl, hx1⟩
    have HX := Lib.hid (HX0.out.trans hx1)
    clear hx1 hW0
    go_wp2
    go_ret3
    exact CmpRet.no HX.out
  · rw [h] at HI
    obtain ⟨v1, v2, v3, v4, e1, -⟩ := picOk_spec h
    have HLB := Lib.hid (fun w' (hx : W0.Ext w') => l05Labels_cap _ a c ss eight F n w' e1 v3 (by omega) (by omega) (hx.cell d0) ((hm.ext hx0).ext hx) (LabK.congr1 (fun p q => (nb_same eight p q).symm) hF))
    have HWS : Hid (∀ w', W0.Ext w' → Calls Try.prog 74 #[.pointer (some ⟨w.heap.size, 0, none⟩)] w' fun e w'' => e = .returned (.int .i64 (picW ss)) ∧ w'.Ext w'') := fun w' hx => l01Width_any _ a c ss w' e1.1 (by omega) (by omega) (hx.cell d0) (RowOf.ext (hm.ext hx0) hx)
    have HHS : Hid (∀ w', W0.Ext w' → Calls Try.prog 75 #[.pointer (some ⟨w.heap.size, 0, none⟩)] w' fun e w'' => e = .returned (.int .i64 ss.length) ∧ w'.Ext w'') := fun w' hx => l01Height_any _ a c ss.length w' (by omega) (hx.cell d0)
    clear hb hm hx0 d0 h hF e1
    show Calls _ _ _ _ (CmpRet w (grd (picW ss) ss.length (cmpG F)) n true)
    generalize picW ss = W at *
    generalize ss.length = H at *
    have hWH : W * H ≤ 4096 := Nat.mul_le_mul (show W ≤ 64 by omega) (show H ≤ 64 by omega)
    go_enter Try.func52, Try.ntmps52
    go_wp2_with fail
    rw [← hW0]
    refine HI.out.mono ?_
    rintro e w1 ⟨rfl, hx1⟩
    go_wp2_with fail
    refine (HLB.out _ hx1).mono ?_
    rintro e w2 ⟨a2, rfl, hx2, ho2⟩
    have HX2 := Lib.hid (hx1.trans hx2)
    have HR2 := Lib.hid ho2.row
    clear hx1 hx2 ho2 hW0
    have hpos : 0 < W * H := Nat.mul_pos v3 v1
    obtain ⟨b2, o2, rfl, -⟩ := HR2.out 0 (by rw [numL_len, Nat.mul_comm]; exact hpos)
    go_wp2_with fail
    refine (HWS.out _ HX2.out).mono ?_
    rintro e w3 ⟨rfl, hx3⟩
    have HR3 := Lib.hid (RowOf.ext HR2.out hx3)
    have HX3 := Lib.hid (HX2.out.trans hx3)
    have HST := Lib.hid (GrdSt.start (World.Ext.refl w3) W (cmpG F))
    clear hx3 HR2 HX2
    go_wp2
    go_loopw [10, 11] (fun v i wr => ∃ y : Nat, y ≤ H ∧ i = .int .i64 y ∧ Hid (GrdSt w3 W (cmpG F) v y wr)) (fun _ i _ => H - (intOf i).toNat)
    case atStart => exact ⟨0, Nat.zero_le _, rfl, HST⟩
    case round =>
      obtain ⟨y, hy, rfl, HS⟩ := hrel
      clear HST
      obtain ⟨wo, rfl⟩ : ∃ wo : World, wo = wr := ⟨_, rfl⟩
      by_cases hlty : y < H
      · have hlty' : (y : Int) < (H : Int) := by omega
        have hmul : (y + 1) * W ≤ W * H := by rw [Nat.mul_comm W H]; exact Nat.mul_le_mul_right W (by omega)
        have hsm : (y + 1) * W = y * W + W := by rw [Nat.succ_mul]
        have i1 : (y : Int) * (W : Int) = ((y * W : Nat) : Int) := by rw [Int.natCast_mul]
        have i2 : ((y : Int) + 1) * (W : Int) = (((y + 1) * W : Nat) : Int) := by rw [Int.natCast_mul, Int.natCast_add]; rfl
        have n1 : 0 ≤ (y : Int) * (W : Int) := by rw [i1]; omega
        have n2 : (y : Int) * (W : Int) ≤ 4096 := by rw [i1]; omega
        have n3 : 0 ≤ ((y : Int) + 1) * (W : Int) := by rw [i2]; omega
        have n4 : ((y : Int) + 1) * (W : Int) ≤ 4096 := by rw [i2]; omega
        have HRUN : Hid (∀ wq, (Instr.sliceAt 54 (.slice (some ⟨b2, o2, none⟩) (W * H) (W * H)) (some (.int .i64 ((y : Int) * (W : Int)))) (some (.int .i64 (((y : Int) + 1) * (W : Int)))) none).run Try.prog wq = .ok (.slice (some ⟨b2, o2 + y * W, none⟩) ((y + 1) * W - y * W) (W * H - y * W)) wq) := fun wq => slice_run b2 o2 (W * H) (y * W) ((y + 1) * W) wq (W * H) (by omega) hmul _ _ i1 i2
        have hsub : (y + 1) * W - y * W = W := by omega
        have HSUB := Lib.hid hsub
        have HRY : Hid (∀ wq, w3.Ext wq → RowI wq (some ⟨b2, o2 + y * W, none⟩) (grdRow (cmpG F) y W)) := fun wq hx i hi => by
          rw [grdRow_len] at hi
          have hidx : y * W + i < (numL W H F).length := by rw [numL_len, Nat.mul_comm H W]; omega
          obtain ⟨b', o', e', hc'⟩ := HR3.out (y * W + i) hidx
          simp only [Option.some.injEq, Addr.mk.injEq, and_true] at e'
          obtain ⟨rfl, rfl⟩ := e'
          refine ⟨b2, o2 + y * W, rfl, ?_⟩
          rw [Nat.add_assoc]
          have hv : (grdRow (cmpG F) y W).getD i 0 = (numL W H F).getD (y * W + i) 0 := by
            rw [numL_at W H F hi hlty]
            unfold grdRow
            rw [List.getD_eq_getElem?_getD, List.getElem?_map, List.getElem?_range hi]
            rfl
          rw [hv]
          exact hx.cell hc'
        clear hmul hsm i1 i2 hsub
        go_wp2_with fail
        refine (HHS.out wo (HX3.out.trans HS.out.x)).mono ?_
        rintro e w4 ⟨rfl, hx4⟩
        have HS4 := Lib.hid (HS.out.ext hx4)
        have hrun := HRUN.out w4
        rw [HSUB.out] at hrun
        have hlr := grdRow_len (cmpG F) y W
        have hown0 := l00Own_any b2 (o2 + y * W) (W * H - y * W) (grdRow (cmpG F) y W) w4 (by rw [hlr]; omega) (HRY.out w4 HS4.out.x)
        rw [hlr] at hown0
        have HC := Lib.hid hown0
        clear hx4 HS hown0 hlr HRUN HRY
        go_wp2_with fail
        refine HC.out.mono ?_
        rintro e w5 ⟨v5, rfl, hx5, hg5⟩
        obtain ⟨a5, c5, rfl, -⟩ := hg5.form
        have hlr := grdRow_len (cmpG F) y W
        rw [hlr]
        have HRS : Hid (RowSt w4 (cmpG F) (.slice a5 W c5) y W w5) := by
          refine ⟨hx5, ?_⟩
          rw [hlr] at hg5
          exact hg5
        obtain ⟨A, C, hxo, hmo⟩ := HS4.out
        have hown := World.ownsRow.ext hmo.outer hx5
        have HNEXT : Hid (∀ (o : Obj) (v' : Value) (w6 : World), (w5.alloc o).grownBy w6 u10.ownBlock → w6.ownsRow w3.heap.size 54 1 v' ((grd W y (cmpG F)).length + 1) ((List.range (grd W y (cmpG F)).length).map (fun r => Value.slice (A r) ((grd W y (cmpG F)).getD r []).length (C r)) ++ [.slice a5 W c5]) → Hid (GrdSt w3 W (cmpG F) v' (y + 1) w6)) := fun o v' w6 hgrow hown' => GrdSt.next hxo hmo HRS.out hgrow hown'
        have HB1 : Hid ((grd W y (cmpG F)).length + 1 ≤ maxLen) := by show _ ≤ _; rw [grd_len]; unfold maxLen; omega
        have HB2 : Hid (((grd W y (cmpG F)).length + 1) * 24 ≤ 140737488355328) := by show _ ≤ _; rw [grd_len]; omega
        have HLE : ∀ o' : Obj, w3.heap.size ≤ (w5.alloc o').heap.size := fun o' => ((hxo.trans hx5).alloc o').size
        clear hxo hmo HS4 HRS hx5 hg5 hlr hrun HC
        generalize (List.range (grd W y (cmpG F)).length).map (fun r => Value.slice (A r) ((grd W y (cmpG F)).getD r []).length (C r)) = pre at *
        generalize (grd W y (cmpG F)).length = m at *
        go_wp2_with ((at_builtin; refine wpList_append_own _ rfl _ _ 26 rfl w3.heap.size 54 j0 (.slice none 0 0) 1 24 Try.underlying26 hj hy0 hy1 hy2 rfl (by decide) _ _ _ rfl (hown.alloc _) ⟨w5.heap.size, 0, none⟩ 1 1 [.slice a5 W c5] rfl rfl (cell_one_new _ _ _) (by simp [Value.oneCell']) HB1.out HB2.out (HLE _) (fun v' w1 hown' hgrow _ => ?_)); have HS6 := HNEXT.out _ _ _ hgrow hown'; clear hgrow hown' hown)
        go_roundw
        case rel => exact ⟨y + 1, by omega, by go_num, HS6⟩
        case measure => simp [intOf]; omega
      · have : y = H := by omega
        subst this
        go_wp2_with fail
        refine (HHS.out wo (HX3.out.trans HS.out.x)).mono ?_
        rintro e w4 ⟨rfl, hx4⟩
        have hret := (HS.out.ext hx4).ret
        obtain ⟨A, C, _, hmo⟩ := (HS.out.ext hx4)
        obtain ⟨a5, c5, rfl, _⟩ := World.ownsRow.form hmo.outer
        have HR : Hid (CmpRet w (grd W y (cmpG F)) n true (.returned (.tuple #[.slice a5 (grd W y (cmpG F)).length c5, .int .i64 n, .bool true])) w4) := CmpRet.yes (HX0.out.trans HX3.out) hret
        clear hx4 HS hmo hret
        go_wp2
        go_ret3
        exact HR.out
end Go.Proofs.Ytlnklcjnjfmknaa
