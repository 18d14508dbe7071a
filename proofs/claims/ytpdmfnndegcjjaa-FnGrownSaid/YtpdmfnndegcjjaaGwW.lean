/- FnGrown's walk: the law's own. -/
import Derived.Test.YtpdmfnndegcjjaaGwL
namespace Go.Proofs.Ytpdmfnndegcjjaa
open Go Go.RowKit
theorem mat_grd {w : World} {a : Option Addr} {A : Nat → Option Addr} {C : Nat → Nat} {W H : Nat} {g : Nat → Nat → Int} (h : MatAt w a A C (grd W H g)) {x y : Nat} (hx : x < W) (hy : y < H) :
    ∃ b o bk ok ck, a = some ⟨b, o, none⟩ ∧ w.cell? ⟨b, o + y, none⟩ = some (.slice (some ⟨bk, ok, none⟩) W ck) ∧ w.cell? ⟨bk, ok + x, none⟩ = some (.int .i64 (g x y)) := by
  obtain ⟨⟨b, o, e, hc⟩, hr⟩ := h y (by rw [grd_len]; exact hy)
  rw [grd_row hy, grdRow_len] at hc
  rw [grd_row hy] at hr
  obtain ⟨bk, ok, eA, q⟩ := hr x (by rw [grdRow_len]; exact hx)
  rw [eA] at hc
  rw [grdRow_at hx] at q
  exact ⟨b, o, bk, ok, _, e, hc, q⟩
set_option maxRecDepth 10000 in
set_option maxHeartbeats 16000000 in
theorem fnGrown_any (a : Option Addr) (c : Nat) (zs : List Int) (a2 : Option Addr) (c2 : Nat) (ys : List Int) (w : World) (h : CodeAt w a zs) (h2 : CodeAt w a2 ys) :
    Calls Try.prog 14 #[.slice a zs.length c, .slice a2 ys.length c2] w fun e w' => e = .returned (.bool true) ∧ w.Ext w' := by
  have HLO := Lib.hid (longR_any a zs.length c a2 ys.length c2 w h.2.2 h2.2.2)
  have HP := Lib.hid (fun w' (hx : w.Ext w') => pic8_any a c zs w' (h.ext hx))
  have HQ : Hid (∀ (W H : Nat) w', 1 ≤ W → W ≤ 16 → 1 ≤ H → H ≤ 16 → w.Ext w' → Calls Try.prog 86 #[.slice a2 ys.length c2, .int .i64 W, .int .i64 H] w' (NewPic w' (PicOf W H))) := fun W H w' h1 h3 h4 h5 hx => r8Like_any a2 c2 ys W H w' h1 h3 h4 h5 (h2.ext hx)
  have HAT : Hid (∀ (k n : Nat) (m : Int) w', k ≤ 1000 → 0 < n → m = n → w.Ext w' → Calls Try.prog 54 #[.slice a2 ys.length c2, .int .i64 k, .int .i64 m] w' (AtRet3 w' n)) := fun k n m w' hk hn hm hx => (r8At_any a2 c2 ys k m w' hk (h2.ext hx)).mono fun e w'' hq => by
    obtain ⟨r, h1, h3, h4, h5⟩ := hq
    obtain ⟨r, rfl⟩ := Int.eq_ofNat_of_zero_le h4
    exact ⟨r, h1, h3, by omega⟩
  have HA0 := Lib.hid (fun w' (hx : w.Ext w') => HAT.out 40 3 3 w' (by omega) (by omega) (by omega) hx)
  have HA1 := Lib.hid (fun w' (hx : w.Ext w') => HAT.out 41 9 9 w' (by omega) (by omega) (by omega) hx)
  clear h h2 HAT
  go_enter Try.func14, Try.ntmps14
  have HWB : Hid (w.Ext w) := .refl _
  have HX : Hid (w.Ext w) := .refl _
  go_wp2_with fail
  refine (HLO.out).mono ?_
  rintro e v1 ⟨t, rfl, hx, -⟩
  have HX_ := Lib.hid (HX.out.trans hx)
  clear HX
  have HX := HX_
  clear HX_
  clear hx
  cases t
  rotate_left
  · go_wp2
    go_ret
    exact ⟨rfl, HX.out⟩
  go_wp2_with fail
  refine (HP.out v1 (HWB.out.trans HX.out)).mono ?_
  rintro e v2 ⟨pa, pc, ss, rfl, hpic, hx, hrow⟩
  have HX_ := Lib.hid (HX.out.trans hx)
  clear HX
  have HX := HX_
  clear HX_
  obtain ⟨g1, g2, g3, g4, g5, -⟩ := picOk_spec hpic.1
  have g6 := hpic.2.1
  have g7 := hpic.2.2
  have HSZ := Lib.hid g5.2
  have hps : (ss.getD 0 ByteArray.empty).size = picW ss := rfl
  obtain ⟨W, hW⟩ : ∃ W, picW ss = W := ⟨_, rfl⟩
  obtain ⟨H, hH⟩ : ∃ H, ss.length = H := ⟨_, rfl⟩
  have HPIC : Hid (PicOf W H ss) := ⟨hpic.1, hH, hW⟩
  have HROW := Lib.hid hrow.row
  rw [hW] at g3 g4 g7 hps
  rw [hH] at g1 g2 g6 ⊢
  have HSL := Lib.hid hH
  clear hpic hrow HP g5 hW hH HSZ
  clear hx
  obtain ⟨b2, hb2⟩ : ∃ b2, b2 = v2.alloc (.cells #[.slice pa H pc] 26) := ⟨_, rfl⟩
  have hxb : v2.Ext b2 := by rw [hb2]; repeat (first | exact World.Ext.refl _ | exact ⟨_, rfl⟩ | assumption | refine World.Ext.over ?_ _ | refine World.Ext.drewN ?_ _ | refine World.Ext.drew ?_ | refine World.Ext.alloc ?_ _ | refine World.Ext.setCell ?_ (by simp) _)
  have c5_ : b2.cell? ⟨v2.heap.size, 0, none⟩ = some (.slice pa H pc) := by rw [hb2]; simp [go_sem]
  have HALL_ : Hid (∀ w', b2.Ext w' → w'.cell? ⟨v2.heap.size, 0, none⟩ = some (.slice pa H pc) ∧ RowS w' pa ss ∧ True) := fun w' hx' => ⟨hx'.cell c5_, RowOf.ext HROW.out (hxb.trans hx'), trivial⟩
  have HWB_ := Lib.hid (HWB.out.trans (HX.out.trans hxb))
  have HX_ : Hid (b2.Ext b2) := .refl _
  clear hxb c5_ HWB HX
  have HALL := HALL_
  have HWB := HWB_
  have HX := HX_
  clear HALL_ HWB_ HX_
  clear HROW
  go_upto_region 4 with fail
  rw [← hb2]
  clear hb2
  generalize v2.heap.size = q5 at *
  have c5 := (HALL.out b2 HX.out).1
  have lc5 := World.block_lt_of_cell? _ _ c5
  obtain ⟨rb, ro, rfl, hrc⟩ := ((HALL.out b2 HX.out).2.1) 0 (show 0 < ss.length by rw [HSL.out]; omega)
  rw [Nat.add_zero] at hrc
  obtain ⟨s0, hs0⟩ : ∃ s0, s0 = ss.getD 0 ByteArray.empty := ⟨_, rfl⟩
  rw [← hs0] at hrc hps
  clear hs0
  go_upto_region 6 with fail
  clear hrc hps
  clear lc5 c5
  go_wp2_with fail
  refine (HQ.out W H b2 g3 (by omega) g1 (by omega) (HWB.out.trans HX.out)).mono ?_
  rintro e v3 ⟨pb, pc2, tt, rfl, hpic2, hx, hrow2⟩
  have HX_ := Lib.hid (HX.out.trans hx)
  clear HX
  have HX := HX_
  clear HX_
  rw [hpic2.2.1]
  have HPIC2 := Lib.hid hpic2
  have HROW2 := Lib.hid hrow2.row
  clear hpic2 hrow2 HQ
  clear hx
  obtain ⟨b3, hb3⟩ : ∃ b3, b3 = v3.alloc (.cells #[.slice pb H pc2] 26) := ⟨_, rfl⟩
  have hxb : v3.Ext b3 := by rw [hb3]; repeat (first | exact World.Ext.refl _ | exact ⟨_, rfl⟩ | assumption | refine World.Ext.over ?_ _ | refine World.Ext.drewN ?_ _ | refine World.Ext.drew ?_ | refine World.Ext.alloc ?_ _ | refine World.Ext.setCell ?_ (by simp) _)
  have c8_ : b3.cell? ⟨v3.heap.size, 0, none⟩ = some (.slice pb H pc2) := by rw [hb3]; simp [go_sem]
  have HALL_ : Hid (∀ w', b3.Ext w' → w'.cell? ⟨q5, 0, none⟩ = some (.slice (some ⟨rb, ro, none⟩) H pc) ∧ RowS w' (some ⟨rb, ro, none⟩) ss ∧ w'.cell? ⟨v3.heap.size, 0, none⟩ = some (.slice pb H pc2) ∧ RowS w' pb tt ∧ True) := fun w' hx' => ⟨(HALL.out w' ((HX.out.trans hxb).trans hx')).1, (HALL.out w' ((HX.out.trans hxb).trans hx')).2.1, hx'.cell c8_, RowOf.ext HROW2.out (hxb.trans hx'), trivial⟩
  have HWB_ := Lib.hid (HWB.out.trans (HX.out.trans hxb))
  have HX_ : Hid (b3.Ext b3) := .refl _
  clear hxb c8_ HWB HX HALL
  have HALL := HALL_
  have HWB := HWB_
  have HX := HX_
  clear HALL_ HWB_ HX_
  clear HROW2
  go_upto_region 7 with fail
  rw [← hb3]
  clear hb3
  generalize v3.heap.size = q8 at *
  go_wp2_with fail
  refine (HA0.out b3 (HWB.out.trans HX.out)).mono ?_
  rintro e v4 ⟨kd, rfl, hx, hkd⟩
  have HX_ := Lib.hid (HX.out.trans hx)
  clear HX
  have HX := HX_
  clear HX_
  clear HA0
  clear hx
  go_wp2_with fail
  refine (HA1.out v4 (HWB.out.trans HX.out)).mono ?_
  rintro e v5 ⟨bb, rfl, hx, hbb⟩
  have HX_ := Lib.hid (HX.out.trans hx)
  clear HX
  have HX := HX_
  clear HX_
  clear HA1
  clear hx
  have hk3 : inB (kd : Int) 0 2 = true := inB_true.2 (by omega)
  have HOK := Lib.hid (gwOk (kind := kd) (by_ := bb) HPIC.out HPIC2.out g3 (by omega) (by omega))
  have hbp := pic_bndM HPIC.out (by omega) (by omega)
  have hbq := pic_bndM HPIC2.out (by omega) (by omega)
  have HSL2 : Hid (tt.length = H) := HPIC2.out.2.1
  have gok : ∀ (s : List ByteArray) (d : Int), picOk s = true → inB d 0 512 = true → growOk s (kd : Int) d = true := fun s d h1 h2 => by unfold growOk; rw [h1, hk3, h2]; rfl
  have HGP : Hid (∀ w' (d : Int), inB d 0 512 = true → RowS w' (some ⟨rb, ro, none⟩) ss → Calls Try.prog 87 #[.agg #[.slice (some ⟨rb, ro, none⟩) H pc], .int .i64 kd, .int .i64 d] w' (PicRet2 w' (picRows W H (mkl W H (growB kd d W H (picL ss)))) true)) := fun w' d hd hr => by
    have h := implGrowBy_any (some ⟨rb, ro, none⟩) pc ss kd d w' hbp hr
    unfold rowsIf at h
    rw [gok ss d HPIC.out.1 hd, if_pos rfl, HPIC.out.2.1, HPIC.out.2.2] at h
    exact h
  have HGQ : Hid (∀ w' (d : Int), inB d 0 512 = true → RowS w' pb tt → Calls Try.prog 87 #[.agg #[.slice pb H pc2], .int .i64 kd, .int .i64 d] w' (PicRet2 w' (picRows W H (mkl W H (growB kd d W H (picL tt)))) true)) := fun w' d hd hr => by
    have h := implGrowBy_any pb pc2 tt kd d w' hbq hr
    unfold rowsIf at h
    rw [gok tt d HPIC2.out.1 hd, if_pos rfl, HPIC2.out.2.1, HPIC2.out.2.2] at h
    exact h
  have HSP : Hid (∀ w' (d : Int), inB d 0 512 = true → RowS w' (some ⟨rb, ro, none⟩) ss → Calls Try.prog 88 #[.agg #[.slice (some ⟨rb, ro, none⟩) H pc], .int .i64 kd, .int .i64 d] w' (PicRet2 w' (picRows W H (mkl W H (shrB kd d W H (picL ss)))) true)) := fun w' d hd hr => by
    have h := implShrinkBy_any (some ⟨rb, ro, none⟩) pc ss kd d w' hbp hr
    unfold rowsIf at h
    rw [gok ss d HPIC.out.1 hd, if_pos rfl, HPIC.out.2.1, HPIC.out.2.2] at h
    exact h
  have HC1 := Lib.hid (fun w' (hr : RowS w' (some ⟨rb, ro, none⟩) ss) => HGP.out w' bb (inB_true.2 (by omega)) hr)
  have HC2 := Lib.hid (fun w' (hr : RowS w' (some ⟨rb, ro, none⟩) ss) => HSP.out w' bb (inB_true.2 (by omega)) hr)
  have HC3 : Hid (∀ w', RowS w' (some ⟨rb, ro, none⟩) ss → Calls Try.prog 87 #[.agg #[.slice (some ⟨rb, ro, none⟩) H pc], .int .i64 kd, .int .i64 0] w' (PicRet2 w' ss true)) := fun w' hr => by
    have h := HGP.out w' 0 (by decide) hr
    rw [HOK.out.zero] at h
    exact h
  have HC4 : Hid (∀ w', RowS w' (some ⟨rb, ro, none⟩) ss → Calls Try.prog 88 #[.agg #[.slice (some ⟨rb, ro, none⟩) H pc], .int .i64 kd, .int .i64 0] w' (PicRet2 w' ss true)) := fun w' hr => by
    have h := HSP.out w' 0 (by decide) hr
    rw [HOK.out.still] at h
    exact h
  have HDP : Hid (∀ w', RowS w' (some ⟨rb, ro, none⟩) ss → Calls Try.prog 89 #[.agg #[.slice (some ⟨rb, ro, none⟩) H pc], .int .i64 kd] w' (MatRet2 w' (grd W H (depI kd W H (picL ss))) true)) := fun w' hr => by
    have h := implDepths2_any (some ⟨rb, ro, none⟩) pc ss kd w' hbp hr
    have e : askOk ss (kd : Int) = true := by unfold askOk; rw [HPIC.out.1, hk3]; rfl
    unfold optM at h
    rw [e, if_pos rfl, HPIC.out.2.1, HPIC.out.2.2] at h
    exact h
  obtain ⟨np, hnp⟩ : ∃ np, np = decide (0 < (spotsTo W (picL ss) (H * W)).length) := ⟨_, rfl⟩
  obtain ⟨nq, hnq⟩ : ∃ nq, nq = decide (0 < (spotsTo W (picL tt) (H * W)).length) := ⟨_, rfl⟩
  have hsp : someOk ss (kd : Int) = np := by unfold someOk askOk; rw [HPIC.out.1, hk3, HPIC.out.2.1, HPIC.out.2.2, hnp]; rfl
  have hsq : someOk tt (kd : Int) = nq := by unfold someOk askOk; rw [HPIC2.out.1, hk3, HPIC2.out.2.1, HPIC2.out.2.2, hnq]; rfl
  have HDI : Hid (∀ w', RowS w' (some ⟨rb, ro, none⟩) ss → Calls Try.prog 90 #[.agg #[.slice (some ⟨rb, ro, none⟩) H pc], .int .i64 kd] w' (MatRet2 w' (optM np (grd W H (disI kd W H (picL ss)))) np)) := fun w' hr => by
    have h := implDistancesOf_any (some ⟨rb, ro, none⟩) pc ss kd w' hbp hr
    rw [hsp, HPIC.out.2.1, HPIC.out.2.2] at h
    exact h
  have HDJ : Hid (∀ w', RowS w' pb tt → Calls Try.prog 90 #[.agg #[.slice pb H pc2], .int .i64 kd] w' (MatRet2 w' (optM nq (grd W H (disI kd W H (picL tt)))) nq)) := fun w' hr => by
    have h := implDistancesOf_any pb pc2 tt kd w' hbq hr
    rw [hsq, HPIC2.out.2.1, HPIC2.out.2.2] at h
    exact h
  have hlk : likeP ss tt = true := by unfold likeP; rw [HPIC.out.1, HPIC2.out.1, HPIC.out.2.1, HPIC.out.2.2, HPIC2.out.2.1, HPIC2.out.2.2]; simp
  have hlk2 : likeP tt ss = true := by unfold likeP; rw [HPIC.out.1, HPIC2.out.1, HPIC.out.2.1, HPIC.out.2.2, HPIC2.out.2.1, HPIC2.out.2.2]; simp
  have hb1 : bothB ss tt = (np && nq) := by unfold bothB; rw [HPIC.out.2.1, HPIC.out.2.2, HPIC2.out.2.1, HPIC2.out.2.2, hnp, hnq]
  have hb2 : bothB tt ss = (np && nq) := by unfold bothB; rw [HPIC.out.2.1, HPIC.out.2.2, HPIC2.out.2.1, HPIC2.out.2.2, hnp, hnq, Bool.and_comm]
  obtain ⟨ap, hap⟩ : ∃ ap : Int, ap = if (np && nq) then aprI kd ss tt else 0 := ⟨_, rfl⟩
  have HAP : Hid (∀ w', RowS w' (some ⟨rb, ro, none⟩) ss → RowS w' pb tt → Calls Try.prog 91 #[.agg #[.slice (some ⟨rb, ro, none⟩) H pc], .agg #[.slice pb H pc2], .int .i64 kd] w' fun e w'' => e = .returned (.tuple #[.int .i64 ap, .bool (np && nq)]) ∧ w'.Ext w'') := fun w' h1 h2 => by
    have h := apartBy_any (some ⟨rb, ro, none⟩) pb pc pc2 ss tt kd w' hlk hk3 hbp hbq h1 h2
    rw [hb1, ← hap, HPIC.out.2.1, HPIC2.out.2.1] at h
    exact h
  have HAQ : Hid (∀ w', RowS w' (some ⟨rb, ro, none⟩) ss → RowS w' pb tt → Calls Try.prog 91 #[.agg #[.slice pb H pc2], .agg #[.slice (some ⟨rb, ro, none⟩) H pc], .int .i64 kd] w' fun e w'' => e = .returned (.tuple #[.int .i64 ap, .bool (np && nq)]) ∧ w'.Ext w'') := fun w' h1 h2 => by
    have h := apartBy_any pb (some ⟨rb, ro, none⟩) pc2 pc tt ss kd w' hlk2 hk3 hbq hbp h2 h1
    rw [hb2, HOK.out.comm, ← hap, HPIC.out.2.1, HPIC2.out.2.1] at h
    exact h
  have HSM : Hid (∀ w' a1 c1, RowS w' a1 ss → RowS w' (some ⟨rb, ro, none⟩) ss → Calls Try.prog 51 #[.agg #[.slice a1 H c1], .agg #[.slice (some ⟨rb, ro, none⟩) H pc]] w' fun e w'' => e = .returned (.bool true) ∧ w'.Ext w'') := fun w' a1 c1 h1 h2 => by
    have h := r8Same_any a1 (some ⟨rb, ro, none⟩) c1 pc ss ss w' (by rw [HSL.out]; omega) h1 h2
    rw [decide_eq_true rfl, HSL.out] at h
    exact h
  have HSQ : Hid (∀ w', RowS w' (some ⟨rb, ro, none⟩) ss → RowS w' pb tt → Calls Try.prog 51 #[.agg #[.slice (some ⟨rb, ro, none⟩) H pc], .agg #[.slice pb H pc2]] w' fun e w'' => e = .returned (.bool (decide (ss = tt))) ∧ w'.Ext w'') := fun w' h1 h2 => by
    have h := r8Same_any (some ⟨rb, ro, none⟩) pb pc pc2 ss tt w' (by rw [HSL.out]; omega) h1 h2
    rw [HSL.out, HSL2.out] at h
    exact h
  obtain ⟨mg1, mg2⟩ := made_rows g3 (show W ≤ 16 by omega) g1 (show H ≤ 16 by omega) (growB kd bb W H (picL ss))
  obtain ⟨ms1, ms2⟩ := made_rows g3 (show W ≤ 16 by omega) g1 (show H ≤ 16 by omega) (shrB kd bb W H (picL ss))
  have HBG : Hid (∀ w' pr cr (x y : Nat), x < W → y < H → RowS w' pr (picRows W H (mkl W H (growB kd bb W H (picL ss)))) → Calls Try.prog 52 #[.agg #[.slice pr H cr], .int .i64 x, .int .i64 y] w' fun e w'' => e = .returned (.bool (growB kd bb W H (picL ss) x y)) ∧ w'.Ext w'') := fun w' pr cr x y hx hy hr => by
    have h := r8Black_any pr cr _ x y w' mg1.1 hr
    rw [mg1.2.1, mg1.2.2, mg2 x y hx hy] at h
    exact h
  have HBS : Hid (∀ w' pr cr (x y : Nat), x < W → y < H → RowS w' pr (picRows W H (mkl W H (shrB kd bb W H (picL ss)))) → Calls Try.prog 52 #[.agg #[.slice pr H cr], .int .i64 x, .int .i64 y] w' fun e w'' => e = .returned (.bool (decide ((bb : Int) < depI kd W H (picL ss) x y))) ∧ w'.Ext w'') := fun w' pr cr x y hx hy hr => by
    have h := r8Black_any pr cr _ x y w' ms1.1 hr
    rw [ms1.2.1, ms1.2.2, ms2 x y hx hy] at h
    exact h
  have HLG : Hid ((picRows W H (mkl W H (growB kd bb W H (picL ss)))).length = H) := picRows_len _ _ _
  have HLS : Hid ((picRows W H (mkl W H (shrB kd bb W H (picL ss)))).length = H) := picRows_len _ _ _
  have HIQ : Hid (np = true → nq = true → ∀ w' pr cr, RowS w' pb tt → RowS w' pr (picRows W H (mkl W H (growB kd ap W H (picL ss)))) → Calls Try.prog 22 #[.agg #[.slice pb H pc2], .agg #[.slice pr H cr]] w' fun e w'' => e = .returned (.bool true) ∧ w'.Ext w'') := fun e1 e2 w' pr cr h1 h2 => by
    obtain ⟨m1, -⟩ := made_rows g3 (show W ≤ 16 by omega) g1 (show H ≤ 16 by omega) (growB kd ap W H (picL ss))
    have h := implInside_any pb pc2 tt pr cr _ w' hbq (pic_bndM m1 (by omega) (by omega)) h1 h2
    have hw := HOK.out.wide (by rw [hnp] at e1; exact of_decide_eq_true e1)
    have hap2 : ap = aprI kd ss tt := by rw [hap, e1, e2]; rfl
    rw [← hap2] at hw
    have hl : likeP tt (picRows W H (mkl W H (growB kd ap W H (picL ss)))) = true := by unfold likeP; rw [HPIC2.out.1, m1.1, HPIC2.out.2.1, HPIC2.out.2.2, m1.2.1, m1.2.2]; simp
    rw [hl, hw, HPIC2.out.2.1, m1.2.1] at h
    exact h
  have HIP : Hid (np = true → nq = true → ∀ w' pr cr, RowS w' (some ⟨rb, ro, none⟩) ss → RowS w' pr (picRows W H (mkl W H (growB kd ap W H (picL tt)))) → Calls Try.prog 22 #[.agg #[.slice (some ⟨rb, ro, none⟩) H pc], .agg #[.slice pr H cr]] w' fun e w'' => e = .returned (.bool true) ∧ w'.Ext w'') := fun e1 e2 w' pr cr h1 h2 => by
    obtain ⟨m1, -⟩ := made_rows g3 (show W ≤ 16 by omega) g1 (show H ≤ 16 by omega) (growB kd ap W H (picL tt))
    have h := implInside_any (some ⟨rb, ro, none⟩) pc ss pr cr _ w' hbp (pic_bndM m1 (by omega) (by omega)) h1 h2
    have hw := HOK.out.broad (by rw [hnq] at e2; exact of_decide_eq_true e2)
    have hap2 : ap = aprI kd ss tt := by rw [hap, e1, e2]; rfl
    rw [← hap2] at hw
    have hl : likeP ss (picRows W H (mkl W H (growB kd ap W H (picL tt)))) = true := by unfold likeP; rw [HPIC.out.1, m1.1, HPIC.out.2.1, HPIC.out.2.2, m1.2.1, m1.2.2]; simp
    rw [hl, hw, HPIC.out.2.1, m1.2.1] at h
    exact h
  have HAB : Hid (np = true → nq = true → inB ap 0 512 = true ∧ (ap == 0) = decide (ss = tt)) := fun e1 e2 => by
    have hap2 : ap = aprI kd ss tt := by rw [hap, e1, e2]; rfl
    rw [hnp] at e1
    rw [hnq] at e2
    rw [hap2]
    exact ⟨inB_true.2 (HOK.out.small (of_decide_eq_true e1) (of_decide_eq_true e2)), HOK.out.same (of_decide_eq_true e1) (of_decide_eq_true e2)⟩
  have HSIX : Hid (np = true → ∀ x y, growB kd bb W H (picL ss) x y = decide (disI kd W H (picL ss) x y ≤ bb)) := fun e1 x y => by
    rw [hnp] at e1
    exact HOK.out.six x y (of_decide_eq_true e1)
  have HNOS : Hid (np = false → ∀ x y, growB kd bb W H (picL ss) x y = false) := fun e1 x y => by
    rw [hnp] at e1
    exact HOK.out.none x y (of_decide_eq_false e1)
  have HLW : Hid (∀ d (L : List Bool), (picRows W H (mkl W H (growB kd d W H L))).length = H) := fun d L => picRows_len _ _ _
  clear hk3 hbp hbq gok hsp hsq hlk hlk2 hb1 hb2 hap hnp hnq mg1 mg2 ms1 ms2 HOK HPIC HPIC2 HSP
  generalize picRows W H (mkl W H (growB kd bb W H (picL ss))) = RG at *
  generalize picRows W H (mkl W H (shrB kd bb W H (picL ss))) = RS at *
  generalize growB kd bb W H (picL ss) = gB at *
  generalize depI kd W H (picL ss) = dep at *
  generalize disI kd W H (picL ss) = dis at *
  generalize disI kd W H (picL tt) = dis2 at *
  generalize decide (ss = tt) = sm at *
  have c5 := (HALL.out v5 HX.out).1
  have lc5 := World.block_lt_of_cell? _ _ c5
  go_wp2_with fail
  refine (HC1.out v5 (HALL.out v5 HX.out).2.1).mono ?_
  rintro e v6 ⟨pg, kg, rfl, hx, ho⟩
  clear lc5 c5
  have HX_ := Lib.hid (HX.out.trans hx)
  clear HX
  have HX := HX_
  clear HX_
  rw [HLG.out]
  have HO := Lib.hid ho.row
  clear ho HC1
  clear hx
  obtain ⟨b6, hb6⟩ : ∃ b6, b6 = v6.alloc (.cells #[.slice pg H kg] 26) := ⟨_, rfl⟩
  have hxb : v6.Ext b6 := by rw [hb6]; repeat (first | exact World.Ext.refl _ | exact ⟨_, rfl⟩ | assumption | refine World.Ext.over ?_ _ | refine World.Ext.drewN ?_ _ | refine World.Ext.drew ?_ | refine World.Ext.alloc ?_ _ | refine World.Ext.setCell ?_ (by simp) _)
  have c11_ : b6.cell? ⟨v6.heap.size, 0, none⟩ = some (.slice pg H kg) := by rw [hb6]; simp [go_sem]
  have HALL_ : Hid (∀ w', b6.Ext w' → w'.cell? ⟨q5, 0, none⟩ = some (.slice (some ⟨rb, ro, none⟩) H pc) ∧ RowS w' (some ⟨rb, ro, none⟩) ss ∧ w'.cell? ⟨q8, 0, none⟩ = some (.slice pb H pc2) ∧ RowS w' pb tt ∧ w'.cell? ⟨v6.heap.size, 0, none⟩ = some (.slice pg H kg) ∧ RowS w' pg RG ∧ True) := fun w' hx' => ⟨(HALL.out w' ((HX.out.trans hxb).trans hx')).1, (HALL.out w' ((HX.out.trans hxb).trans hx')).2.1, (HALL.out w' ((HX.out.trans hxb).trans hx')).2.2.1, (HALL.out w' ((HX.out.trans hxb).trans hx')).2.2.2.1, hx'.cell c11_, RowOf.ext HO.out (hxb.trans hx'), trivial⟩
  have HWB_ := Lib.hid (HWB.out.trans (HX.out.trans hxb))
  have HX_ : Hid (b6.Ext b6) := .refl _
  clear hxb c11_ HWB HX HALL
  have HALL := HALL_
  have HWB := HWB_
  have HX := HX_
  clear HALL_ HWB_ HX_
  clear HO
  go_upto_region 10 with fail
  rw [← hb6]
  clear hb6
  generalize v6.heap.size = q11 at *
  have c5 := (HALL.out b6 HX.out).1
  have lc5 := World.block_lt_of_cell? _ _ c5
  go_wp2_with fail
  refine (HC2.out b6 (HALL.out b6 HX.out).2.1).mono ?_
  rintro e v7 ⟨ps, ks, rfl, hx, ho⟩
  clear lc5 c5
  have HX_ := Lib.hid (HX.out.trans hx)
  clear HX
  have HX := HX_
  clear HX_
  rw [HLS.out]
  have HO := Lib.hid ho.row
  clear ho HC2
  clear hx
  obtain ⟨b7, hb7⟩ : ∃ b7, b7 = v7.alloc (.cells #[.slice ps H ks] 26) := ⟨_, rfl⟩
  have hxb : v7.Ext b7 := by rw [hb7]; repeat (first | exact World.Ext.refl _ | exact ⟨_, rfl⟩ | assumption | refine World.Ext.over ?_ _ | refine World.Ext.drewN ?_ _ | refine World.Ext.drew ?_ | refine World.Ext.alloc ?_ _ | refine World.Ext.setCell ?_ (by simp) _)
  have c13_ : b7.cell? ⟨v7.heap.size, 0, none⟩ = some (.slice ps H ks) := by rw [hb7]; simp [go_sem]
  have HALL_ : Hid (∀ w', b7.Ext w' → w'.cell? ⟨q5, 0, none⟩ = some (.slice (some ⟨rb, ro, none⟩) H pc) ∧ RowS w' (some ⟨rb, ro, none⟩) ss ∧ w'.cell? ⟨q8, 0, none⟩ = some (.slice pb H pc2) ∧ RowS w' pb tt ∧ w'.cell? ⟨q11, 0, none⟩ = some (.slice pg H kg) ∧ RowS w' pg RG ∧ w'.cell? ⟨v7.heap.size, 0, none⟩ = some (.slice ps H ks) ∧ RowS w' ps RS ∧ True) := fun w' hx' => ⟨(HALL.out w' ((HX.out.trans hxb).trans hx')).1, (HALL.out w' ((HX.out.trans hxb).trans hx')).2.1, (HALL.out w' ((HX.out.trans hxb).trans hx')).2.2.1, (HALL.out w' ((HX.out.trans hxb).trans hx')).2.2.2.1, (HALL.out w' ((HX.out.trans hxb).trans hx')).2.2.2.2.1, (HALL.out w' ((HX.out.trans hxb).trans hx')).2.2.2.2.2.1, hx'.cell c13_, RowOf.ext HO.out (hxb.trans hx'), trivial⟩
  have HWB_ := Lib.hid (HWB.out.trans (HX.out.trans hxb))
  have HX_ : Hid (b7.Ext b7) := .refl _
  clear hxb c13_ HWB HX HALL
  have HALL := HALL_
  have HWB := HWB_
  have HX := HX_
  clear HALL_ HWB_ HX_
  clear HO
  go_upto_region 11 with fail
  rw [← hb7]
  clear hb7
  generalize v7.heap.size = q13 at *
  have c5 := (HALL.out b7 HX.out).1
  have lc5 := World.block_lt_of_cell? _ _ c5
  go_wp2_with fail
  refine (HC3.out b7 (HALL.out b7 HX.out).2.1).mono ?_
  rintro e v8 ⟨pz, kz, rfl, hx, ho⟩
  clear lc5 c5
  have HX_ := Lib.hid (HX.out.trans hx)
  clear HX
  have HX := HX_
  clear HX_
  rw [HSL.out]
  have HO := Lib.hid ho.row
  clear ho HC3
  clear hx
  obtain ⟨b8, hb8⟩ : ∃ b8, b8 = v8.alloc (.cells #[.slice pz H kz] 26) := ⟨_, rfl⟩
  have hxb : v8.Ext b8 := by rw [hb8]; repeat (first | exact World.Ext.refl _ | exact ⟨_, rfl⟩ | assumption | refine World.Ext.over ?_ _ | refine World.Ext.drewN ?_ _ | refine World.Ext.drew ?_ | refine World.Ext.alloc ?_ _ | refine World.Ext.setCell ?_ (by simp) _)
  have c15_ : b8.cell? ⟨v8.heap.size, 0, none⟩ = some (.slice pz H kz) := by rw [hb8]; simp [go_sem]
  have HALL_ : Hid (∀ w', b8.Ext w' → w'.cell? ⟨q5, 0, none⟩ = some (.slice (some ⟨rb, ro, none⟩) H pc) ∧ RowS w' (some ⟨rb, ro, none⟩) ss ∧ w'.cell? ⟨q8, 0, none⟩ = some (.slice pb H pc2) ∧ RowS w' pb tt ∧ w'.cell? ⟨q11, 0, none⟩ = some (.slice pg H kg) ∧ RowS w' pg RG ∧ w'.cell? ⟨q13, 0, none⟩ = some (.slice ps H ks) ∧ RowS w' ps RS ∧ w'.cell? ⟨v8.heap.size, 0, none⟩ = some (.slice pz H kz) ∧ RowS w' pz ss ∧ True) := fun w' hx' => ⟨(HALL.out w' ((HX.out.trans hxb).trans hx')).1, (HALL.out w' ((HX.out.trans hxb).trans hx')).2.1, (HALL.out w' ((HX.out.trans hxb).trans hx')).2.2.1, (HALL.out w' ((HX.out.trans hxb).trans hx')).2.2.2.1, (HALL.out w' ((HX.out.trans hxb).trans hx')).2.2.2.2.1, (HALL.out w' ((HX.out.trans hxb).trans hx')).2.2.2.2.2.1, (HALL.out w' ((HX.out.trans hxb).trans hx')).2.2.2.2.2.2.1, (HALL.out w' ((HX.out.trans hxb).trans hx')).2.2.2.2.2.2.2.1, hx'.cell c15_, RowOf.ext HO.out (hxb.trans hx'), trivial⟩
  have HWB_ := Lib.hid (HWB.out.trans (HX.out.trans hxb))
  have HX_ : Hid (b8.Ext b8) := .refl _
  clear hxb c15_ HWB HX HALL
  have HALL := HALL_
  have HWB := HWB_
  have HX := HX_
  clear HALL_ HWB_ HX_
  clear HO
  go_upto_region 12 with fail
  rw [← hb8]
  clear hb8
  generalize v8.heap.size = q15 at *
  have c5 := (HALL.out b8 HX.out).1
  have lc5 := World.block_lt_of_cell? _ _ c5
  go_wp2_with fail
  refine (HC4.out b8 (HALL.out b8 HX.out).2.1).mono ?_
  rintro e v9 ⟨pt, kt, rfl, hx, ho⟩
  clear lc5 c5
  have HX_ := Lib.hid (HX.out.trans hx)
  clear HX
  have HX := HX_
  clear HX_
  rw [HSL.out]
  have HO := Lib.hid ho.row
  clear ho HC4
  clear hx
  obtain ⟨b9, hb9⟩ : ∃ b9, b9 = v9.alloc (.cells #[.slice pt H kt] 26) := ⟨_, rfl⟩
  have hxb : v9.Ext b9 := by rw [hb9]; repeat (first | exact World.Ext.refl _ | exact ⟨_, rfl⟩ | assumption | refine World.Ext.over ?_ _ | refine World.Ext.drewN ?_ _ | refine World.Ext.drew ?_ | refine World.Ext.alloc ?_ _ | refine World.Ext.setCell ?_ (by simp) _)
  have c17_ : b9.cell? ⟨v9.heap.size, 0, none⟩ = some (.slice pt H kt) := by rw [hb9]; simp [go_sem]
  have HALL_ : Hid (∀ w', b9.Ext w' → w'.cell? ⟨q5, 0, none⟩ = some (.slice (some ⟨rb, ro, none⟩) H pc) ∧ RowS w' (some ⟨rb, ro, none⟩) ss ∧ w'.cell? ⟨q8, 0, none⟩ = some (.slice pb H pc2) ∧ RowS w' pb tt ∧ w'.cell? ⟨q11, 0, none⟩ = some (.slice pg H kg) ∧ RowS w' pg RG ∧ w'.cell? ⟨q13, 0, none⟩ = some (.slice ps H ks) ∧ RowS w' ps RS ∧ w'.cell? ⟨q15, 0, none⟩ = some (.slice pz H kz) ∧ RowS w' pz ss ∧ w'.cell? ⟨v9.heap.size, 0, none⟩ = some (.slice pt H kt) ∧ RowS w' pt ss ∧ True) := fun w' hx' => ⟨(HALL.out w' ((HX.out.trans hxb).trans hx')).1, (HALL.out w' ((HX.out.trans hxb).trans hx')).2.1, (HALL.out w' ((HX.out.trans hxb).trans hx')).2.2.1, (HALL.out w' ((HX.out.trans hxb).trans hx')).2.2.2.1, (HALL.out w' ((HX.out.trans hxb).trans hx')).2.2.2.2.1, (HALL.out w' ((HX.out.trans hxb).trans hx')).2.2.2.2.2.1, (HALL.out w' ((HX.out.trans hxb).trans hx')).2.2.2.2.2.2.1, (HALL.out w' ((HX.out.trans hxb).trans hx')).2.2.2.2.2.2.2.1, (HALL.out w' ((HX.out.trans hxb).trans hx')).2.2.2.2.2.2.2.2.1, (HALL.out w' ((HX.out.trans hxb).trans hx')).2.2.2.2.2.2.2.2.2.1, hx'.cell c17_, RowOf.ext HO.out (hxb.trans hx'), trivial⟩
  have HWB_ := Lib.hid (HWB.out.trans (HX.out.trans hxb))
  have HX_ : Hid (b9.Ext b9) := .refl _
  clear hxb c17_ HWB HX HALL
  have HALL := HALL_
  have HWB := HWB_
  have HX := HX_
  clear HALL_ HWB_ HX_
  clear HO
  go_upto_region 13 with fail
  rw [← hb9]
  clear hb9
  generalize v9.heap.size = q17 at *
  have c5 := (HALL.out b9 HX.out).1
  have lc5 := World.block_lt_of_cell? _ _ c5
  go_wp2_with fail
  refine (HDP.out b9 (HALL.out b9 HX.out).2.1).mono ?_
  rintro e v10 ⟨dl, dc, DA, DC, rfl, hx, hmat⟩
  clear lc5 c5
  have HX_ := Lib.hid (HX.out.trans hx)
  clear HX
  have HX := HX_
  clear HX_
  rw [grd_len]
  have HMD := Lib.hid hmat.mat
  clear HDP hmat
  clear hx
  cases np
  · skip
    as_aux_lemma =>
    have HSX := Lib.hid (HNOS.out rfl)
    clear HSIX HNOS
    have HDI2 : Hid (∀ w', RowS w' (some ⟨rb, ro, none⟩) ss → Calls Try.prog 90 #[.agg #[.slice (some ⟨rb, ro, none⟩) H pc], .int .i64 kd] w' (MatRet2 w' [] false)) := HDI.out
    clear HDI
    have c5 := (HALL.out v10 HX.out).1
    have lc5 := World.block_lt_of_cell? _ _ c5
    go_wp2_with fail
    refine (HDI2.out v10 (HALL.out v10 HX.out).2.1).mono ?_
    rintro e v11 ⟨ll, lc, LA, LC, rfl, hx, -⟩
    clear lc5 c5
    have HX_ := Lib.hid (HX.out.trans hx)
    clear HX
    have HX := HX_
    clear HX_
    clear HDI2
    have HMD_ := Lib.hid (HMD.out.ext hx)
    clear HMD
    have HMD := HMD_
    clear HMD_
    clear hx
    have HAP2 : Hid (∀ w', RowS w' (some ⟨rb, ro, none⟩) ss → RowS w' pb tt → Calls Try.prog 91 #[.agg #[.slice (some ⟨rb, ro, none⟩) H pc], .agg #[.slice pb H pc2], .int .i64 kd] w' fun e w'' => e = .returned (.tuple #[.int .i64 ap, .bool false]) ∧ w'.Ext w'') := HAP.out
    have HAQ2 : Hid (∀ w', RowS w' (some ⟨rb, ro, none⟩) ss → RowS w' pb tt → Calls Try.prog 91 #[.agg #[.slice pb H pc2], .agg #[.slice (some ⟨rb, ro, none⟩) H pc], .int .i64 kd] w' fun e w'' => e = .returned (.tuple #[.int .i64 ap, .bool false]) ∧ w'.Ext w'') := HAQ.out
    clear HAP HAQ
    have c5 := (HALL.out v11 HX.out).1
    have lc5 := World.block_lt_of_cell? _ _ c5
    have c8 := (HALL.out v11 HX.out).2.2.1
    have lc8 := World.block_lt_of_cell? _ _ c8
    go_wp2_with fail
    refine (HAP2.out v11 (HALL.out v11 HX.out).2.1 (HALL.out v11 HX.out).2.2.2.1).mono ?_
    rintro e v12 ⟨rfl, hx⟩
    clear lc5 c5 lc8 c8
    have HX_ := Lib.hid (HX.out.trans hx)
    clear HX
    have HX := HX_
    clear HX_
    clear HAP2
    have HMD_ := Lib.hid (HMD.out.ext hx)
    clear HMD
    have HMD := HMD_
    clear HMD_
    clear hx
    have c5 := (HALL.out v12 HX.out).1
    have lc5 := World.block_lt_of_cell? _ _ c5
    have c8 := (HALL.out v12 HX.out).2.2.1
    have lc8 := World.block_lt_of_cell? _ _ c8
    go_wp2_with fail
    refine (HAQ2.out v12 (HALL.out v12 HX.out).2.1 (HALL.out v12 HX.out).2.2.2.1).mono ?_
    rintro e v13 ⟨rfl, hx⟩
    clear lc5 c5 lc8 c8
    have HX_ := Lib.hid (HX.out.trans hx)
    clear HX
    have HX := HX_
    clear HX_
    clear HAQ2
    have HMD_ := Lib.hid (HMD.out.ext hx)
    clear HMD
    have HMD := HMD_
    clear HMD_
    clear hx
    have c5 := (HALL.out v13 HX.out).1
    have lc5 := World.block_lt_of_cell? _ _ c5
    have c15 := (HALL.out v13 HX.out).2.2.2.2.2.2.2.2.1
    have lc15 := World.block_lt_of_cell? _ _ c15
    go_wp2_with fail
    refine (HSM.out v13 _ _ (HALL.out v13 HX.out).2.2.2.2.2.2.2.2.2.1 (HALL.out v13 HX.out).2.1).mono ?_
    rintro e v14 ⟨rfl, hx⟩
    clear lc5 c5 lc15 c15
    have HX_ := Lib.hid (HX.out.trans hx)
    clear HX
    have HX := HX_
    clear HX_
    have HMD_ := Lib.hid (HMD.out.ext hx)
    clear HMD
    have HMD := HMD_
    clear HMD_
    clear hx
    have c5 := (HALL.out v14 HX.out).1
    have lc5 := World.block_lt_of_cell? _ _ c5
    have c17 := (HALL.out v14 HX.out).2.2.2.2.2.2.2.2.2.2.1
    have lc17 := World.block_lt_of_cell? _ _ c17
    go_wp2_with fail
    refine (HSM.out v14 _ _ (HALL.out v14 HX.out).2.2.2.2.2.2.2.2.2.2.2.1 (HALL.out v14 HX.out).2.1).mono ?_
    rintro e v15 ⟨rfl, hx⟩
    clear lc5 c5 lc17 c17
    have HX_ := Lib.hid (HX.out.trans hx)
    clear HX
    have HX := HX_
    clear HX_
    clear HSM
    have HMD_ := Lib.hid (HMD.out.ext hx)
    clear HMD
    have HMD := HMD_
    clear HMD_
    clear hx
    obtain ⟨db, do', ddb, ddo, ddc, rfl, -, -⟩ := mat_grd HMD.out (x := 0) (y := 0) (by omega) (by omega)
    have HDR : Hid (∀ wr (x y : Nat), v15.Ext wr → x < W → y < H → ∃ bk ok ck, wr.cell? ⟨db, do' + y, none⟩ = some (.slice (some ⟨bk, ok, none⟩) W ck) ∧ wr.cell? ⟨bk, ok + x, none⟩ = some (.int .i64 (dep x y))) := fun wr x y hx h1 h2 => by
      obtain ⟨b, o, bk, ok, ck, e, q1, q2⟩ := mat_grd HMD.out h1 h2
      cases e
      exact ⟨bk, ok, ck, hx.cell q1, hx.cell q2⟩
    clear HMD ddb ddo ddc
    have c5 := (HALL.out v15 HX.out).1
    have lc5 := World.block_lt_of_cell? _ _ c5
    have c11 := (HALL.out v15 HX.out).2.2.2.2.1
    have lc11 := World.block_lt_of_cell? _ _ c11
    have c13 := (HALL.out v15 HX.out).2.2.2.2.2.2.1
    have lc13 := World.block_lt_of_cell? _ _ c13
    go_wp2
    clear c5 lc5 c11 lc11 c13 lc13
    go_loopw [27, 28] (fun y _ wr => ∃ y' : Nat, y' ≤ H ∧ y = .int .i64 y' ∧ Hid (v15.Ext wr)) (fun y _ _ => H - (intOf y).toNat)
    case atStart => exact ⟨0, Nat.zero_le _, rfl, .refl _⟩
    case round =>
      as_aux_lemma =>
      obtain ⟨y, hy, rfl, HY⟩ := hrel
      obtain ⟨wy, rfl⟩ : ∃ wy : World, wy = wr := ⟨_, rfl⟩
      have hy0 : (0 : Int) ≤ (y : Int) := by omega
      by_cases hlty : y < H
      · have hlty' : (y : Int) < (H : Int) := by omega
        go_wp2
        go_loopw [28] (fun x wr => ∃ x' : Nat, x' ≤ W ∧ x = .int .i64 x' ∧ Hid (v15.Ext wr)) (fun x _ => W - (intOf x).toNat)
        case atStart => exact ⟨0, Nat.zero_le _, rfl, HY⟩
        case round =>
          as_aux_lemma =>
          clear HY
          obtain ⟨x, hx, rfl, HY⟩ := hrel
          obtain ⟨wx, rfl⟩ : ∃ wx : World, wx = wr := ⟨_, rfl⟩
          have hx0 : (0 : Int) ≤ (x : Int) := by omega
          by_cases hltx : x < W
          · have hltx' : (x : Int) < (W : Int) := by omega
            have HYB : Hid (b9.Ext wx) := HX.out.trans HY.out
            obtain ⟨bk, ok, ck, d1, d2⟩ := HDR.out wx x y HY.out hltx hlty
            have c11 := (HALL.out wx HYB.out).2.2.2.2.1
            have c13 := (HALL.out wx HYB.out).2.2.2.2.2.2.1
            have HQB : Hid (∀ x1 (vp : Value) (bp : Bool), (vp = .agg #[.slice ps H ks] ∧ bp = decide ((bb : Int) < dep x y)) ∨ (vp = .agg #[.slice pg H kg] ∧ bp = gB x y) → Calls Try.prog 52 #[vp, .int .i64 x, .int .i64 y] (wx.over x1) fun e w'' => e = .returned (.bool bp) ∧ (wx.over x1).Ext w'') := fun x1 vp bp hp => by
              rcases hp with ⟨rfl, rfl⟩ | ⟨rfl, rfl⟩
              · exact HBS.out (wx.over x1) _ ks x y hltx hlty (RowOf.ext ((HALL.out wx HYB.out).2.2.2.2.2.2.2.1) ⟨_, rfl⟩)
              · exact HBG.out (wx.over x1) _ kg x y hltx hlty (RowOf.ext ((HALL.out wx HYB.out).2.2.2.2.2.1) ⟨_, rfl⟩)
            rw [HSX.out x y] at HQB
            generalize dep x y = dd at *
            go_wp2_with fail
            refine wp_region_over_lit (by kernel_rfl) (by kernel_rfl) ?_; (repeat (go_big_quiet_step ((first | (go_at_call 52; exact Calls.over_of (HQB.out _ _ _ (.inl ⟨rfl, rfl⟩))) | (go_at_call 52; exact Calls.over_of (HQB.out _ _ _ (.inr ⟨rfl, rfl⟩))))))); refine wpQuiet_nil ?_; rintro _ ⟨x1, rfl⟩
            have HY2 : Hid (v15.Ext (wx.over x1)) := HY.out.trans ⟨x1, rfl⟩
            clear d1 d2 c11 c13 HQB HYB HY
            go_wp2
            go_roundw
            case rel => exact ⟨x + 1, by omega, by go_num, HY2⟩
            case measure => simp [intOf]; omega
          · have hxe : ¬ (x : Int) < (W : Int) := by omega
            go_wp2
            go_roundw
            case rel => exact ⟨y + 1, by omega, by go_num, HY⟩
            case measure => simp [intOf]; omega
      · have hye : ¬ (y : Int) < (H : Int) := by omega
        have HX_ := Lib.hid (HX.out.trans HY.out)
        clear HX HY HDR
        have HX := HX_
        clear HX_
        have c8 := (HALL.out wy HX.out).2.2.1
        have lc8 := World.block_lt_of_cell? _ _ c8
        go_wp2_with fail
        refine (HDJ.out wy (HALL.out wy HX.out).2.2.2.1).mono ?_
        rintro e v16 ⟨pz9, cz9, PZ, CZ, rfl, hx, -⟩
        clear lc8 c8
        have HX_ := Lib.hid (HX.out.trans hx)
        clear HX
        have HX := HX_
        clear HX_
        clear HDJ
        generalize (optM nq (grd W H dis2)).length = zl at *
        clear hx
        cases nq
        all_goals
          have HFIN := Lib.hid ((HWB.out.trans HX.out))
          go_wp2
          go_ret
          exact ⟨rfl, HFIN.out⟩
  · skip
    as_aux_lemma =>
    have HSX := Lib.hid (HSIX.out rfl)
    clear HSIX HNOS
    have HDI2 : Hid (∀ w', RowS w' (some ⟨rb, ro, none⟩) ss → Calls Try.prog 90 #[.agg #[.slice (some ⟨rb, ro, none⟩) H pc], .int .i64 kd] w' (MatRet2 w' (grd W H dis) true)) := HDI.out
    clear HDI
    have c5 := (HALL.out v10 HX.out).1
    have lc5 := World.block_lt_of_cell? _ _ c5
    go_wp2_with fail
    refine (HDI2.out v10 (HALL.out v10 HX.out).2.1).mono ?_
    rintro e v11 ⟨ll, lc, LA, LC, rfl, hx, hmat⟩
    clear lc5 c5
    have HX_ := Lib.hid (HX.out.trans hx)
    clear HX
    have HX := HX_
    clear HX_
    rw [grd_len]
    have HML := Lib.hid hmat.mat
    clear HDI2 hmat
    have HMD_ := Lib.hid (HMD.out.ext hx)
    clear HMD
    have HMD := HMD_
    clear HMD_
    clear hx
    have HAP2 : Hid (∀ w', RowS w' (some ⟨rb, ro, none⟩) ss → RowS w' pb tt → Calls Try.prog 91 #[.agg #[.slice (some ⟨rb, ro, none⟩) H pc], .agg #[.slice pb H pc2], .int .i64 kd] w' fun e w'' => e = .returned (.tuple #[.int .i64 ap, .bool nq]) ∧ w'.Ext w'') := HAP.out
    have HAQ2 : Hid (∀ w', RowS w' (some ⟨rb, ro, none⟩) ss → RowS w' pb tt → Calls Try.prog 91 #[.agg #[.slice pb H pc2], .agg #[.slice (some ⟨rb, ro, none⟩) H pc], .int .i64 kd] w' fun e w'' => e = .returned (.tuple #[.int .i64 ap, .bool nq]) ∧ w'.Ext w'') := HAQ.out
    clear HAP HAQ
    have c5 := (HALL.out v11 HX.out).1
    have lc5 := World.block_lt_of_cell? _ _ c5
    have c8 := (HALL.out v11 HX.out).2.2.1
    have lc8 := World.block_lt_of_cell? _ _ c8
    go_wp2_with fail
    refine (HAP2.out v11 (HALL.out v11 HX.out).2.1 (HALL.out v11 HX.out).2.2.2.1).mono ?_
    rintro e v12 ⟨rfl, hx⟩
    clear lc5 c5 lc8 c8
    have HX_ := Lib.hid (HX.out.trans hx)
    clear HX
    have HX := HX_
    clear HX_
    clear HAP2
    have HMD_ := Lib.hid (HMD.out.ext hx)
    clear HMD
    have HMD := HMD_
    clear HMD_
    have HML_ := Lib.hid (HML.out.ext hx)
    clear HML
    have HML := HML_
    clear HML_
    clear hx
    have c5 := (HALL.out v12 HX.out).1
    have lc5 := World.block_lt_of_cell? _ _ c5
    have c8 := (HALL.out v12 HX.out).2.2.1
    have lc8 := World.block_lt_of_cell? _ _ c8
    go_wp2_with fail
    refine (HAQ2.out v12 (HALL.out v12 HX.out).2.1 (HALL.out v12 HX.out).2.2.2.1).mono ?_
    rintro e v13 ⟨rfl, hx⟩
    clear lc5 c5 lc8 c8
    have HX_ := Lib.hid (HX.out.trans hx)
    clear HX
    have HX := HX_
    clear HX_
    clear HAQ2
    have HMD_ := Lib.hid (HMD.out.ext hx)
    clear HMD
    have HMD := HMD_
    clear HMD_
    have HML_ := Lib.hid (HML.out.ext hx)
    clear HML
    have HML := HML_
    clear HML_
    clear hx
    have c5 := (HALL.out v13 HX.out).1
    have lc5 := World.block_lt_of_cell? _ _ c5
    have c15 := (HALL.out v13 HX.out).2.2.2.2.2.2.2.2.1
    have lc15 := World.block_lt_of_cell? _ _ c15
    go_wp2_with fail
    refine (HSM.out v13 _ _ (HALL.out v13 HX.out).2.2.2.2.2.2.2.2.2.1 (HALL.out v13 HX.out).2.1).mono ?_
    rintro e v14 ⟨rfl, hx⟩
    clear lc5 c5 lc15 c15
    have HX_ := Lib.hid (HX.out.trans hx)
    clear HX
    have HX := HX_
    clear HX_
    have HMD_ := Lib.hid (HMD.out.ext hx)
    clear HMD
    have HMD := HMD_
    clear HMD_
    have HML_ := Lib.hid (HML.out.ext hx)
    clear HML
    have HML := HML_
    clear HML_
    clear hx
    have c5 := (HALL.out v14 HX.out).1
    have lc5 := World.block_lt_of_cell? _ _ c5
    have c17 := (HALL.out v14 HX.out).2.2.2.2.2.2.2.2.2.2.1
    have lc17 := World.block_lt_of_cell? _ _ c17
    go_wp2_with fail
    refine (HSM.out v14 _ _ (HALL.out v14 HX.out).2.2.2.2.2.2.2.2.2.2.2.1 (HALL.out v14 HX.out).2.1).mono ?_
    rintro e v15 ⟨rfl, hx⟩
    clear lc5 c5 lc17 c17
    have HX_ := Lib.hid (HX.out.trans hx)
    clear HX
    have HX := HX_
    clear HX_
    clear HSM
    have HMD_ := Lib.hid (HMD.out.ext hx)
    clear HMD
    have HMD := HMD_
    clear HMD_
    have HML_ := Lib.hid (HML.out.ext hx)
    clear HML
    have HML := HML_
    clear HML_
    clear hx
    obtain ⟨db, do', ddb, ddo, ddc, rfl, -, -⟩ := mat_grd HMD.out (x := 0) (y := 0) (by omega) (by omega)
    have HDR : Hid (∀ wr (x y : Nat), v15.Ext wr → x < W → y < H → ∃ bk ok ck, wr.cell? ⟨db, do' + y, none⟩ = some (.slice (some ⟨bk, ok, none⟩) W ck) ∧ wr.cell? ⟨bk, ok + x, none⟩ = some (.int .i64 (dep x y))) := fun wr x y hx h1 h2 => by
      obtain ⟨b, o, bk, ok, ck, e, q1, q2⟩ := mat_grd HMD.out h1 h2
      cases e
      exact ⟨bk, ok, ck, hx.cell q1, hx.cell q2⟩
    clear HMD ddb ddo ddc
    obtain ⟨lb, lo, ddb, ddo, ddc, rfl, -, -⟩ := mat_grd HML.out (x := 0) (y := 0) (by omega) (by omega)
    have HLR : Hid (∀ wr (x y : Nat), v15.Ext wr → x < W → y < H → ∃ bk ok ck, wr.cell? ⟨lb, lo + y, none⟩ = some (.slice (some ⟨bk, ok, none⟩) W ck) ∧ wr.cell? ⟨bk, ok + x, none⟩ = some (.int .i64 (dis x y))) := fun wr x y hx h1 h2 => by
      obtain ⟨b, o, bk, ok, ck, e, q1, q2⟩ := mat_grd HML.out h1 h2
      cases e
      exact ⟨bk, ok, ck, hx.cell q1, hx.cell q2⟩
    clear HML ddb ddo ddc
    have c5 := (HALL.out v15 HX.out).1
    have lc5 := World.block_lt_of_cell? _ _ c5
    have c11 := (HALL.out v15 HX.out).2.2.2.2.1
    have lc11 := World.block_lt_of_cell? _ _ c11
    have c13 := (HALL.out v15 HX.out).2.2.2.2.2.2.1
    have lc13 := World.block_lt_of_cell? _ _ c13
    go_wp2
    clear c5 lc5 c11 lc11 c13 lc13
    go_loopw [27, 28] (fun y _ wr => ∃ y' : Nat, y' ≤ H ∧ y = .int .i64 y' ∧ Hid (v15.Ext wr)) (fun y _ _ => H - (intOf y).toNat)
    case atStart => exact ⟨0, Nat.zero_le _, rfl, .refl _⟩
    case round =>
      as_aux_lemma =>
      obtain ⟨y, hy, rfl, HY⟩ := hrel
      obtain ⟨wy, rfl⟩ : ∃ wy : World, wy = wr := ⟨_, rfl⟩
      have hy0 : (0 : Int) ≤ (y : Int) := by omega
      by_cases hlty : y < H
      · have hlty' : (y : Int) < (H : Int) := by omega
        go_wp2
        go_loopw [28] (fun x wr => ∃ x' : Nat, x' ≤ W ∧ x = .int .i64 x' ∧ Hid (v15.Ext wr)) (fun x _ => W - (intOf x).toNat)
        case atStart => exact ⟨0, Nat.zero_le _, rfl, HY⟩
        case round =>
          as_aux_lemma =>
          clear HY
          obtain ⟨x, hx, rfl, HY⟩ := hrel
          obtain ⟨wx, rfl⟩ : ∃ wx : World, wx = wr := ⟨_, rfl⟩
          have hx0 : (0 : Int) ≤ (x : Int) := by omega
          by_cases hltx : x < W
          · have hltx' : (x : Int) < (W : Int) := by omega
            have HYB : Hid (b9.Ext wx) := HX.out.trans HY.out
            obtain ⟨bk, ok, ck, d1, d2⟩ := HDR.out wx x y HY.out hltx hlty
            obtain ⟨bl, ol, cl, l1, l2⟩ := HLR.out wx x y HY.out hltx hlty
            have c11 := (HALL.out wx HYB.out).2.2.2.2.1
            have c13 := (HALL.out wx HYB.out).2.2.2.2.2.2.1
            have HQB : Hid (∀ x1 (vp : Value) (bp : Bool), (vp = .agg #[.slice ps H ks] ∧ bp = decide ((bb : Int) < dep x y)) ∨ (vp = .agg #[.slice pg H kg] ∧ bp = gB x y) → Calls Try.prog 52 #[vp, .int .i64 x, .int .i64 y] (wx.over x1) fun e w'' => e = .returned (.bool bp) ∧ (wx.over x1).Ext w'') := fun x1 vp bp hp => by
              rcases hp with ⟨rfl, rfl⟩ | ⟨rfl, rfl⟩
              · exact HBS.out (wx.over x1) _ ks x y hltx hlty (RowOf.ext ((HALL.out wx HYB.out).2.2.2.2.2.2.2.1) ⟨_, rfl⟩)
              · exact HBG.out (wx.over x1) _ kg x y hltx hlty (RowOf.ext ((HALL.out wx HYB.out).2.2.2.2.2.1) ⟨_, rfl⟩)
            rw [HSX.out x y] at HQB
            generalize dep x y = dd at *
            generalize dis x y = ee at *
            go_wp2_with fail
            refine wp_region_over_lit (by kernel_rfl) (by kernel_rfl) ?_; (repeat (go_big_quiet_step ((first | (go_at_call 52; exact Calls.over_of (HQB.out _ _ _ (.inl ⟨rfl, rfl⟩))) | (go_at_call 52; exact Calls.over_of (HQB.out _ _ _ (.inr ⟨rfl, rfl⟩))))))); refine wpQuiet_nil ?_; rintro _ ⟨x1, rfl⟩
            have HY2 : Hid (v15.Ext (wx.over x1)) := HY.out.trans ⟨x1, rfl⟩
            clear d1 d2 c11 c13 HQB HYB HY l1 l2
            go_wp2
            go_roundw
            case rel => exact ⟨x + 1, by omega, by go_num, HY2⟩
            case measure => simp [intOf]; omega
          · have hxe : ¬ (x : Int) < (W : Int) := by omega
            go_wp2
            go_roundw
            case rel => exact ⟨y + 1, by omega, by go_num, HY⟩
            case measure => simp [intOf]; omega
      · have hye : ¬ (y : Int) < (H : Int) := by omega
        have HX_ := Lib.hid (HX.out.trans HY.out)
        clear HX HY HDR HLR
        have HX := HX_
        clear HX_
        have c8 := (HALL.out wy HX.out).2.2.1
        have lc8 := World.block_lt_of_cell? _ _ c8
        go_wp2_with fail
        refine (HDJ.out wy (HALL.out wy HX.out).2.2.2.1).mono ?_
        rintro e v16 ⟨pz9, cz9, PZ, CZ, rfl, hx, -⟩
        clear lc8 c8
        have HX_ := Lib.hid (HX.out.trans hx)
        clear HX
        have HX := HX_
        clear HX_
        clear HDJ
        generalize (optM nq (grd W H dis2)).length = zl at *
        clear hx
        cases nq
        · have HFIN := Lib.hid ((HWB.out.trans HX.out))
          go_wp2
          go_ret
          exact ⟨rfl, HFIN.out⟩
        · skip
          obtain ⟨hb5, he5⟩ := HAB.out (by trivial) (by trivial)
          have HC5 := Lib.hid (fun w' (hr : RowS w' (some ⟨rb, ro, none⟩) ss) => HGP.out w' ap hb5 hr)
          have HC6 := Lib.hid (fun w' (hr : RowS w' pb tt) => HGQ.out w' ap hb5 hr)
          have HI5 := Lib.hid (HIQ.out (by trivial) (by trivial))
          have HI6 := Lib.hid (HIP.out (by trivial) (by trivial))
          have HLW1 := Lib.hid (HLW.out ap (picL ss))
          have HLW2 := Lib.hid (HLW.out ap (picL tt))
          clear HGP HGQ HIQ HIP HAB hb5 HLW
          generalize picRows W H (mkl W H (growB kd ap W H (picL ss))) = RW at *
          generalize picRows W H (mkl W H (growB kd ap W H (picL tt))) = RB at *
          have c5 := (HALL.out v16 HX.out).1
          have lc5 := World.block_lt_of_cell? _ _ c5
          go_wp2_with fail
          refine (HC5.out v16 (HALL.out v16 HX.out).2.1).mono ?_
          rintro e v17 ⟨pw, kw, rfl, hx, ho⟩
          clear lc5 c5
          have HX_ := Lib.hid (HX.out.trans hx)
          clear HX
          have HX := HX_
          clear HX_
          rw [HLW1.out]
          have HO := Lib.hid ho.row
          clear ho HC5
          clear hx
          obtain ⟨b17, hb17⟩ : ∃ b17, b17 = v17.alloc (.cells #[.slice pw H kw] 26) := ⟨_, rfl⟩
          have hxb : v17.Ext b17 := by rw [hb17]; repeat (first | exact World.Ext.refl _ | exact ⟨_, rfl⟩ | assumption | refine World.Ext.over ?_ _ | refine World.Ext.drewN ?_ _ | refine World.Ext.drew ?_ | refine World.Ext.alloc ?_ _ | refine World.Ext.setCell ?_ (by simp) _)
          have c31_ : b17.cell? ⟨v17.heap.size, 0, none⟩ = some (.slice pw H kw) := by rw [hb17]; simp [go_sem]
          have HALL_ : Hid (∀ w', b17.Ext w' → w'.cell? ⟨q5, 0, none⟩ = some (.slice (some ⟨rb, ro, none⟩) H pc) ∧ RowS w' (some ⟨rb, ro, none⟩) ss ∧ w'.cell? ⟨q8, 0, none⟩ = some (.slice pb H pc2) ∧ RowS w' pb tt ∧ w'.cell? ⟨q11, 0, none⟩ = some (.slice pg H kg) ∧ RowS w' pg RG ∧ w'.cell? ⟨q13, 0, none⟩ = some (.slice ps H ks) ∧ RowS w' ps RS ∧ w'.cell? ⟨q15, 0, none⟩ = some (.slice pz H kz) ∧ RowS w' pz ss ∧ w'.cell? ⟨q17, 0, none⟩ = some (.slice pt H kt) ∧ RowS w' pt ss ∧ w'.cell? ⟨v17.heap.size, 0, none⟩ = some (.slice pw H kw) ∧ RowS w' pw RW ∧ True) := fun w' hx' => ⟨(HALL.out w' ((HX.out.trans hxb).trans hx')).1, (HALL.out w' ((HX.out.trans hxb).trans hx')).2.1, (HALL.out w' ((HX.out.trans hxb).trans hx')).2.2.1, (HALL.out w' ((HX.out.trans hxb).trans hx')).2.2.2.1, (HALL.out w' ((HX.out.trans hxb).trans hx')).2.2.2.2.1, (HALL.out w' ((HX.out.trans hxb).trans hx')).2.2.2.2.2.1, (HALL.out w' ((HX.out.trans hxb).trans hx')).2.2.2.2.2.2.1, (HALL.out w' ((HX.out.trans hxb).trans hx')).2.2.2.2.2.2.2.1, (HALL.out w' ((HX.out.trans hxb).trans hx')).2.2.2.2.2.2.2.2.1, (HALL.out w' ((HX.out.trans hxb).trans hx')).2.2.2.2.2.2.2.2.2.1, (HALL.out w' ((HX.out.trans hxb).trans hx')).2.2.2.2.2.2.2.2.2.2.1, (HALL.out w' ((HX.out.trans hxb).trans hx')).2.2.2.2.2.2.2.2.2.2.2.1, hx'.cell c31_, RowOf.ext HO.out (hxb.trans hx'), trivial⟩
          have HWB_ := Lib.hid (HWB.out.trans (HX.out.trans hxb))
          have HX_ : Hid (b17.Ext b17) := .refl _
          clear hxb c31_ HWB HX HALL
          have HALL := HALL_
          have HWB := HWB_
          have HX := HX_
          clear HALL_ HWB_ HX_
          clear HO
          go_upto_region 33 with fail
          rw [← hb17]
          clear hb17
          generalize v17.heap.size = q31 at *
          have c8 := (HALL.out b17 HX.out).2.2.1
          have lc8 := World.block_lt_of_cell? _ _ c8
          go_wp2_with fail
          refine (HC6.out b17 (HALL.out b17 HX.out).2.2.2.1).mono ?_
          rintro e v18 ⟨pbr, kbr, rfl, hx, ho⟩
          clear lc8 c8
          have HX_ := Lib.hid (HX.out.trans hx)
          clear HX
          have HX := HX_
          clear HX_
          rw [HLW2.out]
          have HO := Lib.hid ho.row
          clear ho HC6
          clear hx
          obtain ⟨b18, hb18⟩ : ∃ b18, b18 = v18.alloc (.cells #[.slice pbr H kbr] 26) := ⟨_, rfl⟩
          have hxb : v18.Ext b18 := by rw [hb18]; repeat (first | exact World.Ext.refl _ | exact ⟨_, rfl⟩ | assumption | refine World.Ext.over ?_ _ | refine World.Ext.drewN ?_ _ | refine World.Ext.drew ?_ | refine World.Ext.alloc ?_ _ | refine World.Ext.setCell ?_ (by simp) _)
          have c33_ : b18.cell? ⟨v18.heap.size, 0, none⟩ = some (.slice pbr H kbr) := by rw [hb18]; simp [go_sem]
          have HALL_ : Hid (∀ w', b18.Ext w' → w'.cell? ⟨q5, 0, none⟩ = some (.slice (some ⟨rb, ro, none⟩) H pc) ∧ RowS w' (some ⟨rb, ro, none⟩) ss ∧ w'.cell? ⟨q8, 0, none⟩ = some (.slice pb H pc2) ∧ RowS w' pb tt ∧ w'.cell? ⟨q11, 0, none⟩ = some (.slice pg H kg) ∧ RowS w' pg RG ∧ w'.cell? ⟨q13, 0, none⟩ = some (.slice ps H ks) ∧ RowS w' ps RS ∧ w'.cell? ⟨q15, 0, none⟩ = some (.slice pz H kz) ∧ RowS w' pz ss ∧ w'.cell? ⟨q17, 0, none⟩ = some (.slice pt H kt) ∧ RowS w' pt ss ∧ w'.cell? ⟨q31, 0, none⟩ = some (.slice pw H kw) ∧ RowS w' pw RW ∧ w'.cell? ⟨v18.heap.size, 0, none⟩ = some (.slice pbr H kbr) ∧ RowS w' pbr RB ∧ True) := fun w' hx' => ⟨(HALL.out w' ((HX.out.trans hxb).trans hx')).1, (HALL.out w' ((HX.out.trans hxb).trans hx')).2.1, (HALL.out w' ((HX.out.trans hxb).trans hx')).2.2.1, (HALL.out w' ((HX.out.trans hxb).trans hx')).2.2.2.1, (HALL.out w' ((HX.out.trans hxb).trans hx')).2.2.2.2.1, (HALL.out w' ((HX.out.trans hxb).trans hx')).2.2.2.2.2.1, (HALL.out w' ((HX.out.trans hxb).trans hx')).2.2.2.2.2.2.1, (HALL.out w' ((HX.out.trans hxb).trans hx')).2.2.2.2.2.2.2.1, (HALL.out w' ((HX.out.trans hxb).trans hx')).2.2.2.2.2.2.2.2.1, (HALL.out w' ((HX.out.trans hxb).trans hx')).2.2.2.2.2.2.2.2.2.1, (HALL.out w' ((HX.out.trans hxb).trans hx')).2.2.2.2.2.2.2.2.2.2.1, (HALL.out w' ((HX.out.trans hxb).trans hx')).2.2.2.2.2.2.2.2.2.2.2.1, (HALL.out w' ((HX.out.trans hxb).trans hx')).2.2.2.2.2.2.2.2.2.2.2.2.1, (HALL.out w' ((HX.out.trans hxb).trans hx')).2.2.2.2.2.2.2.2.2.2.2.2.2.1, hx'.cell c33_, RowOf.ext HO.out (hxb.trans hx'), trivial⟩
          have HWB_ := Lib.hid (HWB.out.trans (HX.out.trans hxb))
          have HX_ : Hid (b18.Ext b18) := .refl _
          clear hxb c33_ HWB HX HALL
          have HALL := HALL_
          have HWB := HWB_
          have HX := HX_
          clear HALL_ HWB_ HX_
          clear HO
          go_upto_region 34 with fail
          rw [← hb18]
          clear hb18
          generalize v18.heap.size = q33 at *
          have c8 := (HALL.out b18 HX.out).2.2.1
          have lc8 := World.block_lt_of_cell? _ _ c8
          have c31 := (HALL.out b18 HX.out).2.2.2.2.2.2.2.2.2.2.2.2.1
          have lc31 := World.block_lt_of_cell? _ _ c31
          go_wp2_with fail
          refine (HI5.out b18 _ _ (HALL.out b18 HX.out).2.2.2.1 (HALL.out b18 HX.out).2.2.2.2.2.2.2.2.2.2.2.2.2.1).mono ?_
          rintro e v19 ⟨rfl, hx⟩
          clear lc8 c8 lc31 c31
          have HX_ := Lib.hid (HX.out.trans hx)
          clear HX
          have HX := HX_
          clear HX_
          clear HI5
          clear hx
          have c5 := (HALL.out v19 HX.out).1
          have lc5 := World.block_lt_of_cell? _ _ c5
          have c33 := (HALL.out v19 HX.out).2.2.2.2.2.2.2.2.2.2.2.2.2.2.1
          have lc33 := World.block_lt_of_cell? _ _ c33
          go_wp2_with fail
          refine (HI6.out v19 _ _ (HALL.out v19 HX.out).2.1 (HALL.out v19 HX.out).2.2.2.2.2.2.2.2.2.2.2.2.2.2.2.1).mono ?_
          rintro e v20 ⟨rfl, hx⟩
          clear lc5 c5 lc33 c33
          have HX_ := Lib.hid (HX.out.trans hx)
          clear HX
          have HX := HX_
          clear HX_
          clear HI6
          clear hx
          have c5 := (HALL.out v20 HX.out).1
          have lc5 := World.block_lt_of_cell? _ _ c5
          have c8 := (HALL.out v20 HX.out).2.2.1
          have lc8 := World.block_lt_of_cell? _ _ c8
          go_wp2_with fail
          refine (HSQ.out v20 (HALL.out v20 HX.out).2.1 (HALL.out v20 HX.out).2.2.2.1).mono ?_
          rintro e v21 ⟨rfl, hx⟩
          clear lc5 c5 lc8 c8
          have HX_ := Lib.hid (HX.out.trans hx)
          clear HX
          have HX := HX_
          clear HX_
          clear HSQ
          clear hx
          have HFIN := Lib.hid ((HWB.out.trans HX.out))
          go_wp2
          go_ret
          exact ⟨by simp, HFIN.out⟩
end Go.Proofs.Ytpdmfnndegcjjaa
