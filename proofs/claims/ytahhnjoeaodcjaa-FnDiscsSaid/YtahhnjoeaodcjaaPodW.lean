/- FnDiscs' walk: the law's own. -/
import Derived.Test.YtahhnjoeaodcjaaPodL
namespace Go.Proofs.Ytahhnjoeaodcjaa
open Go Go.RowKit
set_option maxRecDepth 10000 in
set_option maxHeartbeats 16000000 in
theorem fnDiscs_any (a : Option Addr) (c : Nat) (zs : List Int) (a2 : Option Addr) (c2 : Nat) (ys : List Int) (w : World) (h : CodeAt w a zs) (h2 : CodeAt w a2 ys) :
    Calls Try.prog 11 #[.slice a zs.length c, .slice a2 ys.length c2] w fun e w' => e = .returned (.bool true) ∧ w.Ext w' := by
  have HLO := Lib.hid (longR_any a zs.length c a2 ys.length c2 w h.2.2 h2.2.2)
  have HP := Lib.hid (fun w' (hx : w.Ext w') => pic8_any a c zs w' (h.ext hx))
  have HA0 : Hid (∀ w', w.Ext w' → Calls Try.prog 66 #[.slice a2 ys.length c2, .int .i64 0, .int .i64 3] w' fun e w'' => ∃ r : Nat, e = .returned (.int .i64 r) ∧ w'.Ext w'' ∧ r < 3) := fun w' hx => (r8AtD_any a2 c2 ys 0 3 w' (by omega) (h2.ext hx)).mono fun e w'' hq => by
    obtain ⟨r, h1, h3, h4, h5⟩ := hq
    obtain ⟨r, rfl⟩ := Int.eq_ofNat_of_zero_le h4
    exact ⟨r, h1, h3, by omega⟩
  clear h h2
  go_enter Try.func11, Try.ntmps11
  have HWB : Hid (w.Ext w) := .refl _
  have HX : Hid (w.Ext w) := .refl _
  go_wp2_with fail
  refine (HLO.out).mono ?_
  rintro e v1 ⟨t, rfl, hx, -⟩
  have HX_ := Lib.hid (HX.out.trans hx)
  clear HX
  have HX := HX_
  clear HX_
  clear hx
  cases t
  rotate_left
  · go_wp2
    go_ret
    exact ⟨rfl, HX.out⟩
  go_wp2_with fail
  refine (HP.out v1 (HWB.out.trans HX.out)).mono ?_
  rintro e v2 ⟨pa, pc, ss, rfl, hpic, hx, hrow⟩
  have HX_ := Lib.hid (HX.out.trans hx)
  clear HX
  have HX := HX_
  clear HX_
  obtain ⟨g1, g2, g3, g4, g5, -⟩ := picOk_spec hpic.1
  have g6 := hpic.2.1
  have g7 := hpic.2.2
  have hps : (ss.getD 0 ByteArray.empty).size = picW ss := rfl
  obtain ⟨W, hW⟩ : ∃ W, picW ss = W := ⟨_, rfl⟩
  obtain ⟨H, hH⟩ : ∃ H, ss.length = H := ⟨_, rfl⟩
  have HPIC : Hid (PicOf W H ss) := ⟨hpic.1, hH, hW⟩
  have HROW := Lib.hid hrow.row
  rw [hW] at g3 g4 g7 hps
  rw [hH] at g1 g2 g6 ⊢
  have HSL := Lib.hid hH
  clear hpic hrow HP g5 hW hH
  clear hx
  obtain ⟨b2, hb2⟩ : ∃ b2, b2 = v2.alloc (.cells #[.slice pa H pc] 26) := ⟨_, rfl⟩
  have hxb : v2.Ext b2 := by rw [hb2]; repeat (first | exact World.Ext.refl _ | exact ⟨_, rfl⟩ | assumption | refine World.Ext.over ?_ _ | refine World.Ext.drewN ?_ _ | refine World.Ext.drew ?_ | refine World.Ext.alloc ?_ _ | refine World.Ext.setCell ?_ (by simp) _)
  have c5_ : b2.cell? ⟨v2.heap.size, 0, none⟩ = some (.slice pa H pc) := by rw [hb2]; simp [go_sem]
  have HALL_ : Hid (∀ w', b2.Ext w' → w'.cell? ⟨v2.heap.size, 0, none⟩ = some (.slice pa H pc) ∧ RowS w' pa ss ∧ True) := fun w' hx' => ⟨hx'.cell c5_, RowOf.ext HROW.out (hxb.trans hx'), trivial⟩
  have HWB_ := Lib.hid (HWB.out.trans (HX.out.trans hxb))
  have HX_ : Hid (b2.Ext b2) := .refl _
  clear hxb c5_ HWB HX
  have HALL := HALL_
  have HWB := HWB_
  have HX := HX_
  clear HALL_ HWB_ HX_
  clear HROW
  go_upto_region 4 with fail
  rw [← hb2]
  clear hb2
  generalize v2.heap.size = q5 at *
  have c5 := (HALL.out b2 HX.out).1
  have lc5 := World.block_lt_of_cell? _ _ c5
  obtain ⟨rb, ro, rfl, hrc⟩ := ((HALL.out b2 HX.out).2.1) 0 (show 0 < ss.length by rw [HSL.out]; omega)
  rw [Nat.add_zero] at hrc
  obtain ⟨s0, hs0⟩ : ∃ s0, s0 = ss.getD 0 ByteArray.empty := ⟨_, rfl⟩
  rw [← hs0] at hrc hps
  clear hs0
  go_upto_region 6 with fail
  clear hrc hps
  clear lc5 c5
  go_wp2_with fail
  refine (HA0.out b2 (HWB.out.trans HX.out)).mono ?_
  rintro e v3 ⟨kd, rfl, hx, hkd⟩
  have HX_ := Lib.hid (HX.out.trans hx)
  clear HX
  have HX := HX_
  clear HX_
  clear HA0
  clear hx
  have hk3 : inB (kd : Int) 0 2 = true := inB_true.2 (by omega)
  have HOK := Lib.hid (podOk (kind := kd) HPIC.out g3 (by omega) (by omega))
  have hbp := pic_bndD HPIC.out (by omega) (by omega)
  have hask : askOk ss (kd : Int) = true := by unfold askOk; rw [HPIC.out.1, hk3]; rfl
  have HDI : Hid (∀ w', RowS w' (some ⟨rb, ro, none⟩) ss → Calls Try.prog 59 #[.agg #[.slice (some ⟨rb, ro, none⟩) H pc], .int .i64 kd] w' (DiscsRet2 w' (dscL kd W H (picL ss)) true)) := fun w' hr => by
    have h := implDiscsOf_any (some ⟨rb, ro, none⟩) pc ss kd w' hbp hr
    unfold optD at h
    rw [hask, if_pos rfl, HPIC.out.2.1, HPIC.out.2.2] at h
    exact h
  have HFI : Hid (∀ w', RowS w' (some ⟨rb, ro, none⟩) ss → Calls Try.prog 64 #[.agg #[.slice (some ⟨rb, ro, none⟩) H pc], .int .i64 kd] w' (DiscsRet2 w' (fewD kd W H (picL ss)) true)) := fun w' hr => by
    have h := implFewDiscs_any (some ⟨rb, ro, none⟩) pc ss kd w' hbp hr
    unfold optD at h
    rw [hask, if_pos rfl, HPIC.out.2.1, HPIC.out.2.2] at h
    exact h
  have HDE : Hid (∀ w', RowS w' (some ⟨rb, ro, none⟩) ss → Calls Try.prog 67 #[.agg #[.slice (some ⟨rb, ro, none⟩) H pc], .int .i64 kd] w' (MatRet2 w' (grd W H (depI kd W H (picL ss))) true)) := fun w' hr => by
    have h := implDepths2_any (some ⟨rb, ro, none⟩) pc ss kd w' hbp hr
    unfold optM at h
    rw [hask, if_pos rfl, HPIC.out.2.1, HPIC.out.2.2] at h
    exact h
  have HPD : Hid (∀ w' a c, RowD w' a (dscL kd W H (picL ss)) → Calls Try.prog 68 #[.int .i64 W, .int .i64 H, .int .i64 kd, .slice a (dscL kd W H (picL ss)).length c] w' (PicRet2 w' ss true)) := fun w' a c hr => by
    have h := pod_any W H kd a c _ w' g3 (by omega) g1 (by omega) hk3 HOK.out.okD hr
    rw [HOK.out.paint] at h
    exact h
  have HPF : Hid (∀ w' a c, RowD w' a (fewD kd W H (picL ss)) → Calls Try.prog 68 #[.int .i64 W, .int .i64 H, .int .i64 kd, .slice a (fewD kd W H (picL ss)).length c] w' (PicRet2 w' ss true)) := fun w' a c hr => by
    have h := pod_any W H kd a c _ w' g3 (by omega) g1 (by omega) hk3 HOK.out.okF hr
    rw [HOK.out.few] at h
    exact h
  have HSM : Hid (∀ w' a1 c1, RowS w' a1 ss → RowS w' (some ⟨rb, ro, none⟩) ss → Calls Try.prog 21 #[.agg #[.slice a1 H c1], .agg #[.slice (some ⟨rb, ro, none⟩) H pc]] w' fun e w'' => e = .returned (.bool true) ∧ w'.Ext w'') := fun w' a1 c1 h1 h2 => by
    have h := r8Same_any a1 (some ⟨rb, ro, none⟩) c1 pc ss ss w' (by rw [HSL.out]; omega) h1 h2
    rw [decide_eq_true rfl, HSL.out] at h
    exact h
  have HBK : Hid (∀ w' (x y : Int) t, pxl W H (picL ss) x y = t → RowS w' (some ⟨rb, ro, none⟩) ss → Calls Try.prog 70 #[.agg #[.slice (some ⟨rb, ro, none⟩) H pc], .int .i64 x, .int .i64 y] w' fun e w'' => e = .returned (.bool t) ∧ w'.Ext w'') := fun w' x y t ht hr => by
    have h := r8Black_any (some ⟨rb, ro, none⟩) pc ss x y w' HPIC.out.1 hr
    rw [HPIC.out.2.1, HPIC.out.2.2, ht] at h
    exact h
  have HFS : Hid (∀ w' (ax ay bx by' : Int), (-1 ≤ ax ∧ ax ≤ 16) → (-1 ≤ ay ∧ ay ≤ 16) → (-1 ≤ bx ∧ bx ≤ 16) → (-1 ≤ by' ∧ by' ≤ 16) → Calls Try.prog 69 #[.int .i64 kd, .agg #[.int .i64 ax, .int .i64 ay], .agg #[.int .i64 bx, .int .i64 by']] w' fun e w'' => e = .returned (.tuple #[.int .i64 (farI kd (ax, ay) (bx, by')), .bool true]) ∧ w'.Ext w'') := fun w' ax ay bx by' q1 q2 q3 q4 => farSpots_any kd ax ay bx by' w' hk3 q1 q2 q3 q4
  have HAT : Hid (∀ i, i < (dscL kd W H (picL ss)).length → DskAt kd W H (picL ss) ((dscL kd W H (picL ss)).getD i (0, 0, 0))) := HOK.out.at_
  have HSUB : Hid ((fewD kd W H (picL ss)).Sublist (dscL kd W H (picL ss))) := HOK.out.sub
  have hfew : (dscL kd W H (picL ss)).length ≤ 256 := HOK.out.len
  have hsl : (fewD kd W H (picL ss)).length ≤ (dscL kd W H (picL ss)).length := HSUB.out.length_le
  clear hk3 hbp hask HOK HPIC
  generalize dscL kd W H (picL ss) = ds at *
  generalize fewD kd W H (picL ss) = fs at *
  obtain ⟨dep, hdep⟩ : ∃ dep, dep = depI kd W H (picL ss) := ⟨_, rfl⟩
  rw [← hdep] at HDE
  have HDEP := Lib.hid hdep
  clear hdep
  have c5 := (HALL.out v3 HX.out).1
  have lc5 := World.block_lt_of_cell? _ _ c5
  go_wp2_with fail
  refine (HDI.out v3 (HALL.out v3 HX.out).2.1).mono ?_
  rintro e v4 ⟨da, dc, rfl, hx, ho⟩
  clear lc5 c5
  have HX_ := Lib.hid (HX.out.trans hx)
  clear HX
  have HX := HX_
  clear HX_
  have HDS := Lib.hid ho.row
  clear ho HDI
  clear hx
  have c5 := (HALL.out v4 HX.out).1
  have lc5 := World.block_lt_of_cell? _ _ c5
  go_wp2_with fail
  refine (HFI.out v4 (HALL.out v4 HX.out).2.1).mono ?_
  rintro e v5 ⟨fa, fc, rfl, hx, ho⟩
  clear lc5 c5
  have HX_ := Lib.hid (HX.out.trans hx)
  clear HX
  have HX := HX_
  clear HX_
  have HFS9 := Lib.hid ho.row
  clear ho HFI
  have HDS_ := Lib.hid (RowD.ext HDS.out hx)
  clear HDS
  have HDS := HDS_
  clear HDS_
  clear hx
  have c5 := (HALL.out v5 HX.out).1
  have lc5 := World.block_lt_of_cell? _ _ c5
  go_wp2_with fail
  refine (HDE.out v5 (HALL.out v5 HX.out).2.1).mono ?_
  rintro e v6 ⟨ma, mc, MA, MC, rfl, hx, hmat⟩
  clear lc5 c5
  have HX_ := Lib.hid (HX.out.trans hx)
  clear HX
  have HX := HX_
  clear HX_
  rw [grd_len]
  have HMT := Lib.hid hmat.mat
  clear HDE hmat
  have HDS_ := Lib.hid (RowD.ext HDS.out hx)
  clear HDS
  have HDS := HDS_
  clear HDS_
  have HFS9_ := Lib.hid (RowD.ext HFS9.out hx)
  clear HFS9
  have HFS9 := HFS9_
  clear HFS9_
  clear hx
  go_wp2_with fail
  refine (HPD.out v6 _ _ HDS.out).mono ?_
  rintro e v7 ⟨p1, k1, rfl, hx, ho⟩
  have HX_ := Lib.hid (HX.out.trans hx)
  clear HX
  have HX := HX_
  clear HX_
  rw [HSL.out]
  have HO := Lib.hid ho.row
  clear ho HPD
  have HDS_ := Lib.hid (RowD.ext HDS.out hx)
  clear HDS
  have HDS := HDS_
  clear HDS_
  have HFS9_ := Lib.hid (RowD.ext HFS9.out hx)
  clear HFS9
  have HFS9 := HFS9_
  clear HFS9_
  have HMT_ := Lib.hid (MatAt.ext HMT.out hx)
  clear HMT
  have HMT := HMT_
  clear HMT_
  clear hx
  obtain ⟨b7, hb7⟩ : ∃ b7, b7 = v7.alloc (.cells #[.slice p1 H k1] 26) := ⟨_, rfl⟩
  have hxb : v7.Ext b7 := by rw [hb7]; repeat (first | exact World.Ext.refl _ | exact ⟨_, rfl⟩ | assumption | refine World.Ext.over ?_ _ | refine World.Ext.drewN ?_ _ | refine World.Ext.drew ?_ | refine World.Ext.alloc ?_ _ | refine World.Ext.setCell ?_ (by simp) _)
  have c15_ : b7.cell? ⟨v7.heap.size, 0, none⟩ = some (.slice p1 H k1) := by rw [hb7]; simp [go_sem]
  have HALL_ : Hid (∀ w', b7.Ext w' → w'.cell? ⟨q5, 0, none⟩ = some (.slice (some ⟨rb, ro, none⟩) H pc) ∧ RowS w' (some ⟨rb, ro, none⟩) ss ∧ w'.cell? ⟨v7.heap.size, 0, none⟩ = some (.slice p1 H k1) ∧ RowS w' p1 ss ∧ RowD w' da ds ∧ RowD w' fa fs ∧ MatAt w' ma MA MC (grd W H dep) ∧ True) := fun w' hx' => ⟨(HALL.out w' ((HX.out.trans hxb).trans hx')).1, (HALL.out w' ((HX.out.trans hxb).trans hx')).2.1, hx'.cell c15_, RowOf.ext HO.out (hxb.trans hx'), RowD.ext HDS.out (hxb.trans hx'), RowD.ext HFS9.out (hxb.trans hx'), MatAt.ext HMT.out (hxb.trans hx'), trivial⟩
  have HWB_ := Lib.hid (HWB.out.trans (HX.out.trans hxb))
  have HX_ : Hid (b7.Ext b7) := .refl _
  clear hxb c15_ HWB HX HALL
  have HALL := HALL_
  have HWB := HWB_
  have HX := HX_
  clear HALL_ HWB_ HX_
  clear HO HDS HFS9 HMT
  go_upto_region 11 with fail
  rw [← hb7]
  clear hb7
  generalize v7.heap.size = q15 at *
  go_wp2_with fail
  refine (HPF.out b7 _ _ (HALL.out b7 HX.out).2.2.2.2.2.1).mono ?_
  rintro e v8 ⟨p2, k2, rfl, hx, ho⟩
  have HX_ := Lib.hid (HX.out.trans hx)
  clear HX
  have HX := HX_
  clear HX_
  rw [HSL.out]
  have HO := Lib.hid ho.row
  clear ho HPF
  clear hx
  obtain ⟨b8, hb8⟩ : ∃ b8, b8 = v8.alloc (.cells #[.slice p2 H k2] 26) := ⟨_, rfl⟩
  have hxb : v8.Ext b8 := by rw [hb8]; repeat (first | exact World.Ext.refl _ | exact ⟨_, rfl⟩ | assumption | refine World.Ext.over ?_ _ | refine World.Ext.drewN ?_ _ | refine World.Ext.drew ?_ | refine World.Ext.alloc ?_ _ | refine World.Ext.setCell ?_ (by simp) _)
  have c17_ : b8.cell? ⟨v8.heap.size, 0, none⟩ = some (.slice p2 H k2) := by rw [hb8]; simp [go_sem]
  have HALL_ : Hid (∀ w', b8.Ext w' → w'.cell? ⟨q5, 0, none⟩ = some (.slice (some ⟨rb, ro, none⟩) H pc) ∧ RowS w' (some ⟨rb, ro, none⟩) ss ∧ w'.cell? ⟨q15, 0, none⟩ = some (.slice p1 H k1) ∧ RowS w' p1 ss ∧ RowD w' da ds ∧ RowD w' fa fs ∧ MatAt w' ma MA MC (grd W H dep) ∧ w'.cell? ⟨v8.heap.size, 0, none⟩ = some (.slice p2 H k2) ∧ RowS w' p2 ss ∧ True) := fun w' hx' => ⟨(HALL.out w' ((HX.out.trans hxb).trans hx')).1, (HALL.out w' ((HX.out.trans hxb).trans hx')).2.1, (HALL.out w' ((HX.out.trans hxb).trans hx')).2.2.1, (HALL.out w' ((HX.out.trans hxb).trans hx')).2.2.2.1, (HALL.out w' ((HX.out.trans hxb).trans hx')).2.2.2.2.1, (HALL.out w' ((HX.out.trans hxb).trans hx')).2.2.2.2.2.1, (HALL.out w' ((HX.out.trans hxb).trans hx')).2.2.2.2.2.2.1, hx'.cell c17_, RowOf.ext HO.out (hxb.trans hx'), trivial⟩
  have HWB_ := Lib.hid (HWB.out.trans (HX.out.trans hxb))
  have HX_ : Hid (b8.Ext b8) := .refl _
  clear hxb c17_ HWB HX HALL
  have HALL := HALL_
  have HWB := HWB_
  have HX := HX_
  clear HALL_ HWB_ HX_
  clear HO
  go_upto_region 12 with fail
  rw [← hb8]
  clear hb8
  generalize v8.heap.size = q17 at *
  have c5 := (HALL.out b8 HX.out).1
  have lc5 := World.block_lt_of_cell? _ _ c5
  have c15 := (HALL.out b8 HX.out).2.2.1
  have lc15 := World.block_lt_of_cell? _ _ c15
  go_wp2_with fail
  refine (HSM.out b8 _ _ (HALL.out b8 HX.out).2.2.2.1 (HALL.out b8 HX.out).2.1).mono ?_
  rintro e v9 ⟨rfl, hx⟩
  clear lc5 c5 lc15 c15
  have HX_ := Lib.hid (HX.out.trans hx)
  clear HX
  have HX := HX_
  clear HX_
  clear hx
  have c5 := (HALL.out v9 HX.out).1
  have lc5 := World.block_lt_of_cell? _ _ c5
  have c17 := (HALL.out v9 HX.out).2.2.2.2.2.2.2.1
  have lc17 := World.block_lt_of_cell? _ _ c17
  go_wp2_with fail
  refine (HSM.out v9 _ _ (HALL.out v9 HX.out).2.2.2.2.2.2.2.2.1 (HALL.out v9 HX.out).2.1).mono ?_
  rintro e v10 ⟨rfl, hx⟩
  clear lc5 c5 lc17 c17
  have HX_ := Lib.hid (HX.out.trans hx)
  clear HX
  have HX := HX_
  clear HX_
  clear HSM
  clear hx
  have hsl' : ¬ (ds.length : Int) < (fs.length : Int) := by omega
  have hz1 : decide (ds.length < fs.length) = false := decide_eq_false (by omega)
  have hz2 : decide ((ds.length : Int) < (fs.length : Int)) = false := decide_eq_false (by omega)
  have hz3 : decide ((fs.length : Int) > (ds.length : Int)) = false := decide_eq_false (by omega)
  have hz4 : decide (fs.length > ds.length) = false := decide_eq_false (by omega)
  go_wp2
  clear hz1 hz2 hz3 hz4
  go_loopw [19, 20, 21, 22, 23, 24, 25] (fun z _ _ _ _ _ _ wr => ∃ k : Nat, k ≤ ds.length ∧ z = .int .i64 k ∧ Hid (v10.Ext wr)) (fun z _ _ _ _ _ _ _ => ds.length - (intOf z).toNat)
  case atStart => exact ⟨0, Nat.zero_le _, rfl, .refl _⟩
  case round =>
    as_aux_lemma =>
    obtain ⟨k, hk, rfl, HY⟩ := hrel
    obtain ⟨wk, rfl⟩ : ∃ wk : World, wk = wr := ⟨_, rfl⟩
    have hk0 : (0 : Int) ≤ (k : Int) := by omega
    by_cases hlk : k < ds.length
    · have hlk' : (k : Int) < (ds.length : Int) := by omega
      have HYB : Hid (b8.Ext wk) := HX.out.trans HY.out
      have hat := HAT.out k hlk
      obtain ⟨x, y, hx, hy, hde⟩ := hat.form
      have HSA := Lib.hid (seenTo_all hat)
      have HBLK := Lib.hid hat.black
      obtain ⟨b1, o1, rfl, r0, r1, r2⟩ := ((HALL.out wk HYB.out).2.2.2.2.1).at hlk
      obtain ⟨mb, mo, bk, ok, ck, rfl, m1, m2⟩ := mat_grdD ((HALL.out wk HYB.out).2.2.2.2.2.2.1) hx hy
      rw [hde] at r0 r1 r2 HSA HBLK
      rw [← HDEP.out] at r2 HSA HBLK
      dsimp only at r0 r1 r2 HBLK
      generalize hrr : dep x y = r at *
      have HRR := Lib.hid hrr
      clear hrr hat hde
      have lr := World.block_lt_of_cell? _ _ r0
      obtain ⟨W5, hW5⟩ : ∃ W5, W5 = wk.alloc (.cells #[.int .i64 x, .int .i64 y, .int .i64 r] 98) := ⟨_, rfl⟩
      have hx5 : wk.Ext W5 := by rw [hW5]; repeat (first | exact World.Ext.refl _ | exact ⟨_, rfl⟩ | assumption | refine World.Ext.over ?_ _ | refine World.Ext.drewN ?_ _ | refine World.Ext.drew ?_ | refine World.Ext.alloc ?_ _ | refine World.Ext.setCell ?_ (by simp) _)
      have HT : Hid (∀ wr, W5.Ext wr → wr.cell? ⟨wk.heap.size, 0, none⟩ = some (.int .i64 x) ∧ wr.cell? ⟨wk.heap.size, 1, none⟩ = some (.int .i64 y) ∧ wr.cell? ⟨wk.heap.size, 2, none⟩ = some (.int .i64 r)) := fun wr hx => by
        refine ⟨hx.cell ?_, hx.cell ?_, hx.cell ?_⟩ <;> (rw [hW5]; simp [go_sem])
      have HY5 := Lib.hid (HY.out.trans hx5)
      have HYB5 : Hid (b8.Ext W5) := HX.out.trans HY5.out
      go_upto_region 18 with fail
      rw [← hW5]
      clear hW5
      have n1 := hx5.cell m1
      have n2 := hx5.cell m2
      have ln1 := World.block_lt_of_cell? _ _ n1
      have ln2 := World.block_lt_of_cell? _ _ n2
      clear r0 r1 r2 lr m1 m2 hx5
      generalize wk.heap.size = q20 at *
      obtain ⟨t0, t1, t2⟩ := HT.out W5 (.refl _)
      have lt := World.block_lt_of_cell? _ _ t0
      have hx0 : (0 : Int) ≤ (x : Int) := by omega
      have hy0 : (0 : Int) ≤ (y : Int) := by omega
      have hx' : (x : Int) < (W : Int) := by omega
      have hy' : (y : Int) < (H : Int) := by omega
      have hxn : ¬ (x : Int) < 0 := by omega
      have hyn : ¬ (y : Int) < 0 := by omega
      have hxw : ¬ (W : Int) ≤ (x : Int) := by omega
      have hyw : ¬ (H : Int) ≤ (y : Int) := by omega
      have e1 : decide ((x : Int) < 0) = false := decide_eq_false hxn
      have e2 : decide ((y : Int) < 0) = false := decide_eq_false hyn
      have e3 : decide ((x : Int) ≥ (W : Int)) = false := decide_eq_false hxw
      have e4 : decide ((y : Int) ≥ (H : Int)) = false := decide_eq_false hyw
      have e5 : decide ((W : Int) ≤ (x : Int)) = false := decide_eq_false hxw
      have e6 : decide ((H : Int) ≤ (y : Int)) = false := decide_eq_false hyw
      have e7 : ((W : Int) != (W : Int)) = false := by simp
      have e8 : (r != r) = false := by simp
      have e9 : decide (W ≤ x) = false := decide_eq_false (by omega)
      have e10 : decide (H ≤ y) = false := decide_eq_false (by omega)
      have e11 : (W != W) = false := by simp
      go_wp2_with fail
      refine wp_region_over_lit (by kernel_rfl) (by kernel_rfl) ?_
      repeat (first | (go_big_quiet_step (fail)) | (simp only [e1, e2, e3, e4, e5, e6, e7, e8, e9, e10, e11]))
      try simp only [e8]
      refine wpQuiet_nil ?_
      rintro _ ⟨x1, rfl⟩
      clear e1 e2 e3 e4 e5 e6 e7 e8 e9 e10 e11
      have HY6 : Hid (W5.Ext (W5.over x1)) := ⟨x1, rfl⟩
      generalize W5.over x1 = W6 at *
      clear t0 t1 t2 lt n1 n2 ln1 ln2
      go_wp2
      have HSE0 : Hid (seenTo kd W H (picL ss) ((x : Int), (y : Int), r) (0 * (W + 2) + 0) = false) := by show _ = _; simp [seenTo]
      go_loopw [21, 22, 23, 24, 25] (fun s z _ _ _ wr => ∃ b : Nat, b ≤ H + 2 ∧ z = .int .i64 ((b : Int) - 1) ∧ s = .bool (seenTo kd W H (picL ss) ((x : Int), (y : Int), r) (b * (W + 2) + 0)) ∧ Hid (W5.Ext wr)) (fun _ z _ _ _ _ => H + 2 - (intOf z + 1).toNat)
      case atStart => exact ⟨0, Nat.zero_le _, rfl, by rw [HSE0.out], HY6⟩
      case round =>
        as_aux_lemma =>
        clear HY6 HSE0
        obtain ⟨b, hb, rfl, rfl, HZ⟩ := hrel
        obtain ⟨wb, rfl⟩ : ∃ wb : World, wb = wr := ⟨_, rfl⟩
        obtain ⟨Y, hY⟩ : ∃ Y : Int, (b : Int) - 1 = Y := ⟨_, rfl⟩
        rw [hY]
        have hY0 : -1 ≤ Y := by omega
        have hY1 : Y ≤ 17 := by omega
        by_cases hlb : b < H + 2
        · have hlb' : Y ≤ (H : Int) := by omega
          have HYb := Lib.hid hY
          clear hY
          go_wp2
          go_loopw [21, 23, 24, 25] (fun s z _ _ wr => ∃ a : Nat, a ≤ W + 2 ∧ z = .int .i64 ((a : Int) - 1) ∧ s = .bool (seenTo kd W H (picL ss) ((x : Int), (y : Int), r) (b * (W + 2) + a)) ∧ Hid (W5.Ext wr)) (fun _ z _ _ _ => W + 2 - (intOf z + 1).toNat)
          case atStart => exact ⟨0, Nat.zero_le _, rfl, rfl, HZ⟩
          case round =>
            as_aux_lemma =>
            clear HZ
            obtain ⟨a, ha, rfl, rfl, HZ⟩ := hrel
            obtain ⟨wa, rfl⟩ : ∃ wa : World, wa = wr := ⟨_, rfl⟩
            obtain ⟨X, hX⟩ : ∃ X : Int, (a : Int) - 1 = X := ⟨_, rfl⟩
            rw [hX]
            have hX0 : -1 ≤ X := by omega
            have hX1 : X ≤ 17 := by omega
            by_cases hla : a < W + 2
            · have hla' : X ≤ (W : Int) := by omega
              have HXa := Lib.hid hX
              have HSUC := Lib.hid (seenTo_succ (kind := kd) (W := W) (H := H) (l := picL ss) (d := ((x : Int), (y : Int), r)) (a := a) (b := b) hla)
              have HBL : Hid (farI kd ((x : Int), (y : Int)) (X, Y) < r → pxl W H (picL ss) X Y = true) := fun hh => by
                have := HBLK.out a b hla hlb (by rw [hX, HYb.out]; exact hh)
                rw [hX, HYb.out] at this
                exact this
              have HFA := Lib.hid (fun w' => HFS.out w' x y X Y (by omega) (by omega) (by omega) (by omega))
              obtain ⟨s, hs⟩ : ∃ s, seenTo kd W H (picL ss) ((x : Int), (y : Int), r) (b * (W + 2) + a) = s := ⟨_, rfl⟩
              rw [hs]
              obtain ⟨F, hF⟩ : ∃ F, farI kd ((x : Int), (y : Int)) (X, Y) = F := ⟨_, rfl⟩
              obtain ⟨pb, hpb⟩ : ∃ pb, pxl W H (picL ss) X Y = pb := ⟨_, rfl⟩
              rw [hF] at HFA HBL
              rw [hpb] at HBL
              have HBK2 := Lib.hid (fun w' hr => HBK.out w' X Y pb hpb hr)
              have HNX : Hid (seenTo kd W H (picL ss) ((x : Int), (y : Int), r) (b * (W + 2) + (a + 1)) = (s || (decide (F = r) && !pb))) := by
                show _ = _
                have h := HSUC.out
                rw [HXa.out, HYb.out] at h
                dsimp only at h
                rw [hs, hF, hpb] at h
                rw [← Nat.add_assoc]
                exact h
              clear hX hs hF hpb HSUC
              obtain ⟨t0, t1, t2⟩ := HT.out wa HZ.out
              have lt := World.block_lt_of_cell? _ _ t0
              go_wp2_with fail
              refine (HFA.out _).mono ?_
              rintro e wf ⟨rfl, hxf⟩
              have HZf := Lib.hid (HZ.out.trans hxf)
              clear hxf t0 t1 t2 lt HFA HZ
              obtain ⟨t0, t1, t2⟩ := HT.out wf HZf.out
              have lt := World.block_lt_of_cell? _ _ t0
              have HBf : Hid (b8.Ext wf) := HYB5.out.trans HZf.out
              have c5 := (HALL.out wf HBf.out).1
              have lc5 := World.block_lt_of_cell? _ _ c5
              have HR5 := Lib.hid ((HALL.out wf HBf.out).2.1)
              by_cases hlt : F < r
              · have hpt := HBL.out hlt
                subst hpt
                have hne : (F == r) = false := by rw [beq_eq_false_iff_ne]; omega
                have HN2 : Hid (seenTo kd W H (picL ss) ((x : Int), (y : Int), r) (b * (W + 2) + (a + 1)) = s) := by show _ = _; rw [HNX.out]; simp
                clear HNX HBL
                go_wp2_with fail
                refine (HBK2.out _ HR5.out).mono ?_
                rintro e wg ⟨rfl, hxg⟩
                have HZg := Lib.hid (HZf.out.trans hxg)
                clear hxg t0 t1 t2 lt c5 lc5
                obtain ⟨t0, t1, t2⟩ := HT.out wg HZg.out
                have lt := World.block_lt_of_cell? _ _ t0
                cases s
                · go_wp2
                  go_roundw
                  case rel => exact ⟨a + 1, by omega, congrArg (Value.int .i64) (by have := HXa.out; omega), congrArg Value.bool HN2.out.symm, HZg⟩
                  case measure => have := HXa.out; simp [intOf]; omega
                · go_wp2
                  go_roundw
                  case rel => exact ⟨a + 1, by omega, congrArg (Value.int .i64) (by have := HXa.out; omega), congrArg Value.bool HN2.out.symm, HZg⟩
                  case measure => have := HXa.out; simp [intOf]; omega
              · cases s
                · by_cases heq : F = r
                  · have hee : (F == r) = true := by rw [beq_iff_eq]; exact heq
                    have HN2 : Hid (seenTo kd W H (picL ss) ((x : Int), (y : Int), r) (b * (W + 2) + (a + 1)) = !pb) := by show _ = _; rw [HNX.out, decide_eq_true heq]; simp
                    clear HNX HBL heq
                    go_wp2_with fail
                    refine (HBK2.out _ HR5.out).mono ?_
                    rintro e wg ⟨rfl, hxg⟩
                    have HZg := Lib.hid (HZf.out.trans hxg)
                    clear hxg t0 t1 t2 lt c5 lc5
                    go_wp2
                    go_roundw
                    case rel => exact ⟨a + 1, by omega, congrArg (Value.int .i64) (by have := HXa.out; omega), congrArg Value.bool HN2.out.symm, HZg⟩
                    case measure => have := HXa.out; simp [intOf]; omega
                  · have hee : (F == r) = false := by rw [beq_eq_false_iff_ne]; exact heq
                    have HN2 : Hid (seenTo kd W H (picL ss) ((x : Int), (y : Int), r) (b * (W + 2) + (a + 1)) = false) := by show _ = _; rw [HNX.out, decide_eq_false heq]; simp
                    clear HNX HBL heq
                    go_wp2
                    go_roundw
                    case rel => exact ⟨a + 1, by omega, congrArg (Value.int .i64) (by have := HXa.out; omega), congrArg Value.bool HN2.out.symm, HZf⟩
                    case measure => have := HXa.out; simp [intOf]; omega
                · have HN2 : Hid (seenTo kd W H (picL ss) ((x : Int), (y : Int), r) (b * (W + 2) + (a + 1)) = true) := by show _ = _; rw [HNX.out]; simp
                  clear HNX HBL
                  go_wp2
                  go_roundw
                  case rel => exact ⟨a + 1, by omega, congrArg (Value.int .i64) (by have := HXa.out; omega), congrArg Value.bool HN2.out.symm, HZf⟩
                  case measure => have := HXa.out; simp [intOf]; omega
            · have hae : a = W + 2 := by omega
              have hnl : ¬ X ≤ (W : Int) := by omega
              have HN2 : Hid (b * (W + 2) + a = (b + 1) * (W + 2) + 0) := by show _ = _; rw [hae, Nat.succ_mul]; try rfl
              rw [HN2.out]
              clear hX hae
              go_wp2
              go_roundw
              case rel => exact ⟨b + 1, by omega, congrArg (Value.int .i64) (by have := HYb.out; omega), rfl, HZ⟩
              case measure => have := HYb.out; simp [intOf]; omega
        · have hbe : b = H + 2 := by omega
          have hnl : ¬ Y ≤ (H : Int) := by omega
          have hst : seenTo kd W H (picL ss) ((x : Int), (y : Int), r) (b * (W + 2) + 0) = true := by rw [hbe, Nat.add_zero]; exact HSA.out
          rw [hst]
          have HYn := Lib.hid (HY5.out.trans HZ.out)
          clear hY hbe hst HZ
          go_wp2
          go_roundw
          case rel => exact ⟨k + 1, by omega, by go_num, HYn⟩
          case measure => simp [intOf]; omega
    · have hke : k = ds.length := by omega
      have HX_ := Lib.hid (HX.out.trans HY.out)
      clear HX HY hke
      have HX := HX_
      clear HX_
      have hnl : ¬ (k : Int) < (ds.length : Int) := by omega
      go_wp2
      have HSU0 : Hid ((fs.drop 0).Sublist (ds.drop 0)) := HSUB.out
      go_loopw [26, 27] (fun u z wr => ∃ i j : Nat, j ≤ fs.length ∧ u = .int .i64 i ∧ z = .int .i64 j ∧ Hid ((fs.drop j).Sublist (ds.drop i)) ∧ i ≤ ds.length ∧ Hid (wk.Ext wr)) (fun _ z _ => fs.length - (intOf z).toNat)
      case atStart => exact ⟨0, 0, Nat.zero_le _, rfl, rfl, HSU0, Nat.zero_le _, .refl _⟩
      case round =>
        as_aux_lemma =>
        clear HSU0
        obtain ⟨i, j, hj, rfl, rfl, HSB, hid, HZ⟩ := hrel
        obtain ⟨wj, rfl⟩ : ∃ wj : World, wj = wr := ⟨_, rfl⟩
        have hj0 : (0 : Int) ≤ (j : Int) := by omega
        by_cases hlj : j < fs.length
        · have hlj' : (j : Int) < (fs.length : Int) := by omega
          go_wp2
          go_loopw [26] (fun u wr => ∃ i : Nat, u = .int .i64 i ∧ Hid ((fs.drop j).Sublist (ds.drop i)) ∧ i ≤ ds.length ∧ Hid (wk.Ext wr)) (fun u _ => ds.length - (intOf u).toNat)
          case atStart => exact ⟨i, rfl, HSB, hid, HZ⟩
          case round =>
            as_aux_lemma =>
            clear HSB hid HZ
            obtain ⟨i, rfl, HSB, hid, HZ⟩ := hrel
            obtain ⟨wi, rfl⟩ : ∃ wi : World, wi = wr := ⟨_, rfl⟩
            have hi0 : (0 : Int) ≤ (i : Int) := by omega
            have hil := sub_end hlj HSB.out
            have hil' : (i : Int) < (ds.length : Int) := by omega
            have HBi : Hid (b8.Ext wi) := HX.out.trans HZ.out
            obtain ⟨b1, o1, rfl, r0, r1, r2⟩ := ((HALL.out wi HBi.out).2.2.2.2.1).at hil
            obtain ⟨b2, o2, rfl, s0, s1, s2⟩ := ((HALL.out wi HBi.out).2.2.2.2.2.1).at hlj
            have HIT := Lib.hid (fun e => sub_hit (d := (0, 0, 0)) hlj hil HSB.out e)
            have HMI := Lib.hid (fun e => sub_miss (d := (0, 0, 0)) hlj hil HSB.out e)
            generalize ds.getD i (0, 0, 0) = d at *
            generalize fs.getD j (0, 0, 0) = f at *
            obtain ⟨d0, d1, d2⟩ := d
            obtain ⟨f0, f1, f2⟩ := f
            dsimp only at r0 r1 r2 s0 s1 s2
            have lr := World.block_lt_of_cell? _ _ r0
            have ls := World.block_lt_of_cell? _ _ s0
            have hin : ((i : Int) == (ds.length : Int)) = false := by rw [beq_eq_false_iff_ne]; omega
            have hcases : (d0 == f0) = false ∨ (d0 == f0) = true ∧ ((d1 == f1) = false ∨ (d1 == f1) = true ∧ ((d2 == f2) = false ∨ (d2 == f2) = true)) := by
              cases h0 : (d0 == f0)
              · exact .inl rfl
              · right
                refine ⟨rfl, ?_⟩
                cases h1 : (d1 == f1)
                · exact .inl rfl
                · right
                  refine ⟨rfl, ?_⟩
                  cases h2 : (d2 == f2)
                  · exact .inl rfl
                  · exact .inr rfl
            rcases hcases with h0 | ⟨h0, h1 | ⟨h1, h2 | h2⟩⟩
            · have HS2 := Lib.hid (HMI.out (fun e => by simp only [Prod.mk.injEq] at e; obtain ⟨rfl, rfl, rfl⟩ := e; simp at h0))
              clear HIT HMI HSB
              go_wp2_with fail
              go_region_held3 (fun w' => w'.cell? ⟨b1, o1 + i * 3, none⟩ = some (.int .i64 d0) ∧ w'.cell? ⟨b1, o1 + i * 3 + 1, none⟩ = some (.int .i64 d1) ∧ w'.cell? ⟨b1, o1 + i * 3 + 2, none⟩ = some (.int .i64 d2) ∧ w'.cell? ⟨b2, o2 + j * 3, none⟩ = some (.int .i64 f0) ∧ w'.cell? ⟨b2, o2 + j * 3 + 1, none⟩ = some (.int .i64 f1) ∧ w'.cell? ⟨b2, o2 + j * 3 + 2, none⟩ = some (.int .i64 f2))
                (first | (refine ⟨World.Ext.cell ?_ r0, World.Ext.cell ?_ r1, World.Ext.cell ?_ r2, World.Ext.cell ?_ s0, World.Ext.cell ?_ s1, World.Ext.cell ?_ s2⟩ <;> ((repeat (first | exact World.Ext.refl _ | exact ⟨_, rfl⟩ | assumption | refine World.Ext.over ?_ _ | refine World.Ext.drewN ?_ _ | refine World.Ext.drew ?_ | refine World.Ext.alloc ?_ _ | refine World.Ext.setCell ?_ ?_ _ | (simp; done))); done)))
                (fail)
              have HZ2 : Hid (wk.Ext wi.drew) := HZ.out.trans (by repeat (first | exact World.Ext.refl _ | exact ⟨_, rfl⟩ | assumption | refine World.Ext.over ?_ _ | refine World.Ext.drewN ?_ _ | refine World.Ext.drew ?_ | refine World.Ext.alloc ?_ _ | refine World.Ext.setCell ?_ (by simp) _))
              go_wp2
              go_roundw
              case rel => exact ⟨i + 1, by go_num, HS2, by omega, HZ2⟩
              case measure => simp [intOf]; omega
            · have HS2 := Lib.hid (HMI.out (fun e => by simp only [Prod.mk.injEq] at e; obtain ⟨rfl, rfl, rfl⟩ := e; simp at h1))
              clear HIT HMI HSB
              go_wp2_with fail
              go_region_held3 (fun w' => w'.cell? ⟨b1, o1 + i * 3, none⟩ = some (.int .i64 d0) ∧ w'.cell? ⟨b1, o1 + i * 3 + 1, none⟩ = some (.int .i64 d1) ∧ w'.cell? ⟨b1, o1 + i * 3 + 2, none⟩ = some (.int .i64 d2) ∧ w'.cell? ⟨b2, o2 + j * 3, none⟩ = some (.int .i64 f0) ∧ w'.cell? ⟨b2, o2 + j * 3 + 1, none⟩ = some (.int .i64 f1) ∧ w'.cell? ⟨b2, o2 + j * 3 + 2, none⟩ = some (.int .i64 f2))
                (first | (refine ⟨World.Ext.cell ?_ r0, World.Ext.cell ?_ r1, World.Ext.cell ?_ r2, World.Ext.cell ?_ s0, World.Ext.cell ?_ s1, World.Ext.cell ?_ s2⟩ <;> ((repeat (first | exact World.Ext.refl _ | exact ⟨_, rfl⟩ | assumption | refine World.Ext.over ?_ _ | refine World.Ext.drewN ?_ _ | refine World.Ext.drew ?_ | refine World.Ext.alloc ?_ _ | refine World.Ext.setCell ?_ ?_ _ | (simp; done))); done)))
                (fail)
              have HZ2 : Hid (wk.Ext wi.drew) := HZ.out.trans (by repeat (first | exact World.Ext.refl _ | exact ⟨_, rfl⟩ | assumption | refine World.Ext.over ?_ _ | refine World.Ext.drewN ?_ _ | refine World.Ext.drew ?_ | refine World.Ext.alloc ?_ _ | refine World.Ext.setCell ?_ (by simp) _))
              go_wp2
              go_roundw
              case rel => exact ⟨i + 1, by go_num, HS2, by omega, HZ2⟩
              case measure => simp [intOf]; omega
            · have HS2 := Lib.hid (HMI.out (fun e => by simp only [Prod.mk.injEq] at e; obtain ⟨rfl, rfl, rfl⟩ := e; simp at h2))
              clear HIT HMI HSB
              go_wp2_with fail
              go_region_held3 (fun w' => w'.cell? ⟨b1, o1 + i * 3, none⟩ = some (.int .i64 d0) ∧ w'.cell? ⟨b1, o1 + i * 3 + 1, none⟩ = some (.int .i64 d1) ∧ w'.cell? ⟨b1, o1 + i * 3 + 2, none⟩ = some (.int .i64 d2) ∧ w'.cell? ⟨b2, o2 + j * 3, none⟩ = some (.int .i64 f0) ∧ w'.cell? ⟨b2, o2 + j * 3 + 1, none⟩ = some (.int .i64 f1) ∧ w'.cell? ⟨b2, o2 + j * 3 + 2, none⟩ = some (.int .i64 f2))
                (first | (refine ⟨World.Ext.cell ?_ r0, World.Ext.cell ?_ r1, World.Ext.cell ?_ r2, World.Ext.cell ?_ s0, World.Ext.cell ?_ s1, World.Ext.cell ?_ s2⟩ <;> ((repeat (first | exact World.Ext.refl _ | exact ⟨_, rfl⟩ | assumption | refine World.Ext.over ?_ _ | refine World.Ext.drewN ?_ _ | refine World.Ext.drew ?_ | refine World.Ext.alloc ?_ _ | refine World.Ext.setCell ?_ ?_ _ | (simp; done))); done)))
                (fail)
              have HZ2 : Hid (wk.Ext wi.drew) := HZ.out.trans (by repeat (first | exact World.Ext.refl _ | exact ⟨_, rfl⟩ | assumption | refine World.Ext.over ?_ _ | refine World.Ext.drewN ?_ _ | refine World.Ext.drew ?_ | refine World.Ext.alloc ?_ _ | refine World.Ext.setCell ?_ (by simp) _))
              go_wp2
              go_roundw
              case rel => exact ⟨i + 1, by go_num, HS2, by omega, HZ2⟩
              case measure => simp [intOf]; omega
            · have HS2 := Lib.hid (HIT.out (by rw [beq_iff_eq] at h0 h1 h2; subst h0 h1 h2; rfl))
              clear HIT HMI HSB
              go_wp2_with fail
              go_region_held3 (fun w' => w'.cell? ⟨b1, o1 + i * 3, none⟩ = some (.int .i64 d0) ∧ w'.cell? ⟨b1, o1 + i * 3 + 1, none⟩ = some (.int .i64 d1) ∧ w'.cell? ⟨b1, o1 + i * 3 + 2, none⟩ = some (.int .i64 d2) ∧ w'.cell? ⟨b2, o2 + j * 3, none⟩ = some (.int .i64 f0) ∧ w'.cell? ⟨b2, o2 + j * 3 + 1, none⟩ = some (.int .i64 f1) ∧ w'.cell? ⟨b2, o2 + j * 3 + 2, none⟩ = some (.int .i64 f2))
                (first | (refine ⟨World.Ext.cell ?_ r0, World.Ext.cell ?_ r1, World.Ext.cell ?_ r2, World.Ext.cell ?_ s0, World.Ext.cell ?_ s1, World.Ext.cell ?_ s2⟩ <;> ((repeat (first | exact World.Ext.refl _ | exact ⟨_, rfl⟩ | assumption | refine World.Ext.over ?_ _ | refine World.Ext.drewN ?_ _ | refine World.Ext.drew ?_ | refine World.Ext.alloc ?_ _ | refine World.Ext.setCell ?_ ?_ _ | (simp; done))); done)))
                (fail)
              have HZ2 : Hid (wk.Ext wi.drew) := HZ.out.trans (by repeat (first | exact World.Ext.refl _ | exact ⟨_, rfl⟩ | assumption | refine World.Ext.over ?_ _ | refine World.Ext.drewN ?_ _ | refine World.Ext.drew ?_ | refine World.Ext.alloc ?_ _ | refine World.Ext.setCell ?_ (by simp) _))
              go_wp2
              go_roundw
              case rel => exact ⟨i + 1, j + 1, by omega, by go_num, by go_num, HS2, by omega, HZ2⟩
              case measure => simp [intOf]; omega
        · have hje : ¬ (j : Int) < (fs.length : Int) := by omega
          have HFIN := Lib.hid (HWB.out.trans (HX.out.trans HZ.out))
          clear HZ HSB
          go_wp2
          go_ret
          exact ⟨rfl, HFIN.out⟩
end Go.Proofs.Ytahhnjoeaodcjaa
