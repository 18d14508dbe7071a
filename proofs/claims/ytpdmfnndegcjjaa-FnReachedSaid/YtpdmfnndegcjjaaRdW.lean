/- FnReached's walk: the law's own. -/
import Derived.Test.YtpdmfnndegcjjaaRdL
import Derived.Test.YtpdmfnndegcjjaaPrgF
namespace Go.Proofs.Ytpdmfnndegcjjaa
open Go Go.RowKit
set_option maxRecDepth 10000 in
set_option maxHeartbeats 16000000 in
theorem fnReached_any (a : Option Addr) (c : Nat) (zs : List Int) (a2 : Option Addr) (c2 : Nat) (ys : List Int) (w : World) (h : CodeAt w a zs) (h2 : CodeAt w a2 ys) :
    Calls Try.prog 3 #[.slice a zs.length c, .slice a2 ys.length c2] w fun e w' => e = .returned (.bool true) ∧ w.Ext w' := by
  obtain ⟨i0, hi, hz0, hz1, hz2⟩ := info_parts Try.infoI64
  obtain ⟨ib, hib, hb0, hb1, hb2⟩ := info_parts Try.infoBoolP
  have HLO := Lib.hid (long_any a zs.length c a2 ys.length c2 w h.2.2 h2.2.2)
  have HP := Lib.hid (fun w' (hx : w.Ext w') => b10Rings_any a c zs w' (h.ext hx))
  have HQ : Hid (∀ ss a3 c3 w', picOk ss = true → RowS w' a3 ss → w.Ext w' → Calls Try.prog 17 #[.slice a2 ys.length c2, .agg #[.slice a3 ss.length c3]] w' (NewPic w' (PicOf (picW ss) ss.length))) := fun ss a3 c3 w' h1 h3 hx => b10Like_any a2 c2 ys a3 c3 ss w' (h2.ext hx) h1 h3
  have HAT : Hid (∀ w', w.Ext w' → Calls Try.prog 18 #[.slice a2 ys.length c2, .int .i64 0, .int .i64 2] w' fun e w'' => ∃ r : Int, e = .returned (.int .i64 r) ∧ w'.Ext w'') := fun w' hx => (b10At_any a2 c2 ys 0 2 w' (by omega) (h2.ext hx)).mono fun e w'' hq => by
    obtain ⟨r, h1, h3, -⟩ := hq
    exact ⟨r, h1, h3⟩
  clear h h2
  go_enter Try.func3, Try.ntmps3
  have HWB : Hid (w.Ext w) := .refl _
  have HX : Hid (w.Ext w) := .refl _
  go_wp2_with fail
  refine (HLO.out).mono ?_
  rintro e v1 ⟨t, rfl, hx, -⟩
  have HX_ := Lib.hid (HX.out.trans hx)
  clear HX
  have HX := HX_
  clear HX_
  clear hx
  cases t
  rotate_left
  · go_wp2
    go_ret
    exact ⟨rfl, HX.out⟩
  go_wp2_with fail
  refine (HP.out v1 (HWB.out.trans HX.out)).mono ?_
  rintro e v2 ⟨pa, pc, ss, rfl, hpic, hx, hrow⟩
  have HX_ := Lib.hid (HX.out.trans hx)
  clear HX
  have HX := HX_
  clear HX_
  obtain ⟨g1, g2, g3, g4, g5, -⟩ := picOk_spec hpic.1
  have g6 := hpic.2.1
  have g7 := hpic.2.2
  have HLK : Hid (∀ w', RowS w' pa ss → w.Ext w' → Calls Try.prog 17 #[.slice a2 ys.length c2, .agg #[.slice pa ss.length pc]] w' (NewPic w' (PicOf (picW ss) ss.length))) := fun w' hr hx => HQ.out ss pa pc w' hpic.1 hr hx
  have hps : (ss.getD 0 ByteArray.empty).size = picW ss := rfl
  obtain ⟨W, hW⟩ : ∃ W, picW ss = W := ⟨_, rfl⟩
  obtain ⟨H, hH⟩ : ∃ H, ss.length = H := ⟨_, rfl⟩
  have HPIC : Hid (PicOf W H ss) := ⟨hpic.1, hH, hW⟩
  have HROW := Lib.hid hrow.row
  have HLL : Hid ((picL ss).length = W * H) := by show _ = _; rw [picL_len g5, hW, hH, Nat.mul_comm]
  rw [hW] at g3 g4 g7 hps HLK
  rw [hH] at g1 g2 g6 HLK ⊢
  have HSL := Lib.hid hH
  have HS0 := Lib.hid hps
  clear hpic hrow HP HQ g5 hW hH hps g2 g4
  clear hx
  obtain ⟨b2, hb2⟩ : ∃ b2, b2 = v2.alloc (.cells #[.slice pa H pc] 26) := ⟨_, rfl⟩
  have hxb : v2.Ext b2 := by rw [hb2]; repeat (first | exact World.Ext.refl _ | exact ⟨_, rfl⟩ | assumption | refine World.Ext.over ?_ _ | refine World.Ext.drewN ?_ _ | refine World.Ext.drew ?_ | refine World.Ext.alloc ?_ _ | refine World.Ext.setCell ?_ (by simp) _)
  have c5_ : b2.cell? ⟨v2.heap.size, 0, none⟩ = some (.slice pa H pc) := by rw [hb2]; simp [go_sem]
  have HALL_ : Hid (∀ w', b2.Ext w' → w'.cell? ⟨v2.heap.size, 0, none⟩ = some (.slice pa H pc) ∧ RowS w' pa ss ∧ True) := fun w' hx' => ⟨hx'.cell c5_, RowOf.ext HROW.out (hxb.trans hx'), trivial⟩
  have HWB_ := Lib.hid (HWB.out.trans (HX.out.trans hxb))
  have HX_ : Hid (b2.Ext b2) := .refl _
  clear hxb c5_ HWB HX
  have HALL := HALL_
  have HWB := HWB_
  have HX := HX_
  clear HALL_ HWB_ HX_
  clear HROW
  go_upto_region 4 with fail
  rw [← hb2]
  clear hb2
  generalize v2.heap.size = q5 at *
  have c5 := (HALL.out b2 HX.out).1
  have lc5 := World.block_lt_of_cell? _ _ c5
  go_wp2_with fail
  refine (HLK.out b2 (HALL.out b2 HX.out).2.1 (HWB.out.trans HX.out)).mono ?_
  rintro e v3 ⟨pb, pc2, tt, rfl, hpic2, hx, hrow2⟩
  clear lc5 c5
  have HX_ := Lib.hid (HX.out.trans hx)
  clear HX
  have HX := HX_
  clear HX_
  rw [hpic2.2.1]
  have HPIC2 := Lib.hid hpic2
  have HROW2 := Lib.hid hrow2.row
  clear hpic2 hrow2 HLK
  clear hx
  obtain ⟨b3, hb3⟩ : ∃ b3, b3 = v3.alloc (.cells #[.slice pb H pc2] 26) := ⟨_, rfl⟩
  have hxb : v3.Ext b3 := by rw [hb3]; repeat (first | exact World.Ext.refl _ | exact ⟨_, rfl⟩ | assumption | refine World.Ext.over ?_ _ | refine World.Ext.drewN ?_ _ | refine World.Ext.drew ?_ | refine World.Ext.alloc ?_ _ | refine World.Ext.setCell ?_ (by simp) _)
  have c6_ : b3.cell? ⟨v3.heap.size, 0, none⟩ = some (.slice pb H pc2) := by rw [hb3]; simp [go_sem]
  have HALL_ : Hid (∀ w', b3.Ext w' → w'.cell? ⟨q5, 0, none⟩ = some (.slice pa H pc) ∧ RowS w' pa ss ∧ w'.cell? ⟨v3.heap.size, 0, none⟩ = some (.slice pb H pc2) ∧ RowS w' pb tt ∧ True) := fun w' hx' => ⟨(HALL.out w' ((HX.out.trans hxb).trans hx')).1, (HALL.out w' ((HX.out.trans hxb).trans hx')).2.1, hx'.cell c6_, RowOf.ext HROW2.out (hxb.trans hx'), trivial⟩
  have HWB_ := Lib.hid (HWB.out.trans (HX.out.trans hxb))
  have HX_ : Hid (b3.Ext b3) := .refl _
  clear hxb c6_ HWB HX HALL
  have HALL := HALL_
  have HWB := HWB_
  have HX := HX_
  clear HALL_ HWB_ HX_
  clear HROW2
  go_upto_region 5 with fail
  rw [← hb3]
  clear hb3
  generalize v3.heap.size = q6 at *
  go_wp2_with fail
  refine (HAT.out b3 (HWB.out.trans HX.out)).mono ?_
  rintro e v4 ⟨r, rfl, hx⟩
  have HX_ := Lib.hid (HX.out.trans hx)
  clear HX
  have HX := HX_
  clear HX_
  clear HAT
  clear hx
  obtain ⟨e8, he8⟩ : ∃ e8, (r == 1) = e8 := ⟨_, rfl⟩
  obtain ⟨g, hg⟩ := RecG.ex tt ss e8
  obtain ⟨F, n, hF⟩ := LabP.ex ss e8
  obtain ⟨gh, hgh⟩ := OutG.ex W H (picL ss) (!e8)
  obtain ⟨gk, hgk⟩ := OutG.ex W H (filL W H gh) (!e8)
  obtain ⟨nh, hnh⟩ := HolN.ex W H (filL W H gh) e8
  have hn1 : nh = 1 := fill_holes hgh HLL.out g3 g1 hnh
  subst hn1
  have hag : filL W H gk = filL W H gh := fill_again hgh HLL.out g3 g1 hgk
  have HOK : Hid (RchOk W H (picL ss) (picL tt) e8 g F n) := rchOk g3 (fun x y hx hy => by
    have q := hg x y (by rw [HPIC.out.2.2]; exact hx) (by rw [HPIC.out.2.1]; exact hy)
    rw [HPIC.out.2.1, HPIC.out.2.2, HPIC2.out.2.1, HPIC2.out.2.2] at q
    exact q) (by
    have q := hF
    unfold LabP at q
    rw [HPIC.out.2.1, HPIC.out.2.2] at q
    exact q)
  have hbp : PicBnd ss := pic_bndM HPIC.out (by omega) (by omega)
  have hbq : PicBnd tt := pic_bndM HPIC2.out (by omega) (by omega)
  obtain ⟨mr1, mr2⟩ := rows_of g3 (show W ≤ 16 by omega) g1 (show H ≤ 16 by omega) g
  obtain ⟨mb1, mb2⟩ := rows_of g3 (show W ≤ 16 by omega) g1 (show H ≤ 16 by omega) (fun x y => (picL tt).getD (y * W + x) false && (picL ss).getD (y * W + x) false)
  obtain ⟨mf1, mf2⟩ := rows_of g3 (show W ≤ 16 by omega) g1 (show H ≤ 16 by omega) (fun x y => !gh x y)
  have hbr := pic_bndM mr1 (by omega) (by omega)
  have hbb := pic_bndM mb1 (by omega) (by omega)
  have hbf := pic_bndM mf1 (by omega) (by omega)
  have HC1 : Hid (∀ w', RowS w' pb tt → RowS w' pa ss → Calls Try.prog 19 #[.agg #[.slice pb H pc2], .agg #[.slice pa H pc], .bool e8] w' (PicRet2 w' (picRows W H (mkl W H g)) true)) := fun w' h1 h2 => by
    have q := implRec_any pb pc2 tt pa pc ss e8 g hg w' hbq hbp h1 h2
    rw [like_of HPIC2.out HPIC.out, HPIC.out.2.1, HPIC.out.2.2, HPIC2.out.2.1] at q
    exact q
  have HC2 : Hid (∀ w', RowS w' pb tt → RowS w' pa ss → Calls Try.prog 20 #[.int .i64 0, .agg #[.slice pb H pc2], .agg #[.slice pa H pc]] w' (PicRet2 w' (picRows W H (mkl W H fun x y => (picL tt).getD (y * W + x) false && (picL ss).getD (y * W + x) false)) true)) := fun w' h1 h2 => by
    have q := implJoin_any 0 pb pc2 tt pa pc ss w' (by decide) (like_of HPIC2.out HPIC.out) hbq hbp h1 h2
    rw [HPIC2.out.2.1, HPIC2.out.2.2, HPIC.out.2.1] at q
    rw [mkl_congr (g := jnG (0 : Int).toNat tt ss) (h := fun x y => (picL tt).getD (y * W + x) false && (picL ss).getD (y * W + x) false) fun x y hx hy => by
      unfold jnG
      rw [HPIC2.out.2.1, HPIC2.out.2.2, HPIC.out.2.1, HPIC.out.2.2, pxl_at _ _ _ _ _ hx hy, pxl_at _ _ _ _ _ hx hy]
      rfl] at q
    exact q
  have HC3 : Hid (∀ w', RowS w' pa ss → Calls Try.prog 21 #[.agg #[.slice pa H pc], .bool e8] w' (CmpRet w' (grd W H (cmpG F)) n true)) := fun w' h1 => by
    have q := implCmp_any pa pc ss e8 F n hF w' hbp h1
    unfold optM optI at q
    rw [HPIC.out.1, if_pos rfl, if_pos rfl, HPIC.out.2.1, HPIC.out.2.2] at q
    exact q
  have HI1 : Hid (∀ w' pr cr, RowS w' pr (picRows W H (mkl W H g)) → RowS w' pa ss → Calls Try.prog 22 #[.agg #[.slice pr H cr], .agg #[.slice pa H pc]] w' fun e w'' => e = .returned (.bool true) ∧ w'.Ext w'') := fun w' pr cr h1 h2 => by
    have q := implInside_any pr cr _ pa pc ss w' hbr hbp h1 h2
    rw [like_of mr1 HPIC.out, mr2, HOK.out.sub, mr1.2.1, HPIC.out.2.1] at q
    exact q
  have HI2 : Hid (∀ w' pr cr pj cj, RowS w' pj (picRows W H (mkl W H fun x y => (picL tt).getD (y * W + x) false && (picL ss).getD (y * W + x) false)) → RowS w' pr (picRows W H (mkl W H g)) → Calls Try.prog 22 #[.agg #[.slice pj H cj], .agg #[.slice pr H cr]] w' fun e w'' => e = .returned (.bool true) ∧ w'.Ext w'') := fun w' pr cr pj cj h1 h2 => by
    have q := implInside_any pj cj _ pr cr _ w' hbb hbr h1 h2
    rw [like_of mb1 mr1, mb2, mr2, HOK.out.both, mr1.2.1, mb1.2.1] at q
    exact q
  have HB1 : Hid (∀ w' (x y : Nat), x < W → y < H → RowS w' pa ss → Calls Try.prog 23 #[.agg #[.slice pa H pc], .int .i64 x, .int .i64 y] w' fun e w'' => e = .returned (.bool ((picL ss).getD (y * W + x) false)) ∧ w'.Ext w'') := fun w' x y hx hy h1 => by
    have q := b10Black_any pa pc ss x y w' HPIC.out.1 hbp h1
    rw [HPIC.out.2.1, HPIC.out.2.2, pxl_at _ _ _ _ _ hx hy] at q
    exact q
  have HB2 : Hid (∀ w' pr cr (x y : Nat), x < W → y < H → RowS w' pr (picRows W H (mkl W H g)) → Calls Try.prog 23 #[.agg #[.slice pr H cr], .int .i64 x, .int .i64 y] w' fun e w'' => e = .returned (.bool (g x y)) ∧ w'.Ext w'') := fun w' pr cr x y hx hy h1 => by
    have q := b10Black_any pr cr _ x y w' mr1.1 hbr h1
    rw [mr1.2.1, mr1.2.2, mr2, pxl_at _ _ _ _ _ hx hy, mkl_at _ _ _ _ _ hx hy] at q
    exact q
  have HB3 : Hid (∀ w' pr cr (x y : Nat), x < W → y < H → RowS w' pr (picRows W H (mkl W H fun x y => (picL tt).getD (y * W + x) false && (picL ss).getD (y * W + x) false)) → Calls Try.prog 23 #[.agg #[.slice pr H cr], .int .i64 x, .int .i64 y] w' fun e w'' => e = .returned (.bool ((picL tt).getD (y * W + x) false && (picL ss).getD (y * W + x) false)) ∧ w'.Ext w'') := fun w' pr cr x y hx hy h1 => by
    have q := b10Black_any pr cr _ x y w' mb1.1 hbb h1
    rw [mb1.2.1, mb1.2.2, mb2, pxl_at _ _ _ _ _ hx hy, mkl_at _ _ _ _ _ hx hy] at q
    exact q
  have HF1 : Hid (∀ w', RowS w' pa ss → Calls Try.prog 24 #[.agg #[.slice pa H pc], .bool e8] w' (PicRet2 w' (picRows W H (filL W H gh)) true)) := fun w' h1 => by
    have q := implFill_any pa pc ss e8 gh (by rw [HPIC.out.2.1, HPIC.out.2.2]; exact hgh) w' hbp h1
    rw [HPIC.out.1, HPIC.out.2.1, HPIC.out.2.2] at q
    exact q
  have HF2 : Hid (∀ w' pf cf, RowS w' pf (picRows W H (filL W H gh)) → Calls Try.prog 24 #[.agg #[.slice pf H cf], .bool e8] w' (PicRet2 w' (picRows W H (filL W H gh)) true)) := fun w' pf cf h1 => by
    have q := implFill_any pf cf (picRows W H (filL W H gh)) e8 gk (by
      show OutG (picW (picRows W H (mkl W H fun x y => !gh x y))) (picRows W H (mkl W H fun x y => !gh x y)).length (picL (picRows W H (mkl W H fun x y => !gh x y))) (!e8) gk
      rw [mf1.2.1, mf1.2.2, mf2]; exact hgk) w' hbf h1
    rw [show picOk (picRows W H (filL W H gh)) = true from mf1.1, show (picRows W H (filL W H gh)).length = H from mf1.2.1, show picW (picRows W H (filL W H gh)) = W from mf1.2.2, show (mkl W H fun x y => !gk x y) = filL W H gh from hag] at q
    exact q
  have HHO : Hid (∀ w' pf cf, RowS w' pf (picRows W H (filL W H gh)) → Calls Try.prog 25 #[.agg #[.slice pf H cf], .bool e8] w' fun e w'' => e = .returned (.tuple #[.int .i64 0, .bool true]) ∧ w'.Ext w'') := fun w' pf cf h1 => by
    have q := implCountHoles_any pf cf (picRows W H (filL W H gh)) e8 1 (by
      show HolN (picW (picRows W H (mkl W H fun x y => !gh x y))) (picRows W H (mkl W H fun x y => !gh x y)).length (picL (picRows W H (mkl W H fun x y => !gh x y))) e8 1
      rw [mf1.2.1, mf1.2.2, mf2]; exact hnh) w' hbf h1
    rw [show picOk (picRows W H (filL W H gh)) = true from mf1.1, show (picRows W H (filL W H gh)).length = H from mf1.2.1] at q
    exact q
  have HI3 : Hid (∀ w' pf cf, RowS w' pa ss → RowS w' pf (picRows W H (filL W H gh)) → Calls Try.prog 22 #[.agg #[.slice pa H pc], .agg #[.slice pf H cf]] w' fun e w'' => e = .returned (.bool true) ∧ w'.Ext w'') := fun w' pf cf h1 h2 => by
    have q := implInside_any pa pc ss pf cf (picRows W H (filL W H gh)) w' hbp hbf h1 h2
    have hin : insB (picL ss) (picL (picRows W H (filL W H gh))) = true := by
      rw [show picL (picRows W H (filL W H gh)) = filL W H gh from mf2]
      refine insB_all fun i hi hb => ?_
      rw [HLL.out] at hi
      have e := Nat.div_add_mod' i W
      have hx : i % W < W := Nat.mod_lt _ (by omega)
      have hy : i / W < H := (Nat.div_lt_iff_lt_mul (by omega)).2 (by rw [Nat.mul_comm]; exact hi)
      rw [← e] at hb ⊢
      unfold filL
      rw [mkl_at _ _ _ _ _ hx hy]
      exact fill_more hgh HLL.out g3 g1 hx hy hb
    rw [like_of HPIC.out (show PicOf W H (picRows W H (filL W H gh)) from mf1), hin, show (picRows W H (filL W H gh)).length = H from mf1.2.1, HPIC.out.2.1] at q
    exact q
  have HSM : Hid (∀ w' a1 c1 a3 c3, RowS w' a1 (picRows W H (filL W H gh)) → RowS w' a3 (picRows W H (filL W H gh)) → Calls Try.prog 26 #[.agg #[.slice a1 H c1], .agg #[.slice a3 H c3]] w' fun e w'' => e = .returned (.bool true) ∧ w'.Ext w'') := fun w' a1 c1 a3 c3 h1 h2 => by
    have q := b10Same_any a1 a3 c1 c3 _ _ w' (by rw [show (picRows W H (filL W H gh)).length = H from mf1.2.1]; omega) h1 h2
    rw [show (picRows W H (filL W H gh)).length = H from mf1.2.1, decide_eq_true rfl, decide_eq_true (show 0 < H by omega)] at q
    exact q
  have HN2 : Hid (n ≤ 256) := Nat.le_trans (Nat.le_trans (LabK.few hF).1 (spotsTo_len _ _ _)) (by rw [HPIC.out.2.1, HPIC.out.2.2]; exact Nat.mul_le_mul (show H ≤ 16 by omega) (show W ≤ 16 by omega))
  have HLR : Hid ((picRows W H (mkl W H g)).length = H) := mr1.2.1
  have HLB : Hid ((picRows W H (mkl W H fun x y => (picL tt).getD (y * W + x) false && (picL ss).getD (y * W + x) false)).length = H) := mb1.2.1
  have HLF : Hid ((picRows W H (filL W H gh)).length = H) := mf1.2.1
  have HFEW : Hid (∀ x y : Nat, cmpG F x y = ((F ((x : Int), (y : Int)) : Nat) : Int) ∧ F ((x : Int), (y : Int)) ≤ n) := fun x y => ⟨rfl, HOK.out.few _⟩
  have HMEM := Lib.hid HOK.out.mem
  have HDONE := Lib.hid HOK.out.done
  clear hg hF hgh hgk hnh hag HOK hbp hbq mr1 mr2 mb1 mb2 mf1 mf2 hbr hbb hbf HPIC HPIC2 HLL
  obtain ⟨f, hf⟩ : ∃ f : Nat → Nat, f = fun i => F (((i % W : Nat) : Int), ((i / W : Nat) : Int)) := ⟨_, rfl⟩
  obtain ⟨p, hp⟩ : ∃ p : Nat → Bool, p = fun i => g (i % W) (i / W) := ⟨_, rfl⟩
  obtain ⟨cc, hcc⟩ : ∃ cc : Nat → Bool, cc = fun i => (picL tt).getD i false && (picL ss).getD i false := ⟨_, rfl⟩
  have HAT3 : Hid (∀ x y : Nat, x < W → y < H → f (y * W + x) = F ((x : Int), (y : Int)) ∧ p (y * W + x) = g x y ∧ cc (y * W + x) = ((picL tt).getD (y * W + x) false && (picL ss).getD (y * W + x) false)) := fun x y hx hy => by
    have em : (y * W + x) % W = x := by rw [Nat.mul_comm, Nat.mul_add_mod, Nat.mod_eq_of_lt hx]
    have ed : (y * W + x) / W = y := by rw [Nat.mul_comm, Nat.mul_add_div (by omega), Nat.div_eq_of_lt hx]; omega
    rw [hf, hp, hcc]
    dsimp only
    rw [em, ed]
    exact ⟨rfl, rfl, rfl⟩
  have HDONE2 : Hid (∀ v, 0 < v → (anyV f p (H * W) v && anyV f (fun i => !p i) (H * W) v) = false ∧ (anyV f p (H * W) v && !anyV f (fun i => !p i) (H * W) v) = anyV f cc (H * W) v) := by rw [hf, hp, hcc]; exact HDONE.out
  clear HDONE hf hp hcc
  generalize picRows W H (mkl W H fun x y => (picL tt).getD (y * W + x) false && (picL ss).getD (y * W + x) false) = RB at *
  generalize picRows W H (mkl W H g) = RR at *
  generalize picRows W H (filL W H gh) = RF at *
  have c5 := (HALL.out v4 HX.out).1
  have lc5 := World.block_lt_of_cell? _ _ c5
  have c6 := (HALL.out v4 HX.out).2.2.1
  have lc6 := World.block_lt_of_cell? _ _ c6
  go_wp2_with fail
  refine (HC1.out v4 (HALL.out v4 HX.out).2.2.2.1 (HALL.out v4 HX.out).2.1).mono ?_
  rintro e v5 ⟨pr, kr, rfl, hx, ho⟩
  clear lc5 c5 lc6 c6
  have HX_ := Lib.hid (HX.out.trans hx)
  clear HX
  have HX := HX_
  clear HX_
  rw [HLR.out]
  have HO := Lib.hid ho.row
  clear ho HC1
  clear hx
  obtain ⟨b5, hb5⟩ : ∃ b5, b5 = v5.alloc (.cells #[.slice pr H kr] 26) := ⟨_, rfl⟩
  have hxb : v5.Ext b5 := by rw [hb5]; repeat (first | exact World.Ext.refl _ | exact ⟨_, rfl⟩ | assumption | refine World.Ext.over ?_ _ | refine World.Ext.drewN ?_ _ | refine World.Ext.drew ?_ | refine World.Ext.alloc ?_ _ | refine World.Ext.setCell ?_ (by simp) _)
  have c8_ : b5.cell? ⟨v5.heap.size, 0, none⟩ = some (.slice pr H kr) := by rw [hb5]; simp [go_sem]
  have HALL_ : Hid (∀ w', b5.Ext w' → w'.cell? ⟨q5, 0, none⟩ = some (.slice pa H pc) ∧ RowS w' pa ss ∧ w'.cell? ⟨q6, 0, none⟩ = some (.slice pb H pc2) ∧ RowS w' pb tt ∧ w'.cell? ⟨v5.heap.size, 0, none⟩ = some (.slice pr H kr) ∧ RowS w' pr RR ∧ True) := fun w' hx' => ⟨(HALL.out w' ((HX.out.trans hxb).trans hx')).1, (HALL.out w' ((HX.out.trans hxb).trans hx')).2.1, (HALL.out w' ((HX.out.trans hxb).trans hx')).2.2.1, (HALL.out w' ((HX.out.trans hxb).trans hx')).2.2.2.1, hx'.cell c8_, RowOf.ext HO.out (hxb.trans hx'), trivial⟩
  have HWB_ := Lib.hid (HWB.out.trans (HX.out.trans hxb))
  have HX_ : Hid (b5.Ext b5) := .refl _
  clear hxb c8_ HWB HX HALL
  have HALL := HALL_
  have HWB := HWB_
  have HX := HX_
  clear HALL_ HWB_ HX_
  clear HO
  go_upto_region 7 with fail
  rw [← hb5]
  clear hb5
  generalize v5.heap.size = q8 at *
  have c5 := (HALL.out b5 HX.out).1
  have lc5 := World.block_lt_of_cell? _ _ c5
  have c6 := (HALL.out b5 HX.out).2.2.1
  have lc6 := World.block_lt_of_cell? _ _ c6
  go_wp2_with fail
  refine (HC2.out b5 (HALL.out b5 HX.out).2.2.2.1 (HALL.out b5 HX.out).2.1).mono ?_
  rintro e v6 ⟨pj, kj, rfl, hx, ho⟩
  clear lc5 c5 lc6 c6
  have HX_ := Lib.hid (HX.out.trans hx)
  clear HX
  have HX := HX_
  clear HX_
  rw [HLB.out]
  have HO := Lib.hid ho.row
  clear ho HC2
  clear hx
  obtain ⟨b6, hb6⟩ : ∃ b6, b6 = v6.alloc (.cells #[.slice pj H kj] 26) := ⟨_, rfl⟩
  have hxb : v6.Ext b6 := by rw [hb6]; repeat (first | exact World.Ext.refl _ | exact ⟨_, rfl⟩ | assumption | refine World.Ext.over ?_ _ | refine World.Ext.drewN ?_ _ | refine World.Ext.drew ?_ | refine World.Ext.alloc ?_ _ | refine World.Ext.setCell ?_ (by simp) _)
  have c10_ : b6.cell? ⟨v6.heap.size, 0, none⟩ = some (.slice pj H kj) := by rw [hb6]; simp [go_sem]
  have HALL_ : Hid (∀ w', b6.Ext w' → w'.cell? ⟨q5, 0, none⟩ = some (.slice pa H pc) ∧ RowS w' pa ss ∧ w'.cell? ⟨q6, 0, none⟩ = some (.slice pb H pc2) ∧ RowS w' pb tt ∧ w'.cell? ⟨q8, 0, none⟩ = some (.slice pr H kr) ∧ RowS w' pr RR ∧ w'.cell? ⟨v6.heap.size, 0, none⟩ = some (.slice pj H kj) ∧ RowS w' pj RB ∧ True) := fun w' hx' => ⟨(HALL.out w' ((HX.out.trans hxb).trans hx')).1, (HALL.out w' ((HX.out.trans hxb).trans hx')).2.1, (HALL.out w' ((HX.out.trans hxb).trans hx')).2.2.1, (HALL.out w' ((HX.out.trans hxb).trans hx')).2.2.2.1, (HALL.out w' ((HX.out.trans hxb).trans hx')).2.2.2.2.1, (HALL.out w' ((HX.out.trans hxb).trans hx')).2.2.2.2.2.1, hx'.cell c10_, RowOf.ext HO.out (hxb.trans hx'), trivial⟩
  have HWB_ := Lib.hid (HWB.out.trans (HX.out.trans hxb))
  have HX_ : Hid (b6.Ext b6) := .refl _
  clear hxb c10_ HWB HX HALL
  have HALL := HALL_
  have HWB := HWB_
  have HX := HX_
  clear HALL_ HWB_ HX_
  clear HO
  go_upto_region 8 with fail
  rw [← hb6]
  clear hb6
  generalize v6.heap.size = q10 at *
  have c5 := (HALL.out b6 HX.out).1
  have lc5 := World.block_lt_of_cell? _ _ c5
  go_wp2_with fail
  refine (HC3.out b6 (HALL.out b6 HX.out).2.1).mono ?_
  rintro e v7 ⟨dl, dc, DA, DC, rfl, hx, hmat⟩
  clear lc5 c5
  have HX_ := Lib.hid (HX.out.trans hx)
  clear HX
  have HX := HX_
  clear HX_
  rw [grd_len]
  have HMD := Lib.hid hmat.mat
  clear HC3 hmat
  clear hx
  have c5 := (HALL.out v7 HX.out).1
  have lc5 := World.block_lt_of_cell? _ _ c5
  have c8 := (HALL.out v7 HX.out).2.2.2.2.1
  have lc8 := World.block_lt_of_cell? _ _ c8
  go_wp2_with fail
  refine (HI1.out v7 _ _ (HALL.out v7 HX.out).2.2.2.2.2.1 (HALL.out v7 HX.out).2.1).mono ?_
  rintro e v8 ⟨rfl, hx⟩
  clear lc5 c5 lc8 c8
  have HX_ := Lib.hid (HX.out.trans hx)
  clear HX
  have HX := HX_
  clear HX_
  clear HI1
  have HMD_ := Lib.hid (HMD.out.ext hx)
  clear HMD
  have HMD := HMD_
  clear HMD_
  clear hx
  have c8 := (HALL.out v8 HX.out).2.2.2.2.1
  have lc8 := World.block_lt_of_cell? _ _ c8
  have c10 := (HALL.out v8 HX.out).2.2.2.2.2.2.1
  have lc10 := World.block_lt_of_cell? _ _ c10
  go_wp2_with fail
  refine (HI2.out v8 _ _ _ _ (HALL.out v8 HX.out).2.2.2.2.2.2.2.1 (HALL.out v8 HX.out).2.2.2.2.2.1).mono ?_
  rintro e v9 ⟨rfl, hx⟩
  clear lc8 c8 lc10 c10
  have HX_ := Lib.hid (HX.out.trans hx)
  clear HX
  have HX := HX_
  clear HX_
  clear HI2
  have HMD_ := Lib.hid (HMD.out.ext hx)
  clear HMD
  have HMD := HMD_
  clear HMD_
  clear hx
  obtain ⟨rb, ro, rfl, hrc⟩ := ((HALL.out v9 HX.out).2.1) 0 (show 0 < ss.length by rw [HSL.out]; omega)
  rw [Nat.add_zero] at hrc
  have hs0 : (ss.getD 0 ByteArray.empty).size = W := HS0.out
  generalize ss.getD 0 ByteArray.empty = s0 at hrc hs0
  have HRC : Hid (∀ wr, v9.Ext wr → wr.cell? ⟨rb, ro, none⟩ = some (.string s0)) := fun wr hx => hx.cell hrc
  clear hrc
  obtain ⟨db, do', ddb, ddo, ddc, rfl, -, -⟩ := grd_cells HMD.out (x := 0) (y := 0) (by omega) (by omega)
  have HDR : Hid (∀ wr (x y : Nat), v9.Ext wr → x < W → y < H → ∃ bk ok ck, wr.cell? ⟨db, do' + y, none⟩ = some (.slice (some ⟨bk, ok, none⟩) W ck) ∧ wr.cell? ⟨bk, ok + x, none⟩ = some (.int .i64 (cmpG F x y))) := fun wr x y hx h1 h2 => by
    obtain ⟨b, o, bk, ok, ck, e, q1, q2⟩ := grd_cells HMD.out h1 h2
    cases e
    exact ⟨bk, ok, ck, hx.cell q1, hx.cell q2⟩
  clear HMD ddb ddo ddc
  have hn2 := HN2.out
  obtain ⟨nn, hnn⟩ : ∃ nn, nn = n + 1 := ⟨_, rfl⟩
  have hni : (n : Int) + 1 = (nn : Int) := by omega
  have HNI : Hid ((n : Int) + 1 = (nn : Int)) := hni
  have HNN := Lib.hid hnn
  have C1 : Hid (i0.bytes * nn ≤ 281474976710656) := by show _ ≤ _; rw [hz2]; omega
  have C2 : Hid (nn ≤ maxLen) := by show _ ≤ _; unfold maxLen; omega
  have C3 : Hid (ib.bytes * nn ≤ 281474976710656) := by show _ ≤ _; rw [hb2]; omega
  have HSTP := Lib.hid (StL.start nn f p)
  have HMKP := Lib.hid (MkL.start nn f cc)
  clear hnn
  have c5 := (HALL.out v9 HX.out).1
  have lc5 := World.block_lt_of_cell? _ _ c5
  have c8 := (HALL.out v9 HX.out).2.2.2.2.1
  have lc8 := World.block_lt_of_cell? _ _ c8
  have c10 := (HALL.out v9 HX.out).2.2.2.2.2.2.1
  have lc10 := World.block_lt_of_cell? _ _ c10
  have r5 := (HALL.out v9 HX.out).2.1
  have r8 := (HALL.out v9 HX.out).2.2.2.2.2.1
  have r10 := (HALL.out v9 HX.out).2.2.2.2.2.2.2.1
  have HCS : Hid (∀ wr, v9.Ext wr → wr.cell? ⟨q5, 0, none⟩ = some (.slice (some ⟨rb, ro, none⟩) H pc) ∧ wr.cell? ⟨q8, 0, none⟩ = some (.slice pr H kr) ∧ wr.cell? ⟨q10, 0, none⟩ = some (.slice pj H kj)) := fun wr hx => ⟨hx.cell c5, hx.cell c8, hx.cell c10⟩
  have HK1 := Lib.hid (fun wr (x y : Nat) (hx : v9.Ext wr) h1 h2 => HB1.out wr x y h1 h2 (RowOf.ext r5 hx))
  have HK2 := Lib.hid (fun wr (x y : Nat) (hx : v9.Ext wr) h1 h2 => HB2.out wr pr kr x y h1 h2 (RowOf.ext r8 hx))
  have HK3 := Lib.hid (fun wr (x y : Nat) (hx : v9.Ext wr) h1 h2 => HB3.out wr pj kj x y h1 h2 (RowOf.ext r10 hx))
  clear HB1 HB2 HB3 r5 r8 r10
  go_wp2_with (first
    | (at_make; refine wpList_make_full _ rfl _ _ 37 rfl 0 2 i0 (.int .i64 0) 1 Try.underlying37 hi hz0 hz1 .i64 .i64 _ _ nn rfl rfl rfl rfl C1.out C2.out (Nat.zero_le _) (fun w3 hown1 hgrow1 => ?_))
    | (at_make; refine wpList_make_full _ rfl _ _ 38 rfl 0 4 ib (.bool false) 1 Try.underlying38 hib hb0 hb1 .i64 .i64 _ _ nn rfl rfl rfl rfl C3.out C2.out (Nat.zero_le _) (fun w4 hown2 hgrow2 => ?_)))
  have hBA : BlkOf (Value.int .i64) w3 v9.heap.size 2 (List.replicate nn 0) := blk_of_made (f := Value.int .i64) 0 rfl hown1
  have hBB : BlkOf Value.bool w4 w3.heap.size 4 (List.replicate nn false) := blk_of_made (f := Value.bool) false rfl hown2
  have HS : Hid (RlSt v9 v9.heap.size w3.heap.size nn f p cc 0 0 w4) := ⟨(World.Ext.made hgrow1).trans (World.Ext.made hgrow2), Nat.le_refl _, (World.Ext.made hgrow1).size, Nat.ne_of_lt hBA.lt, ⟨_, hBA.ext (World.Ext.made hgrow2), HSTP.out⟩, ⟨_, hBB, HMKP.out⟩⟩
  generalize v9.heap.size = ga at *
  generalize w3.heap.size = gb at *
  clear hown1 hown2 hgrow1 hgrow2 hBA hBB C1 C2 C3 hi hib hz0 hz1 hz2 hb0 hb1 hb2 c5 lc5 c8 lc8 c10 lc10
  have h0H : (0 : Int) < (H : Int) := by omega
  go_loopw [17, 18, 19] (fun y _ _ wr => ∃ y' : Nat, y' ≤ H ∧ y = .int .i64 y' ∧ Hid (RlSt v9 ga gb nn f p cc (y' * W) (y' * W) wr)) (fun y _ _ _ => H - (intOf y).toNat)
  case atStart => exact ⟨0, Nat.zero_le _, rfl, by rw [Nat.zero_mul]; exact HS⟩
  case round =>
    clear HS
    obtain ⟨y, hy, rfl, HS⟩ := hrel
    obtain ⟨wy, rfl⟩ : ∃ wy : World, wy = wr := ⟨_, rfl⟩
    have hy0 : (0 : Int) ≤ (y : Int) := by omega
    by_cases hlty : y < H
    · as_aux_lemma =>
      have hlty' : (y : Int) < (H : Int) := by omega
      obtain ⟨bk, ok, ck, d1, -⟩ := HDR.out wy 0 y HS.out.x (by omega) hlty
      obtain ⟨c5, -, -⟩ := HCS.out wy HS.out.x
      have hrc := HRC.out wy HS.out.x
      go_wp2_with fail
      refine wp_region_over_lit (by kernel_rfl) (by kernel_rfl) ?_; (repeat (go_big_quiet_step (fail))); refine wpQuiet_nil ?_; rintro _ ⟨x1, rfl⟩
      have HS1 := Lib.hid (HS.out.ext ⟨x1, rfl⟩)
      clear d1 c5 hrc HS
      go_wp2
      go_loopw [18, 19] (fun x _ wr => ∃ x' : Nat, x' ≤ W ∧ x = .int .i64 x' ∧ Hid (RlSt v9 ga gb nn f p cc (y * W + x') (y * W + x') wr)) (fun x _ _ => W - (intOf x).toNat)
      case atStart => exact ⟨0, Nat.zero_le _, rfl, HS1⟩
      case round =>
        clear HS1
        obtain ⟨x, hx, rfl, HS⟩ := hrel
        obtain ⟨wx, rfl⟩ : ∃ wx : World, wx = wr := ⟨_, rfl⟩
        have hx0 : (0 : Int) ≤ (x : Int) := by omega
        by_cases hltx : x < W
        · have hltx' : (x : Int) < (W : Int) := by omega
          obtain ⟨bk, ok, ck, d1, d2⟩ := HDR.out wx x y HS.out.x hltx hlty
          obtain ⟨c5, -, -⟩ := HCS.out wx HS.out.x
          obtain ⟨t1, t2, t3⟩ := HAT3.out x y hltx hlty
          obtain ⟨u1, u2⟩ := HFEW.out x y
          have hm := HMEM.out x y hltx hlty
          have HKA := Lib.hid (HK1.out wx x y HS.out.x hltx hlty)
          have HKB := Lib.hid (fun wr hx => HK2.out wr x y hx hltx hlty)
          have HKC := Lib.hid (fun wr hx => HK3.out wr x y hx hltx hlty)
          rw [u1] at d2
          rw [← hm] at HKA
          rw [← t3] at HKC
          rw [← t2] at HKB
          rw [← t1] at d2 u2 HKA
          clear hm u1 t1 t2 t3
          obtain ⟨k, hk⟩ : ∃ k, k = y * W + x := ⟨_, rfl⟩
          have HKN : Hid (y * W + (x + 1) = k + 1) := by rw [hk]; rfl
          rw [← hk] at d2 u2 HKA HKB HKC HS
          clear hk
          obtain ⟨v, hv⟩ : ∃ v, f k = v := ⟨_, rfl⟩
          rw [hv] at d2 u2 HKA
          have hfn : f k < nn := by rw [hv, HNN.out]; omega
          have HFV := Lib.hid hv
          have HFN := Lib.hid hfn
          clear hfn hv
          have v0 : ¬ (v : Int) < 0 := by omega
          have v1 : ¬ (n : Int) < (v : Int) := by omega
          have v2 : (v : Int) < (nn : Int) := by omega
          have v3 : (0 : Int) ≤ (v : Int) := by omega
          obtain ⟨bv, hbv⟩ : ∃ bv, decide (0 < v) = bv := ⟨_, rfl⟩
          rw [hbv] at HKA
          go_wp2_with fail
          refine HKA.out.mono ?_
          rintro e w1 ⟨rfl, hx1⟩
          have HS1 := Lib.hid (HS.out.ext hx1)
          clear d1 d2 c5 hx1 HS HKA u2
          obtain ⟨-, c8, -⟩ := HCS.out w1 HS1.out.x
          go_wp2_with fail
          refine (HKB.out w1 HS1.out.x).mono ?_
          rintro e w2 ⟨rfl, hx2⟩
          have HS2 := Lib.hid (HS1.out.ext hx2)
          clear c8 hx2 HS1 HKB
          obtain ⟨z, s1, s2, s3, s4⟩ := HS2.out.a HFN.out
          rw [HFV.out] at s1 s2 s3 s4
          have ls := World.block_lt_of_cell? _ _ s1
          have HS3 : Hid (p k = true → RlSt v9 ga gb nn f p cc (k + 1) k (w2.setCell ⟨ga, v, none⟩ (.int .i64 (bits .or .i64 z 1)))) := s3
          have HS4 : Hid (p k = false → RlSt v9 ga gb nn f p cc (k + 1) k (w2.setCell ⟨ga, v, none⟩ (.int .i64 (bits .or .i64 z 2)))) := s4
          clear s3 s4 HS2
          generalize p k = pk at *
          cases pk
          · obtain ⟨w3, hw3⟩ : ∃ w3, w3 = w2.setCell ⟨ga, v, none⟩ (.int .i64 (bits .or .i64 z 2)) := ⟨_, rfl⟩
            have HS5 : Hid (RlSt v9 ga gb nn f p cc (k + 1) k w3) := by rw [hw3]; exact HS4.out rfl
            clear HS3 HS4
            go_upto_region 27 with fail
            rw [← hw3]
            clear hw3 s1 s2 ls
            obtain ⟨zb, hzb⟩ := HS5.out.b HFN.out
            rw [HFV.out] at hzb
            have HZB := Lib.hid hzb
            obtain ⟨q1, q2, -⟩ := hzb w3 (.refl _)
            have lq := World.block_lt_of_cell? _ _ q1
            obtain ⟨-, -, c10⟩ := HCS.out w3 HS5.out.x
            clear hzb
            cases zb
            · go_wp2_with fail
              refine (HKC.out w3 HS5.out.x).mono ?_
              rintro e w4 ⟨rfl, hx4⟩
              obtain ⟨q1', q2', q3⟩ := HZB.out w4 hx4
              rw [Bool.false_or] at q3
              have HS6 := Lib.hid q3
              have lq' := World.block_lt_of_cell? _ _ q1'
              clear q3 hx4 HZB q1 q2 lq c10
              generalize cc k = ck at *
              go_wp2
              go_roundw
              case rel => exact ⟨x + 1, by omega, by go_num, by rw [HKN.out]; exact HS6⟩
              case measure => simp [intOf]; omega
            · have q3 := (HZB.out w3 (.refl _)).2.2
              rw [Bool.true_or] at q3
              have HS6 := Lib.hid q3
              clear q3 HZB
              go_wp2
              go_roundw
              case rel => exact ⟨x + 1, by omega, by go_num, by rw [HKN.out]; exact HS6⟩
              case measure => simp [intOf]; omega
          · obtain ⟨w3, hw3⟩ : ∃ w3, w3 = w2.setCell ⟨ga, v, none⟩ (.int .i64 (bits .or .i64 z 1)) := ⟨_, rfl⟩
            have HS5 : Hid (RlSt v9 ga gb nn f p cc (k + 1) k w3) := by rw [hw3]; exact HS3.out rfl
            clear HS3 HS4
            go_upto_region 27 with fail
            rw [← hw3]
            clear hw3 s1 s2 ls
            obtain ⟨zb, hzb⟩ := HS5.out.b HFN.out
            rw [HFV.out] at hzb
            have HZB := Lib.hid hzb
            obtain ⟨q1, q2, -⟩ := hzb w3 (.refl _)
            have lq := World.block_lt_of_cell? _ _ q1
            obtain ⟨-, -, c10⟩ := HCS.out w3 HS5.out.x
            clear hzb
            cases zb
            · go_wp2_with fail
              refine (HKC.out w3 HS5.out.x).mono ?_
              rintro e w4 ⟨rfl, hx4⟩
              obtain ⟨q1', q2', q3⟩ := HZB.out w4 hx4
              rw [Bool.false_or] at q3
              have HS6 := Lib.hid q3
              have lq' := World.block_lt_of_cell? _ _ q1'
              clear q3 hx4 HZB q1 q2 lq c10
              generalize cc k = ck at *
              go_wp2
              go_roundw
              case rel => exact ⟨x + 1, by omega, by go_num, by rw [HKN.out]; exact HS6⟩
              case measure => simp [intOf]; omega
            · have q3 := (HZB.out w3 (.refl _)).2.2
              rw [Bool.true_or] at q3
              have HS6 := Lib.hid q3
              clear q3 HZB
              go_wp2
              go_roundw
              case rel => exact ⟨x + 1, by omega, by go_num, by rw [HKN.out]; exact HS6⟩
              case measure => simp [intOf]; omega
        · have hxe : ¬ (x : Int) < (W : Int) := by omega
          have hxW : x = W := by omega
          have HS2 : Hid (RlSt v9 ga gb nn f p cc ((y + 1) * W) ((y + 1) * W) wx) := by rw [Nat.succ_mul]; rw [hxW] at HS; exact HS
          obtain ⟨bk, ok, ck, d1, -⟩ := HDR.out wx 0 y HS.out.x (by omega) hlty
          clear HS
          go_wp2
          go_roundw
          case rel => exact ⟨y + 1, by omega, by go_num, HS2⟩
          case measure => simp [intOf]; omega
    · have hye : ¬ (y : Int) < (H : Int) := by omega
      have hyH : y = H := by omega
      rw [hyH] at HS ⊢
      clear HDR HK1 HK2 HK3 HRC HAT3 HFEW HMEM hyH hy0
      as_aux_lemma =>
      go_wp2
      go_loopw [20] (fun i wr => ∃ q : Nat, 1 ≤ q ∧ q ≤ nn ∧ i = .int .i64 q ∧ Hid (RlSt v9 ga gb nn f p cc (H * W) (H * W) wr)) (fun i _ => nn - (intOf i).toNat)
      case atStart => exact ⟨1, Nat.le_refl _, by rw [HNN.out]; omega, rfl, HS⟩
      case round =>
        clear HS
        obtain ⟨q, hq1, hq, rfl, HS⟩ := hrel
        obtain ⟨wq, rfl⟩ : ∃ wq : World, wq = wr := ⟨_, rfl⟩
        have hq0 : (0 : Int) ≤ (q : Int) := by omega
        have hnn := HNN.out
        by_cases hltq : q < nn
        · have hltq' : (q : Int) < (nn : Int) := by omega
          have hle : (q : Int) ≤ (n : Int) := by omega
          have hle2 : ¬ (n : Int) < (q : Int) := by omega
          clear hnn
          obtain ⟨z, b, s1, s2, hzb⟩ := HS.out.fin hltq (HDONE2.out q (by omega)).1 (HDONE2.out q (by omega)).2
          rcases hzb with ⟨rfl, rfl⟩ | ⟨rfl, rfl⟩ | ⟨rfl, rfl⟩
          all_goals
            go_wp2_with fail
            refine wp_region_over_lit (by kernel_rfl) (by kernel_rfl) ?_; (repeat (go_big_quiet_step (fail))); refine wpQuiet_nil ?_; rintro _ ⟨x1, rfl⟩
            have HS2 := Lib.hid (HS.out.ext ⟨x1, rfl⟩)
            clear s1 s2 HS
            go_wp2
            go_roundw
            case rel => exact ⟨q + 1, by omega, by omega, by go_num, HS2⟩
            case measure => simp [intOf]; omega
        · have hle : ¬ (q : Int) ≤ (n : Int) := by omega
          have hle2 : (n : Int) < (q : Int) := by omega
          clear hnn
          have HX_ := Lib.hid (HX.out.trans HS.out.x)
          clear HX HS HDONE2
          have HX := HX_
          clear HX_
          have c5 := (HALL.out wq HX.out).1
          have lc5 := World.block_lt_of_cell? _ _ c5
          go_wp2_with fail
          refine (HF1.out wq (HALL.out wq HX.out).2.1).mono ?_
          rintro e v10 ⟨pf, kf, rfl, hx, ho⟩
          clear lc5 c5
          have HX_ := Lib.hid (HX.out.trans hx)
          clear HX
          have HX := HX_
          clear HX_
          rw [HLF.out]
          have HO := Lib.hid ho.row
          clear ho HF1
          clear hx
          obtain ⟨b10, hb10⟩ : ∃ b10, b10 = v10.alloc (.cells #[.slice pf H kf] 26) := ⟨_, rfl⟩
          have hxb : v10.Ext b10 := by rw [hb10]; repeat (first | exact World.Ext.refl _ | exact ⟨_, rfl⟩ | assumption | refine World.Ext.over ?_ _ | refine World.Ext.drewN ?_ _ | refine World.Ext.drew ?_ | refine World.Ext.alloc ?_ _ | refine World.Ext.setCell ?_ (by simp) _)
          have c21_ : b10.cell? ⟨v10.heap.size, 0, none⟩ = some (.slice pf H kf) := by rw [hb10]; simp [go_sem]
          have HALL_ : Hid (∀ w', b10.Ext w' → w'.cell? ⟨q5, 0, none⟩ = some (.slice (some ⟨rb, ro, none⟩) H pc) ∧ RowS w' (some ⟨rb, ro, none⟩) ss ∧ w'.cell? ⟨q6, 0, none⟩ = some (.slice pb H pc2) ∧ RowS w' pb tt ∧ w'.cell? ⟨q8, 0, none⟩ = some (.slice pr H kr) ∧ RowS w' pr RR ∧ w'.cell? ⟨q10, 0, none⟩ = some (.slice pj H kj) ∧ RowS w' pj RB ∧ w'.cell? ⟨v10.heap.size, 0, none⟩ = some (.slice pf H kf) ∧ RowS w' pf RF ∧ True) := fun w' hx' => ⟨(HALL.out w' ((HX.out.trans hxb).trans hx')).1, (HALL.out w' ((HX.out.trans hxb).trans hx')).2.1, (HALL.out w' ((HX.out.trans hxb).trans hx')).2.2.1, (HALL.out w' ((HX.out.trans hxb).trans hx')).2.2.2.1, (HALL.out w' ((HX.out.trans hxb).trans hx')).2.2.2.2.1, (HALL.out w' ((HX.out.trans hxb).trans hx')).2.2.2.2.2.1, (HALL.out w' ((HX.out.trans hxb).trans hx')).2.2.2.2.2.2.1, (HALL.out w' ((HX.out.trans hxb).trans hx')).2.2.2.2.2.2.2.1, hx'.cell c21_, RowOf.ext HO.out (hxb.trans hx'), trivial⟩
          have HWB_ := Lib.hid (HWB.out.trans (HX.out.trans hxb))
          have HX_ : Hid (b10.Ext b10) := .refl _
          clear hxb c21_ HWB HX HALL
          have HALL := HALL_
          have HWB := HWB_
          have HX := HX_
          clear HALL_ HWB_ HX_
          clear HO
          go_upto_region 34 with fail
          rw [← hb10]
          clear hb10
          generalize v10.heap.size = q21 at *
          have c21 := (HALL.out b10 HX.out).2.2.2.2.2.2.2.2.1
          have lc21 := World.block_lt_of_cell? _ _ c21
          go_wp2_with fail
          refine (HHO.out b10 _ _ (HALL.out b10 HX.out).2.2.2.2.2.2.2.2.2.1).mono ?_
          rintro e v11 ⟨rfl, hx⟩
          clear lc21 c21
          have HX_ := Lib.hid (HX.out.trans hx)
          clear HX
          have HX := HX_
          clear HX_
          clear HHO
          clear hx
          have c21 := (HALL.out v11 HX.out).2.2.2.2.2.2.2.2.1
          have lc21 := World.block_lt_of_cell? _ _ c21
          go_wp2_with fail
          refine (HF2.out v11 _ _ (HALL.out v11 HX.out).2.2.2.2.2.2.2.2.2.1).mono ?_
          rintro e v12 ⟨pg, kg, rfl, hx, ho⟩
          clear lc21 c21
          have HX_ := Lib.hid (HX.out.trans hx)
          clear HX
          have HX := HX_
          clear HX_
          rw [HLF.out]
          have HO := Lib.hid ho.row
          clear ho HF2
          clear hx
          obtain ⟨b12, hb12⟩ : ∃ b12, b12 = v12.alloc (.cells #[.slice pg H kg] 26) := ⟨_, rfl⟩
          have hxb : v12.Ext b12 := by rw [hb12]; repeat (first | exact World.Ext.refl _ | exact ⟨_, rfl⟩ | assumption | refine World.Ext.over ?_ _ | refine World.Ext.drewN ?_ _ | refine World.Ext.drew ?_ | refine World.Ext.alloc ?_ _ | refine World.Ext.setCell ?_ (by simp) _)
          have c25_ : b12.cell? ⟨v12.heap.size, 0, none⟩ = some (.slice pg H kg) := by rw [hb12]; simp [go_sem]
          have HALL_ : Hid (∀ w', b12.Ext w' → w'.cell? ⟨q5, 0, none⟩ = some (.slice (some ⟨rb, ro, none⟩) H pc) ∧ RowS w' (some ⟨rb, ro, none⟩) ss ∧ w'.cell? ⟨q6, 0, none⟩ = some (.slice pb H pc2) ∧ RowS w' pb tt ∧ w'.cell? ⟨q8, 0, none⟩ = some (.slice pr H kr) ∧ RowS w' pr RR ∧ w'.cell? ⟨q10, 0, none⟩ = some (.slice pj H kj) ∧ RowS w' pj RB ∧ w'.cell? ⟨q21, 0, none⟩ = some (.slice pf H kf) ∧ RowS w' pf RF ∧ w'.cell? ⟨v12.heap.size, 0, none⟩ = some (.slice pg H kg) ∧ RowS w' pg RF ∧ True) := fun w' hx' => ⟨(HALL.out w' ((HX.out.trans hxb).trans hx')).1, (HALL.out w' ((HX.out.trans hxb).trans hx')).2.1, (HALL.out w' ((HX.out.trans hxb).trans hx')).2.2.1, (HALL.out w' ((HX.out.trans hxb).trans hx')).2.2.2.1, (HALL.out w' ((HX.out.trans hxb).trans hx')).2.2.2.2.1, (HALL.out w' ((HX.out.trans hxb).trans hx')).2.2.2.2.2.1, (HALL.out w' ((HX.out.trans hxb).trans hx')).2.2.2.2.2.2.1, (HALL.out w' ((HX.out.trans hxb).trans hx')).2.2.2.2.2.2.2.1, (HALL.out w' ((HX.out.trans hxb).trans hx')).2.2.2.2.2.2.2.2.1, (HALL.out w' ((HX.out.trans hxb).trans hx')).2.2.2.2.2.2.2.2.2.1, hx'.cell c25_, RowOf.ext HO.out (hxb.trans hx'), trivial⟩
          have HWB_ := Lib.hid (HWB.out.trans (HX.out.trans hxb))
          have HX_ : Hid (b12.Ext b12) := .refl _
          clear hxb c25_ HWB HX HALL
          have HALL := HALL_
          have HWB := HWB_
          have HX := HX_
          clear HALL_ HWB_ HX_
          clear HO
          go_upto_region 36 with fail
          rw [← hb12]
          clear hb12
          generalize v12.heap.size = q25 at *
          have c5 := (HALL.out b12 HX.out).1
          have lc5 := World.block_lt_of_cell? _ _ c5
          have c21 := (HALL.out b12 HX.out).2.2.2.2.2.2.2.2.1
          have lc21 := World.block_lt_of_cell? _ _ c21
          go_wp2_with fail
          refine (HI3.out b12 _ _ (HALL.out b12 HX.out).2.1 (HALL.out b12 HX.out).2.2.2.2.2.2.2.2.2.1).mono ?_
          rintro e v13 ⟨rfl, hx⟩
          clear lc5 c5 lc21 c21
          have HX_ := Lib.hid (HX.out.trans hx)
          clear HX
          have HX := HX_
          clear HX_
          clear HI3
          clear hx
          have c21 := (HALL.out v13 HX.out).2.2.2.2.2.2.2.2.1
          have lc21 := World.block_lt_of_cell? _ _ c21
          have c25 := (HALL.out v13 HX.out).2.2.2.2.2.2.2.2.2.2.1
          have lc25 := World.block_lt_of_cell? _ _ c25
          go_wp2_with fail
          refine (HSM.out v13 _ _ _ _ (HALL.out v13 HX.out).2.2.2.2.2.2.2.2.2.1 (HALL.out v13 HX.out).2.2.2.2.2.2.2.2.2.2.2.1).mono ?_
          rintro e v14 ⟨rfl, hx⟩
          clear lc21 c21 lc25 c25
          have HX_ := Lib.hid (HX.out.trans hx)
          clear HX
          have HX := HX_
          clear HX_
          clear HSM
          clear hx
          have HFIN := Lib.hid ((HWB.out.trans HX.out))
          go_wp2
          go_ret
          exact ⟨by simp, HFIN.out⟩
end Go.Proofs.Ytpdmfnndegcjjaa
