/- FnEuler: the law's walk. -/
import Derived.Test.YthgkmaccbcpaeaaEulI
namespace Go.Proofs.Ythgkmaccbcpaeaa
open Go Go.RowKit
set_option maxRecDepth 10000 in
set_option maxHeartbeats 16000000 in
theorem fnEuler_any (a : Option Addr) (c : Nat) (zs : List Int) (a2 : Option Addr) (c2 : Nat) (ys : List Int) (w : World) (h : CodeAt w a zs) (h2 : CodeAt w a2 ys) :
    Calls Try.prog 6 #[.slice a zs.length c, .slice a2 ys.length c2] w fun e w' => e = .returned (.bool true) ∧ w.Ext w' := by
  have HLO := Lib.hid (long_any a zs.length c a2 ys.length c2 w h.2.2 h2.2.2)
  have HP := Lib.hid (fun w' (hx : w.Ext w') => b10Rings_any a c zs w' (h.ext hx))
  have HAT := Lib.hid (fun w' (hx : w.Ext w') => b10At_any a2 c2 ys 0 9 w' (by omega) (h2.ext hx))
  clear h h2
  go_enter Try.func6, Try.ntmps6
  have HWB : Hid (w.Ext w) := .refl _
  have HX : Hid (w.Ext w) := .refl _
  go_wp2_with fail
  refine (HLO.out).mono ?_
  rintro e v1 ⟨t, rfl, hx, -⟩
  have HX_ := Lib.hid (HX.out.trans hx)
  clear HX
  have HX := HX_
  clear HX_
  clear hx
  cases t
  rotate_left
  · go_wp2
    go_ret
    exact ⟨rfl, HX.out⟩
  go_wp2_with fail
  refine (HP.out v1 (HWB.out.trans HX.out)).mono ?_
  rintro e v2 ⟨pa, pc, ss, rfl, hpic, hx, hrow⟩
  have HX_ := Lib.hid (HX.out.trans hx)
  clear HX
  have HX := HX_
  clear HX_
  obtain ⟨g1, g2, g3, g4, g5, -⟩ := picOk_spec hpic.1
  have g6 := hpic.2.1
  have g7 := hpic.2.2
  obtain ⟨W, hW⟩ : ∃ W, picW ss = W := ⟨_, rfl⟩
  obtain ⟨H, hH⟩ : ∃ H, ss.length = H := ⟨_, rfl⟩
  have hPO : PicOf W H ss := ⟨hpic.1, hH, hW⟩
  have hbE := pic_bndM hPO (by omega) (by omega)
  have HQU : Hid (∀ w', RowS w' pa ss → Calls Try.prog 40 #[.agg #[.slice pa H pc]] w' (QuadsRet w' (qs one1 (pxl W H (picL ss)) W H) (qs three1 (pxl W H (picL ss)) W H) (qs diag1 (pxl W H (picL ss)) W H))) := fun w' h => by
    have q := implQuads_any pa pc ss w' hbE hpic.1 h
    rw [hW, hH] at q
    refine q.mono ?_
    rintro e w1 ⟨b, c, rfl, hx, ho⟩
    have hr := ho.row
    obtain ⟨b0, o0, e0, d0⟩ := hr 0 (by show 0 < 3; omega)
    obtain ⟨b1, o1, e1, d1⟩ := hr 1 (by show 1 < 3; omega)
    obtain ⟨b2, o2, e2, d2⟩ := hr 2 (by show 2 < 3; omega)
    rw [e0] at e1 e2
    cases e1
    cases e2
    exact ⟨b0, o0, c, by rw [e0]; rfl, hx, by rw [Nat.add_zero] at d0; exact d0, d1, d2⟩
  have HEU := Lib.hid (fun e8 => EuC.ex (pc := pc) (pa := pa) hPO (by omega) (by omega) e8)
  have HCB : Hid (∀ w', RowS w' pa ss → Calls Try.prog 33 #[.agg #[.slice pa H pc]] w' (NumRet w' ((spotsTo W (picL ss) (H * W)).length : Nat))) := fun w' h => by
    have q := countBlack_any pa pc ss w' hbE hpic.1 h
    rw [hW, hH] at q
    exact q
  have HCM : Hid ((((spotsTo W (picL ss) (H * W)).length : Nat) : Int) ≤ 144) := by
    have h1 := spotsTo_len W (picL ss) (H * W)
    have h2 : H * W ≤ 144 := Nat.mul_le_mul (show H ≤ 12 by omega) (show W ≤ 12 by omega)
    show _ ≤ _
    omega
  have HQB : Hid ((0 ≤ qs one1 (pxl W H (picL ss)) W H ∧ qs one1 (pxl W H (picL ss)) W H ≤ 8192) ∧ (0 ≤ qs three1 (pxl W H (picL ss)) W H ∧ qs three1 (pxl W H (picL ss)) W H ≤ 8192) ∧ (0 ≤ qs diag1 (pxl W H (picL ss)) W H ∧ qs diag1 (pxl W H (picL ss)) W H ≤ 8192)) := by
    show _ ∧ _ ∧ _
    rw [← qT_end, ← qT_end, ← qT_end]
    exact ⟨qT_bnd win_bnd.1 _ (by omega) (by omega) (by omega), qT_bnd win_bnd.2.1 _ (by omega) (by omega) (by omega), qT_bnd win_bnd.2.2 _ (by omega) (by omega) (by omega)⟩
  have HROW := Lib.hid hrow.row
  have HHB : Hid (1 ≤ H ∧ H ≤ 12) := ⟨by omega, by omega⟩
  rw [hH]
  clear hpic hrow HP g1 g2 g3 g4 g5 g6 g7 hbE hPO hW hH
  generalize qs one1 (pxl W H (picL ss)) W H = q1 at *
  generalize qs three1 (pxl W H (picL ss)) W H = q3 at *
  generalize qs diag1 (pxl W H (picL ss)) W H = qd at *
  generalize ((spotsTo W (picL ss) (H * W)).length : Int) = cb at *
  clear hx
  obtain ⟨b2, hb2⟩ : ∃ b2, b2 = v2.alloc (.cells #[.slice pa H pc] 26) := ⟨_, rfl⟩
  have hxb : v2.Ext b2 := by rw [hb2]; repeat (first | exact World.Ext.refl _ | exact ⟨_, rfl⟩ | assumption | refine World.Ext.over ?_ _ | refine World.Ext.drewN ?_ _ | refine World.Ext.drew ?_ | refine World.Ext.alloc ?_ _ | refine World.Ext.setCell ?_ (by simp) _)
  have c5_ : b2.cell? ⟨v2.heap.size, 0, none⟩ = some (.slice pa H pc) := by rw [hb2]; simp [go_sem]
  have HALL_ : Hid (∀ w', b2.Ext w' → w'.cell? ⟨v2.heap.size, 0, none⟩ = some (.slice pa H pc) ∧ RowS w' pa ss ∧ True) := fun w' hx' => ⟨hx'.cell c5_, RowOf.ext HROW.out (hxb.trans hx'), trivial⟩
  have HWB_ := Lib.hid (HWB.out.trans (HX.out.trans hxb))
  have HX_ : Hid (b2.Ext b2) := .refl _
  clear hxb c5_ HWB HX
  have HALL := HALL_
  have HWB := HWB_
  have HX := HX_
  clear HALL_ HWB_ HX_
  clear HROW
  go_upto_region 4 with fail
  rw [← hb2]
  clear hb2
  generalize v2.heap.size = q5 at *
  have c5 := (HALL.out b2 HX.out).1
  have lc5 := World.block_lt_of_cell? _ _ c5
  go_wp2_with fail
  refine (HQU.out b2 (HALL.out b2 HX.out).2.1).mono ?_
  rintro e v3 ⟨qb, qo, qc, rfl, hx, hd0, hd1, hd2⟩
  clear lc5 c5
  have HX_ := Lib.hid (HX.out.trans hx)
  clear HX
  have HX := HX_
  clear HX_
  have HD0 := Lib.hid hd0
  have HD1 := Lib.hid hd1
  have HD2 := Lib.hid hd2
  clear hd0 hd1 hd2
  clear hx
  have hxr : v3.Ext v3 := .refl _
  have HALL_ : Hid (∀ w', v3.Ext w' → w'.cell? ⟨q5, 0, none⟩ = some (.slice pa H pc) ∧ RowS w' pa ss ∧ w'.cell? ⟨qb, qo, none⟩ = some (.int .i64 q1) ∧ w'.cell? ⟨qb, qo + 1, none⟩ = some (.int .i64 q3) ∧ w'.cell? ⟨qb, qo + 2, none⟩ = some (.int .i64 qd) ∧ True) := fun w' hx' => ⟨(HALL.out w' ((HX.out.trans hxr).trans hx')).1, (HALL.out w' ((HX.out.trans hxr).trans hx')).2.1, hx'.cell HD0.out, hx'.cell HD1.out, hx'.cell HD2.out, trivial⟩
  have HWB_ := Lib.hid (HWB.out.trans (HX.out.trans hxr))
  have HX_ : Hid (v3.Ext v3) := .refl _
  clear hxr HWB HX HALL
  have HALL := HALL_
  have HWB := HWB_
  have HX := HX_
  clear HALL_ HWB_ HX_
  clear HD0 HD1 HD2 HQU
  obtain ⟨⟨qa1, qa2⟩, ⟨qa3, qa4⟩, ⟨qa5, qa6⟩⟩ := HQB.out
  have hcb := HCM.out
  clear HQB HCM
  go_wp2
  go_loopw [8, 9, 10, 11, 12, 13, 14, 15, 16, 17, 18, 19, 20, 21, 22, 23, 24, 25, 26, 27, 28, 29, 30, 31, 32, 33, 34, 35] (fun k _ _ _ _ _ _ _ _ _ _ _ _ _ _ _ _ _ _ _ _ _ _ _ _ _ _ _ wr => ∃ i : Nat, i ≤ 2 ∧ k = .int .i64 i ∧ Hid (v3.Ext wr)) (fun k _ _ _ _ _ _ _ _ _ _ _ _ _ _ _ _ _ _ _ _ _ _ _ _ _ _ _ _ => 2 - (intOf k).toNat)
  case atStart => exact ⟨0, Nat.zero_le _, rfl, HX⟩
  case round =>
    clear HX
    obtain ⟨i, hi, rfl, HX⟩ := hrel
    obtain ⟨wa, rfl⟩ : ∃ wa : World, wa = wr := ⟨_, rfl⟩
    by_cases hlt : i < 2
    · have hlt' : (i : Int) < 2 := by omega
      obtain ⟨e8, he8⟩ : ∃ e8, ((i : Int) == 1) = e8 := ⟨_, rfl⟩
      obtain ⟨n, hol, xs, M, L, K, hE⟩ := HEU.out e8
      have HE := Lib.hid hE
      obtain ⟨hb1, hb2⟩ := hE.holb
      have hfew := hE.few
      have hform := hE.form
      clear hE
      have c5 := (HALL.out wa HX.out).1
      have lc5 := World.block_lt_of_cell? _ _ c5
      go_wp2_with fail
      refine (HE.out.c1 wa (HALL.out wa HX.out).2.1).mono ?_
      rintro e v4 ⟨aM, cM, AM, CM, rfl, hx, -⟩
      clear lc5 c5
      have HX_ := Lib.hid (HX.out.trans hx)
      clear HX
      have HX := HX_
      clear HX_
      clear hx
      have c5 := (HALL.out v4 HX.out).1
      have lc5 := World.block_lt_of_cell? _ _ c5
      go_wp2_with fail
      refine (HE.out.c2 v4 (HALL.out v4 HX.out).2.1).mono ?_
      rintro e v5 ⟨rfl, hx⟩
      clear lc5 c5
      have HX_ := Lib.hid (HX.out.trans hx)
      clear HX
      have HX := HX_
      clear HX_
      clear hx
      have c5 := (HALL.out v5 HX.out).1
      have lc5 := World.block_lt_of_cell? _ _ c5
      go_wp2_with fail
      refine (HE.out.c3 v5 (HALL.out v5 HX.out).2.1).mono ?_
      rintro e v6 ⟨rfl, hx⟩
      clear lc5 c5
      have HX_ := Lib.hid (HX.out.trans hx)
      clear HX
      have HX := HX_
      clear HX_
      clear hx
      have c5 := (HALL.out v6 HX.out).1
      have lc5 := World.block_lt_of_cell? _ _ c5
      go_wp2_with fail
      refine (HE.out.c4 v6 (HALL.out v6 HX.out).2.1).mono ?_
      rintro e v7 ⟨xa, xc, rfl, hx, hxo⟩
      clear lc5 c5
      have HX_ := Lib.hid (HX.out.trans hx)
      clear HX
      have HX := HX_
      clear HX_
      have HXR := Lib.hid hxo.row
      clear hxo
      clear hx
      rw [HE.out.len]
      have hxr : v7.Ext v7 := .refl _
      have HALL_ : Hid (∀ w', v7.Ext w' → w'.cell? ⟨q5, 0, none⟩ = some (.slice pa H pc) ∧ RowS w' pa ss ∧ w'.cell? ⟨qb, qo, none⟩ = some (.int .i64 q1) ∧ w'.cell? ⟨qb, qo + 1, none⟩ = some (.int .i64 q3) ∧ w'.cell? ⟨qb, qo + 2, none⟩ = some (.int .i64 qd) ∧ RowI w' xa xs ∧ v3.Ext w' ∧ True) := fun w' hx' => ⟨(HALL.out w' ((HX.out.trans hxr).trans hx')).1, (HALL.out w' ((HX.out.trans hxr).trans hx')).2.1, (HALL.out w' ((HX.out.trans hxr).trans hx')).2.2.1, (HALL.out w' ((HX.out.trans hxr).trans hx')).2.2.2.1, (HALL.out w' ((HX.out.trans hxr).trans hx')).2.2.2.2.1, RowOf.ext HXR.out hx', HX.out.trans hx', trivial⟩
      have HWB_ := Lib.hid (HWB.out.trans (HX.out.trans hxr))
      have HX_ : Hid (v7.Ext v7) := .refl _
      clear hxr HWB HX HALL
      have HALL := HALL_
      have HWB := HWB_
      have HX := HX_
      clear HALL_ HWB_ HX_
      clear HXR
      have HSX := Lib.hid (sumX_le HE.out.pos)
      have HWX := Lib.hid (wantN_le HE.out.pos)
      have HMX : Hid (∀ k, k ≤ n → 0 ≤ mxR xs k ∧ mxR xs k ≤ 144) := fun k hk => ⟨mxR_zero xs k, mxR_le (by omega) fun j hj => (HE.out.pos j (by omega)).2⟩
      clear HEU
      have c5 := (HALL.out v7 HX.out).1
      have lc5 := World.block_lt_of_cell? _ _ c5
      go_wp2_with fail
      refine (HCB.out v7 (HALL.out v7 HX.out).2.1).mono ?_
      rintro e v8 ⟨rfl, hx⟩
      clear lc5 c5
      have HX_ := Lib.hid (HX.out.trans hx)
      clear HX
      have HX := HX_
      clear HX_
      clear hx
      cases e8
      · as_aux_lemma =>
        have d0 := (HALL.out v8 HX.out).2.2.1
        have ld0 := World.block_lt_of_cell? _ _ d0
        have d1 := (HALL.out v8 HX.out).2.2.2.1
        have ld1 := World.block_lt_of_cell? _ _ d1
        have d2 := (HALL.out v8 HX.out).2.2.2.2.1
        have ld2 := World.block_lt_of_cell? _ _ d2
        have hf : ((4 * ((n : Int) - hol)) != (q1 - q3 + 2 * qd)) = false := by rw [bne_eq_false_iff_eq, hform, if_neg (by decide)]
        clear hform
        have hln : ((n : Int) != (n : Int)) = false := by simp
        go_wp2_with fail
        refine wp_region_over_lit (by kernel_rfl) (by kernel_rfl) ?_; (repeat (go_big_quiet_step (fail))); refine wpQuiet_nil ?_; rintro _ ⟨x1, rfl⟩
        have HXQ : Hid (v7.Ext (v8.over x1)) := HX.out.trans ⟨x1, rfl⟩
        clear HX
        have HX := HXQ
        clear HXQ hf
        clear ld0 d0 ld1 d1 ld2 d2
        generalize hwq : v8.over x1 = wq at *
        clear hwq
        go_wp2
        go_loopw [22, 23, 24] (fun s m j wr => ∃ k : Nat, k ≤ n ∧ j = .int .i64 k ∧ s = .int .i64 (sumX xs k) ∧ m = .int .i64 (mxR xs k) ∧ Hid (v7.Ext wr)) (fun _ _ j _ => n - (intOf j).toNat)
        case atStart => exact ⟨0, Nat.zero_le _, rfl, rfl, rfl, HX⟩
        case round =>
          clear HX
          obtain ⟨k, hk, rfl, rfl, rfl, HX⟩ := hrel
          obtain ⟨wb, rfl⟩ : ∃ wb : World, wb = wr := ⟨_, rfl⟩
          have hk0 : (0 : Int) ≤ (k : Int) := by omega
          by_cases hltk : k < n
          · have hltk' : (k : Int) < (n : Int) := by omega
            obtain ⟨xb, xo, rfl, hxk⟩ := (HALL.out wb HX.out).2.2.2.2.2.1 k (by rw [HE.out.len]; exact hltk)
            have hs1 : sumX xs (k + 1) = sumX xs k + xs.getD k 0 := rfl
            have hm1 : mxR xs (k + 1) = if mxR xs k < xs.getD k 0 then xs.getD k 0 else mxR xs k := rfl
            have hv := HE.out.pos k hltk
            have hS := HSX.out k hk
            have hM := HMX.out k hk
            have HS1 := Lib.hid hs1
            have HM1 := Lib.hid hm1
            clear hs1 hm1
            generalize sumX xs k = S at *
            generalize mxR xs k = Mx at *
            generalize xs.getD k 0 = v at *
            have t1 : decide (v < 1) = false := decide_eq_false (by omega)
            go_wp2
            go_roundw
            case rel => exact ⟨k + 1, by omega, by go_num, by rw [HS1.out], by rw [HM1.out], HX⟩
            case measure => simp [intOf]; omega
          · have : k = n := by omega
            subst this
            have hltk' : ¬ (k : Int) < (k : Int) := by omega
            rw [show sumX xs k = cb from HE.out.sum]
            clear HSX
            have hM := HMX.out k hk
            generalize hmx : mxR xs k = mx at *
            have HMK := Lib.hid hmx
            clear hmx HMX
            have c5 := (HALL.out wb HX.out).1
            have lc5 := World.block_lt_of_cell? _ _ c5
            go_wp2_with fail
            refine (HE.out.c5 wb (HALL.out wb HX.out).2.1).mono ?_
            rintro e v9 ⟨la, lc, rfl, hx, ho⟩
            clear lc5 c5
            have HX_ := Lib.hid (HX.out.trans hx)
            clear HX
            have HX := HX_
            clear HX_
            have HRL := Lib.hid ho.row
            clear ho
            clear hx
            obtain ⟨b9, hb9⟩ : ∃ b9, b9 = v9.alloc (.cells #[.slice la L.length lc] 26) := ⟨_, rfl⟩
            have hxb : v9.Ext b9 := by rw [hb9]; repeat (first | exact World.Ext.refl _ | exact ⟨_, rfl⟩ | assumption | refine World.Ext.over ?_ _ | refine World.Ext.drewN ?_ _ | refine World.Ext.drew ?_ | refine World.Ext.alloc ?_ _ | refine World.Ext.setCell ?_ (by simp) _)
            have c25_ : b9.cell? ⟨v9.heap.size, 0, none⟩ = some (.slice la L.length lc) := by rw [hb9]; simp [go_sem]
            have HALL_ : Hid (∀ w', b9.Ext w' → w'.cell? ⟨q5, 0, none⟩ = some (.slice pa H pc) ∧ RowS w' pa ss ∧ w'.cell? ⟨qb, qo, none⟩ = some (.int .i64 q1) ∧ w'.cell? ⟨qb, qo + 1, none⟩ = some (.int .i64 q3) ∧ w'.cell? ⟨qb, qo + 2, none⟩ = some (.int .i64 qd) ∧ RowI w' xa xs ∧ v3.Ext w' ∧ w'.cell? ⟨v9.heap.size, 0, none⟩ = some (.slice la L.length lc) ∧ RowS w' la L ∧ True) := fun w' hx' => ⟨(HALL.out w' ((HX.out.trans hxb).trans hx')).1, (HALL.out w' ((HX.out.trans hxb).trans hx')).2.1, (HALL.out w' ((HX.out.trans hxb).trans hx')).2.2.1, (HALL.out w' ((HX.out.trans hxb).trans hx')).2.2.2.1, (HALL.out w' ((HX.out.trans hxb).trans hx')).2.2.2.2.1, (HALL.out w' ((HX.out.trans hxb).trans hx')).2.2.2.2.2.1, (HALL.out w' ((HX.out.trans hxb).trans hx')).2.2.2.2.2.2.1, hx'.cell c25_, RowOf.ext HRL.out (hxb.trans hx'), trivial⟩
            have HWB_ := Lib.hid (HWB.out.trans (HX.out.trans hxb))
            have HX_ : Hid (b9.Ext b9) := .refl _
            clear hxb c25_ HWB HX HALL
            have HALL := HALL_
            have HWB := HWB_
            have HX := HX_
            clear HALL_ HWB_ HX_
            clear HRL
            go_upto_region 31 with fail
            rw [← hb9]
            clear hb9
            generalize v9.heap.size = q25 at *
            go_wp2_with fail
            refine (HAT.out b9 (HWB.out.trans HX.out)).mono ?_
            rintro e v10 ⟨r, rfl, hx, hr0, hr1⟩
            have HX_ := Lib.hid (HX.out.trans hx)
            clear HX
            have HX := HX_
            clear HX_
            clear hx
            have hr8 : r ≤ 8 := by omega
            clear hr1
            have c5 := (HALL.out v10 HX.out).1
            have lc5 := World.block_lt_of_cell? _ _ c5
            go_wp2_with fail
            refine (HE.out.c6 r hr0 hr8 v10 (HALL.out v10 HX.out).2.1).mono ?_
            rintro e v11 ⟨ka, kc, rfl, hx, ho⟩
            clear lc5 c5
            have HX_ := Lib.hid (HX.out.trans hx)
            clear HX
            have HX := HX_
            clear HX_
            have HRK := Lib.hid ho.row
            clear ho
            clear hx
            rw [HE.out.lenK]
            obtain ⟨b11, hb11⟩ : ∃ b11, b11 = v11.alloc (.cells #[.slice ka H kc] 26) := ⟨_, rfl⟩
            have hxb : v11.Ext b11 := by rw [hb11]; repeat (first | exact World.Ext.refl _ | exact ⟨_, rfl⟩ | assumption | refine World.Ext.over ?_ _ | refine World.Ext.drewN ?_ _ | refine World.Ext.drew ?_ | refine World.Ext.alloc ?_ _ | refine World.Ext.setCell ?_ (by simp) _)
            have c28_ : b11.cell? ⟨v11.heap.size, 0, none⟩ = some (.slice ka H kc) := by rw [hb11]; simp [go_sem]
            have HALL_ : Hid (∀ w', b11.Ext w' → w'.cell? ⟨q5, 0, none⟩ = some (.slice pa H pc) ∧ RowS w' pa ss ∧ w'.cell? ⟨qb, qo, none⟩ = some (.int .i64 q1) ∧ w'.cell? ⟨qb, qo + 1, none⟩ = some (.int .i64 q3) ∧ w'.cell? ⟨qb, qo + 2, none⟩ = some (.int .i64 qd) ∧ RowI w' xa xs ∧ v3.Ext w' ∧ w'.cell? ⟨q25, 0, none⟩ = some (.slice la L.length lc) ∧ RowS w' la L ∧ w'.cell? ⟨v11.heap.size, 0, none⟩ = some (.slice ka H kc) ∧ RowS w' ka (K r) ∧ True) := fun w' hx' => ⟨(HALL.out w' ((HX.out.trans hxb).trans hx')).1, (HALL.out w' ((HX.out.trans hxb).trans hx')).2.1, (HALL.out w' ((HX.out.trans hxb).trans hx')).2.2.1, (HALL.out w' ((HX.out.trans hxb).trans hx')).2.2.2.1, (HALL.out w' ((HX.out.trans hxb).trans hx')).2.2.2.2.1, (HALL.out w' ((HX.out.trans hxb).trans hx')).2.2.2.2.2.1, (HALL.out w' ((HX.out.trans hxb).trans hx')).2.2.2.2.2.2.1, (HALL.out w' ((HX.out.trans hxb).trans hx')).2.2.2.2.2.2.2.1, (HALL.out w' ((HX.out.trans hxb).trans hx')).2.2.2.2.2.2.2.2.1, hx'.cell c28_, RowOf.ext HRK.out (hxb.trans hx'), trivial⟩
            have HWB_ := Lib.hid (HWB.out.trans (HX.out.trans hxb))
            have HX_ : Hid (b11.Ext b11) := .refl _
            clear hxb c28_ HWB HX HALL
            have HALL := HALL_
            have HWB := HWB_
            have HX := HX_
            clear HALL_ HWB_ HX_
            clear HRK
            go_upto_region 33 with fail
            rw [← hb11]
            clear hb11
            generalize v11.heap.size = q28 at *
            have c28 := (HALL.out b11 HX.out).2.2.2.2.2.2.2.2.2.1
            have lc28 := World.block_lt_of_cell? _ _ c28
            go_wp2_with fail
            refine (HE.out.k1 r b11 ka kc (HALL.out b11 HX.out).2.2.2.2.2.2.2.2.2.2.1).mono ?_
            rintro e v12 ⟨rfl, hx⟩
            clear lc28 c28
            have HX_ := Lib.hid (HX.out.trans hx)
            clear HX
            have HX := HX_
            clear HX_
            clear hx
            go_wp2
            go_loopw [32, 33] (fun s j wr => ∃ k2 : Nat, k2 ≤ k ∧ j = .int .i64 k2 ∧ s = .int .i64 (wantN xs r k2) ∧ Hid (b11.Ext wr)) (fun _ j _ => k - (intOf j).toNat)
            case atStart => exact ⟨0, Nat.zero_le _, rfl, rfl, HX⟩
            case round =>
              clear HX
              obtain ⟨k2, hk2, rfl, rfl, HX⟩ := hrel
              obtain ⟨wc, rfl⟩ : ∃ wc : World, wc = wr := ⟨_, rfl⟩
              have hk20 : (0 : Int) ≤ (k2 : Int) := by omega
              by_cases hlt2 : k2 < k
              · have hlt2' : (k2 : Int) < (k : Int) := by omega
                obtain ⟨xb, xo, rfl, hxk⟩ := (HALL.out wc HX.out).2.2.2.2.2.1 k2 (by rw [HE.out.len]; exact hlt2)
                have hs1 : wantN xs r (k2 + 1) = wantN xs r k2 + (if r ≤ xs.getD k2 0 then xs.getD k2 0 else 0) := rfl
                have hv := HE.out.pos k2 hlt2
                have hS := HWX.out r k2 hk2
                have HS1 := Lib.hid hs1
                clear hs1
                generalize wantN xs r k2 = S at *
                generalize xs.getD k2 0 = v at *
                by_cases hrv : r ≤ v
                · have HS2 : Hid (wantN xs r (k2 + 1) = S + v) := by show _ = _; rw [HS1.out, if_pos hrv]
                  clear HS1
                  go_wp2
                  go_roundw
                  case rel => exact ⟨k2 + 1, by omega, by go_num, by rw [HS2.out], HX⟩
                  case measure => simp [intOf]; omega
                · have HS2 : Hid (wantN xs r (k2 + 1) = S) := by show _ = _; rw [HS1.out, if_neg hrv]; omega
                  clear HS1
                  go_wp2
                  go_roundw
                  case rel => exact ⟨k2 + 1, by omega, by go_num, by rw [HS2.out], HX⟩
                  case measure => simp [intOf]; omega
              · have : k2 = k := by omega
                subst this
                have hlt2' : ¬ (k2 : Int) < (k2 : Int) := by omega
                clear HWX
                generalize wantN xs r k2 = wt at *
                by_cases hn0 : 0 < k2
                · have hn0' : (0 : Int) < (k2 : Int) := by omega
                  have hLL := HE.out.lenL hn0
                  have c28 := (HALL.out wc HX.out).2.2.2.2.2.2.2.2.2.1
                  have lc28 := World.block_lt_of_cell? _ _ c28
                  have c5 := (HALL.out wc HX.out).1
                  have lc5 := World.block_lt_of_cell? _ _ c5
                  go_wp2_with fail
                  refine (HE.out.k2 r wc ka kc (HALL.out wc HX.out).2.2.2.2.2.2.2.2.2.2.1 (HALL.out wc HX.out).2.1).mono ?_
                  rintro e v13 ⟨rfl, hx⟩
                  clear lc28 c28 lc5 c5
                  have HX_ := Lib.hid (HX.out.trans hx)
                  clear HX
                  have HX := HX_
                  clear HX_
                  clear hx
                  have HL1 := Lib.hid (HE.out.l1 hn0)
                  have HL2 := Lib.hid (HE.out.l2 hn0)
                  rw [HMK.out] at HL1
                  have c25 := (HALL.out v13 HX.out).2.2.2.2.2.2.2.1
                  have lc25 := World.block_lt_of_cell? _ _ c25
                  rw [hLL] at c25
                  go_wp2_with fail
                  refine (HL1.out v13 la lc (HALL.out v13 HX.out).2.2.2.2.2.2.2.2.1).mono ?_
                  rintro e v14 ⟨rfl, hx⟩
                  have HX_ := Lib.hid (HX.out.trans hx)
                  clear HX
                  have HX := HX_
                  clear HX_
                  clear hx
                  clear c25 lc25
                  have c25 := (HALL.out v14 HX.out).2.2.2.2.2.2.2.1
                  have lc25 := World.block_lt_of_cell? _ _ c25
                  rw [hLL] at c25
                  have c5 := (HALL.out v14 HX.out).1
                  have lc5 := World.block_lt_of_cell? _ _ c5
                  go_wp2_with fail
                  refine (HL2.out v14 la lc (HALL.out v14 HX.out).2.2.2.2.2.2.2.2.1 (HALL.out v14 HX.out).2.1).mono ?_
                  rintro e v15 ⟨rfl, hx⟩
                  clear lc5 c5
                  have HX_ := Lib.hid (HX.out.trans hx)
                  clear HX
                  have HX := HX_
                  clear HX_
                  clear hx
                  clear c25 lc25
                  have HXZ := Lib.hid ((HALL.out v15 HX.out).2.2.2.2.2.2.1)
                  go_wp2
                  go_roundw
                  case rel => exact ⟨i + 1, by omega, by go_num, HXZ⟩
                  case measure => simp [intOf]; omega
                · have hn0' : ¬ (0 : Int) < (k2 : Int) := by omega
                  have c28 := (HALL.out wc HX.out).2.2.2.2.2.2.2.2.2.1
                  have lc28 := World.block_lt_of_cell? _ _ c28
                  have c5 := (HALL.out wc HX.out).1
                  have lc5 := World.block_lt_of_cell? _ _ c5
                  go_wp2_with fail
                  refine (HE.out.k2 r wc ka kc (HALL.out wc HX.out).2.2.2.2.2.2.2.2.2.2.1 (HALL.out wc HX.out).2.1).mono ?_
                  rintro e v13 ⟨rfl, hx⟩
                  clear lc28 c28 lc5 c5
                  have HX_ := Lib.hid (HX.out.trans hx)
                  clear HX
                  have HX := HX_
                  clear HX_
                  clear hx
                  have HXZ := Lib.hid ((HALL.out v13 HX.out).2.2.2.2.2.2.1)
                  go_wp2
                  go_roundw
                  case rel => exact ⟨i + 1, by omega, by go_num, HXZ⟩
                  case measure => simp [intOf]; omega
      · as_aux_lemma =>
        have d0 := (HALL.out v8 HX.out).2.2.1
        have ld0 := World.block_lt_of_cell? _ _ d0
        have d1 := (HALL.out v8 HX.out).2.2.2.1
        have ld1 := World.block_lt_of_cell? _ _ d1
        have d2 := (HALL.out v8 HX.out).2.2.2.2.1
        have ld2 := World.block_lt_of_cell? _ _ d2
        have hf : ((4 * ((n : Int) - hol)) != (q1 - q3 + -(2 * qd))) = false := by rw [bne_eq_false_iff_eq, hform, if_pos rfl]; omega
        clear hform
        have hln : ((n : Int) != (n : Int)) = false := by simp
        go_wp2_with fail
        refine wp_region_over_lit (by kernel_rfl) (by kernel_rfl) ?_; (repeat (go_big_quiet_step (fail))); refine wpQuiet_nil ?_; rintro _ ⟨x1, rfl⟩
        have HXQ : Hid (v7.Ext (v8.over x1)) := HX.out.trans ⟨x1, rfl⟩
        clear HX
        have HX := HXQ
        clear HXQ hf
        clear ld0 d0 ld1 d1 ld2 d2
        generalize hwq : v8.over x1 = wq at *
        clear hwq
        go_wp2
        go_loopw [22, 23, 24] (fun s m j wr => ∃ k : Nat, k ≤ n ∧ j = .int .i64 k ∧ s = .int .i64 (sumX xs k) ∧ m = .int .i64 (mxR xs k) ∧ Hid (v7.Ext wr)) (fun _ _ j _ => n - (intOf j).toNat)
        case atStart => exact ⟨0, Nat.zero_le _, rfl, rfl, rfl, HX⟩
        case round =>
          clear HX
          obtain ⟨k, hk, rfl, rfl, rfl, HX⟩ := hrel
          obtain ⟨wb, rfl⟩ : ∃ wb : World, wb = wr := ⟨_, rfl⟩
          have hk0 : (0 : Int) ≤ (k : Int) := by omega
          by_cases hltk : k < n
          · have hltk' : (k : Int) < (n : Int) := by omega
            obtain ⟨xb, xo, rfl, hxk⟩ := (HALL.out wb HX.out).2.2.2.2.2.1 k (by rw [HE.out.len]; exact hltk)
            have hs1 : sumX xs (k + 1) = sumX xs k + xs.getD k 0 := rfl
            have hm1 : mxR xs (k + 1) = if mxR xs k < xs.getD k 0 then xs.getD k 0 else mxR xs k := rfl
            have hv := HE.out.pos k hltk
            have hS := HSX.out k hk
            have hM := HMX.out k hk
            have HS1 := Lib.hid hs1
            have HM1 := Lib.hid hm1
            clear hs1 hm1
            generalize sumX xs k = S at *
            generalize mxR xs k = Mx at *
            generalize xs.getD k 0 = v at *
            have t1 : decide (v < 1) = false := decide_eq_false (by omega)
            go_wp2
            go_roundw
            case rel => exact ⟨k + 1, by omega, by go_num, by rw [HS1.out], by rw [HM1.out], HX⟩
            case measure => simp [intOf]; omega
          · have : k = n := by omega
            subst this
            have hltk' : ¬ (k : Int) < (k : Int) := by omega
            rw [show sumX xs k = cb from HE.out.sum]
            clear HSX
            have hM := HMX.out k hk
            generalize hmx : mxR xs k = mx at *
            have HMK := Lib.hid hmx
            clear hmx HMX
            have c5 := (HALL.out wb HX.out).1
            have lc5 := World.block_lt_of_cell? _ _ c5
            go_wp2_with fail
            refine (HE.out.c5 wb (HALL.out wb HX.out).2.1).mono ?_
            rintro e v9 ⟨la, lc, rfl, hx, ho⟩
            clear lc5 c5
            have HX_ := Lib.hid (HX.out.trans hx)
            clear HX
            have HX := HX_
            clear HX_
            have HRL := Lib.hid ho.row
            clear ho
            clear hx
            obtain ⟨b9, hb9⟩ : ∃ b9, b9 = v9.alloc (.cells #[.slice la L.length lc] 26) := ⟨_, rfl⟩
            have hxb : v9.Ext b9 := by rw [hb9]; repeat (first | exact World.Ext.refl _ | exact ⟨_, rfl⟩ | assumption | refine World.Ext.over ?_ _ | refine World.Ext.drewN ?_ _ | refine World.Ext.drew ?_ | refine World.Ext.alloc ?_ _ | refine World.Ext.setCell ?_ (by simp) _)
            have c25_ : b9.cell? ⟨v9.heap.size, 0, none⟩ = some (.slice la L.length lc) := by rw [hb9]; simp [go_sem]
            have HALL_ : Hid (∀ w', b9.Ext w' → w'.cell? ⟨q5, 0, none⟩ = some (.slice pa H pc) ∧ RowS w' pa ss ∧ w'.cell? ⟨qb, qo, none⟩ = some (.int .i64 q1) ∧ w'.cell? ⟨qb, qo + 1, none⟩ = some (.int .i64 q3) ∧ w'.cell? ⟨qb, qo + 2, none⟩ = some (.int .i64 qd) ∧ RowI w' xa xs ∧ v3.Ext w' ∧ w'.cell? ⟨v9.heap.size, 0, none⟩ = some (.slice la L.length lc) ∧ RowS w' la L ∧ True) := fun w' hx' => ⟨(HALL.out w' ((HX.out.trans hxb).trans hx')).1, (HALL.out w' ((HX.out.trans hxb).trans hx')).2.1, (HALL.out w' ((HX.out.trans hxb).trans hx')).2.2.1, (HALL.out w' ((HX.out.trans hxb).trans hx')).2.2.2.1, (HALL.out w' ((HX.out.trans hxb).trans hx')).2.2.2.2.1, (HALL.out w' ((HX.out.trans hxb).trans hx')).2.2.2.2.2.1, (HALL.out w' ((HX.out.trans hxb).trans hx')).2.2.2.2.2.2.1, hx'.cell c25_, RowOf.ext HRL.out (hxb.trans hx'), trivial⟩
            have HWB_ := Lib.hid (HWB.out.trans (HX.out.trans hxb))
            have HX_ : Hid (b9.Ext b9) := .refl _
            clear hxb c25_ HWB HX HALL
            have HALL := HALL_
            have HWB := HWB_
            have HX := HX_
            clear HALL_ HWB_ HX_
            clear HRL
            go_upto_region 31 with fail
            rw [← hb9]
            clear hb9
            generalize v9.heap.size = q25 at *
            go_wp2_with fail
            refine (HAT.out b9 (HWB.out.trans HX.out)).mono ?_
            rintro e v10 ⟨r, rfl, hx, hr0, hr1⟩
            have HX_ := Lib.hid (HX.out.trans hx)
            clear HX
            have HX := HX_
            clear HX_
            clear hx
            have hr8 : r ≤ 8 := by omega
            clear hr1
            have c5 := (HALL.out v10 HX.out).1
            have lc5 := World.block_lt_of_cell? _ _ c5
            go_wp2_with fail
            refine (HE.out.c6 r hr0 hr8 v10 (HALL.out v10 HX.out).2.1).mono ?_
            rintro e v11 ⟨ka, kc, rfl, hx, ho⟩
            clear lc5 c5
            have HX_ := Lib.hid (HX.out.trans hx)
            clear HX
            have HX := HX_
            clear HX_
            have HRK := Lib.hid ho.row
            clear ho
            clear hx
            rw [HE.out.lenK]
            obtain ⟨b11, hb11⟩ : ∃ b11, b11 = v11.alloc (.cells #[.slice ka H kc] 26) := ⟨_, rfl⟩
            have hxb : v11.Ext b11 := by rw [hb11]; repeat (first | exact World.Ext.refl _ | exact ⟨_, rfl⟩ | assumption | refine World.Ext.over ?_ _ | refine World.Ext.drewN ?_ _ | refine World.Ext.drew ?_ | refine World.Ext.alloc ?_ _ | refine World.Ext.setCell ?_ (by simp) _)
            have c28_ : b11.cell? ⟨v11.heap.size, 0, none⟩ = some (.slice ka H kc) := by rw [hb11]; simp [go_sem]
            have HALL_ : Hid (∀ w', b11.Ext w' → w'.cell? ⟨q5, 0, none⟩ = some (.slice pa H pc) ∧ RowS w' pa ss ∧ w'.cell? ⟨qb, qo, none⟩ = some (.int .i64 q1) ∧ w'.cell? ⟨qb, qo + 1, none⟩ = some (.int .i64 q3) ∧ w'.cell? ⟨qb, qo + 2, none⟩ = some (.int .i64 qd) ∧ RowI w' xa xs ∧ v3.Ext w' ∧ w'.cell? ⟨q25, 0, none⟩ = some (.slice la L.length lc) ∧ RowS w' la L ∧ w'.cell? ⟨v11.heap.size, 0, none⟩ = some (.slice ka H kc) ∧ RowS w' ka (K r) ∧ True) := fun w' hx' => ⟨(HALL.out w' ((HX.out.trans hxb).trans hx')).1, (HALL.out w' ((HX.out.trans hxb).trans hx')).2.1, (HALL.out w' ((HX.out.trans hxb).trans hx')).2.2.1, (HALL.out w' ((HX.out.trans hxb).trans hx')).2.2.2.1, (HALL.out w' ((HX.out.trans hxb).trans hx')).2.2.2.2.1, (HALL.out w' ((HX.out.trans hxb).trans hx')).2.2.2.2.2.1, (HALL.out w' ((HX.out.trans hxb).trans hx')).2.2.2.2.2.2.1, (HALL.out w' ((HX.out.trans hxb).trans hx')).2.2.2.2.2.2.2.1, (HALL.out w' ((HX.out.trans hxb).trans hx')).2.2.2.2.2.2.2.2.1, hx'.cell c28_, RowOf.ext HRK.out (hxb.trans hx'), trivial⟩
            have HWB_ := Lib.hid (HWB.out.trans (HX.out.trans hxb))
            have HX_ : Hid (b11.Ext b11) := .refl _
            clear hxb c28_ HWB HX HALL
            have HALL := HALL_
            have HWB := HWB_
            have HX := HX_
            clear HALL_ HWB_ HX_
            clear HRK
            go_upto_region 33 with fail
            rw [← hb11]
            clear hb11
            generalize v11.heap.size = q28 at *
            have c28 := (HALL.out b11 HX.out).2.2.2.2.2.2.2.2.2.1
            have lc28 := World.block_lt_of_cell? _ _ c28
            go_wp2_with fail
            refine (HE.out.k1 r b11 ka kc (HALL.out b11 HX.out).2.2.2.2.2.2.2.2.2.2.1).mono ?_
            rintro e v12 ⟨rfl, hx⟩
            clear lc28 c28
            have HX_ := Lib.hid (HX.out.trans hx)
            clear HX
            have HX := HX_
            clear HX_
            clear hx
            go_wp2
            go_loopw [32, 33] (fun s j wr => ∃ k2 : Nat, k2 ≤ k ∧ j = .int .i64 k2 ∧ s = .int .i64 (wantN xs r k2) ∧ Hid (b11.Ext wr)) (fun _ j _ => k - (intOf j).toNat)
            case atStart => exact ⟨0, Nat.zero_le _, rfl, rfl, HX⟩
            case round =>
              clear HX
              obtain ⟨k2, hk2, rfl, rfl, HX⟩ := hrel
              obtain ⟨wc, rfl⟩ : ∃ wc : World, wc = wr := ⟨_, rfl⟩
              have hk20 : (0 : Int) ≤ (k2 : Int) := by omega
              by_cases hlt2 : k2 < k
              · have hlt2' : (k2 : Int) < (k : Int) := by omega
                obtain ⟨xb, xo, rfl, hxk⟩ := (HALL.out wc HX.out).2.2.2.2.2.1 k2 (by rw [HE.out.len]; exact hlt2)
                have hs1 : wantN xs r (k2 + 1) = wantN xs r k2 + (if r ≤ xs.getD k2 0 then xs.getD k2 0 else 0) := rfl
                have hv := HE.out.pos k2 hlt2
                have hS := HWX.out r k2 hk2
                have HS1 := Lib.hid hs1
                clear hs1
                generalize wantN xs r k2 = S at *
                generalize xs.getD k2 0 = v at *
                by_cases hrv : r ≤ v
                · have HS2 : Hid (wantN xs r (k2 + 1) = S + v) := by show _ = _; rw [HS1.out, if_pos hrv]
                  clear HS1
                  go_wp2
                  go_roundw
                  case rel => exact ⟨k2 + 1, by omega, by go_num, by rw [HS2.out], HX⟩
                  case measure => simp [intOf]; omega
                · have HS2 : Hid (wantN xs r (k2 + 1) = S) := by show _ = _; rw [HS1.out, if_neg hrv]; omega
                  clear HS1
                  go_wp2
                  go_roundw
                  case rel => exact ⟨k2 + 1, by omega, by go_num, by rw [HS2.out], HX⟩
                  case measure => simp [intOf]; omega
              · have : k2 = k := by omega
                subst this
                have hlt2' : ¬ (k2 : Int) < (k2 : Int) := by omega
                clear HWX
                generalize wantN xs r k2 = wt at *
                by_cases hn0 : 0 < k2
                · have hn0' : (0 : Int) < (k2 : Int) := by omega
                  have hLL := HE.out.lenL hn0
                  have c28 := (HALL.out wc HX.out).2.2.2.2.2.2.2.2.2.1
                  have lc28 := World.block_lt_of_cell? _ _ c28
                  have c5 := (HALL.out wc HX.out).1
                  have lc5 := World.block_lt_of_cell? _ _ c5
                  go_wp2_with fail
                  refine (HE.out.k2 r wc ka kc (HALL.out wc HX.out).2.2.2.2.2.2.2.2.2.2.1 (HALL.out wc HX.out).2.1).mono ?_
                  rintro e v13 ⟨rfl, hx⟩
                  clear lc28 c28 lc5 c5
                  have HX_ := Lib.hid (HX.out.trans hx)
                  clear HX
                  have HX := HX_
                  clear HX_
                  clear hx
                  have HL1 := Lib.hid (HE.out.l1 hn0)
                  have HL2 := Lib.hid (HE.out.l2 hn0)
                  rw [HMK.out] at HL1
                  have c25 := (HALL.out v13 HX.out).2.2.2.2.2.2.2.1
                  have lc25 := World.block_lt_of_cell? _ _ c25
                  rw [hLL] at c25
                  go_wp2_with fail
                  refine (HL1.out v13 la lc (HALL.out v13 HX.out).2.2.2.2.2.2.2.2.1).mono ?_
                  rintro e v14 ⟨rfl, hx⟩
                  have HX_ := Lib.hid (HX.out.trans hx)
                  clear HX
                  have HX := HX_
                  clear HX_
                  clear hx
                  clear c25 lc25
                  have c25 := (HALL.out v14 HX.out).2.2.2.2.2.2.2.1
                  have lc25 := World.block_lt_of_cell? _ _ c25
                  rw [hLL] at c25
                  have c5 := (HALL.out v14 HX.out).1
                  have lc5 := World.block_lt_of_cell? _ _ c5
                  go_wp2_with fail
                  refine (HL2.out v14 la lc (HALL.out v14 HX.out).2.2.2.2.2.2.2.2.1 (HALL.out v14 HX.out).2.1).mono ?_
                  rintro e v15 ⟨rfl, hx⟩
                  clear lc5 c5
                  have HX_ := Lib.hid (HX.out.trans hx)
                  clear HX
                  have HX := HX_
                  clear HX_
                  clear hx
                  clear c25 lc25
                  have HXZ := Lib.hid ((HALL.out v15 HX.out).2.2.2.2.2.2.1)
                  go_wp2
                  go_roundw
                  case rel => exact ⟨i + 1, by omega, by go_num, HXZ⟩
                  case measure => simp [intOf]; omega
                · have hn0' : ¬ (0 : Int) < (k2 : Int) := by omega
                  have c28 := (HALL.out wc HX.out).2.2.2.2.2.2.2.2.2.1
                  have lc28 := World.block_lt_of_cell? _ _ c28
                  have c5 := (HALL.out wc HX.out).1
                  have lc5 := World.block_lt_of_cell? _ _ c5
                  go_wp2_with fail
                  refine (HE.out.k2 r wc ka kc (HALL.out wc HX.out).2.2.2.2.2.2.2.2.2.2.1 (HALL.out wc HX.out).2.1).mono ?_
                  rintro e v13 ⟨rfl, hx⟩
                  clear lc28 c28 lc5 c5
                  have HX_ := Lib.hid (HX.out.trans hx)
                  clear HX
                  have HX := HX_
                  clear HX_
                  clear hx
                  have HXZ := Lib.hid ((HALL.out v13 HX.out).2.2.2.2.2.2.1)
                  go_wp2
                  go_roundw
                  case rel => exact ⟨i + 1, by omega, by go_num, HXZ⟩
                  case measure => simp [intOf]; omega
    · have hlt' : ¬ (i : Int) < 2 := by omega
      have HXE := Lib.hid (HWB.out.trans HX.out)
      go_wp2
      go_ret
      exact ⟨rfl, HXE.out⟩
end Go.Proofs.Ythgkmaccbcpaeaa
