/- PictureOfBorders, the reference's. -/
import Derived.Test.YthgkmaccbcpaeaaPobX
namespace Go.Proofs.Ythgkmaccbcpaeaa
open Go Go.RowKit
theorem newTwo {w w' : World} {u v : Value} {T : TypeId} (h : (w.alloc (.cells #[u, v] T)).Ext w') : Two w' w.heap.size T u v := (Two.new w u v T _ rfl).ext h
theorem newTwoD {w w' : World} {u v : Value} {T : TypeId} (h : (w.alloc (.cells #[u, v] T)).drew.Ext w') : Two w' w.heap.size T u v := newTwo (((World.Ext.refl _).drew).trans h)
set_option maxRecDepth 20000 in
set_option maxHeartbeats 16000000 in
theorem specPob_any (a : Option Addr) (c n W H : Nat) (bs : List Bord) (w : World) (hW1 : 1 ≤ W) (hW : W ≤ 16) (hH1 : 1 ≤ H) (hH : H ≤ 16) (hlen : bs.length = n) (hn : n ≤ 150) (hm : RowBd w a bs) :
    Calls Try.prog 50 #[.int .i64 W, .int .i64 H, .slice a n c] w (PobRet2 w W H bs) := by
  obtain ⟨ib, hib, hb0, hb1, hb2⟩ := info_parts Try.infoBoolA
  have hmH : W * H ≤ 256 := Nat.mul_le_mul hW hH
  have C1 : Hid (ib.bytes * (W * H) ≤ 281474976710656) := by show _ ≤ _; rw [hb2]; omega
  have C2 : Hid (W * H ≤ maxLen) := by show _ ≤ _; unfold maxLen; omega
  have hmi : (W : Int) * (H : Int) = ((W * H : Nat) : Int) := by rw [Int.natCast_mul]
  have hmb : (W : Int) * (H : Int) ≤ 256 := by rw [hmi]; omega
  have hmb0 : 0 ≤ (W : Int) * (H : Int) := by rw [hmi]; omega
  have HMI := Lib.hid hmi
  have HMH := Lib.hid hmH
  obtain ⟨L, hL⟩ : ∃ L : Nat → Nat → List Edg, L = stepsG bs := ⟨_, rfl⟩
  have hL0 : L 0 0 = [] := by rw [hL]; rfl
  have HLN : Hid (∀ j, j < n → L j (bs.getD j bd0).2.2.size = L (j + 1) 0) := fun j hj => by rw [hL]; exact stepsG_next (by omega)
  have HLS : Hid (∀ j i, L j (i + 1) = L j i ++ [gE (bs.getD j bd0).1 (bs.getD j bd0).2.1 (bs.getD j bd0).2.2 i]) := fun j i => by rw [hL]; exact stepsG_succ bs j i
  have HLA : Hid (L n 0 = allG bs) := by show _ = _; rw [hL, ← hlen]; exact stepsG_all bs
  have HL0 := Lib.hid hL0
  have HLEN := Lib.hid hlen
  obtain ⟨W0, hW0⟩ : ∃ W0, W0 = w.alloc (.cells #[.slice none 0 0] 26) := ⟨_, rfl⟩
  have hx0 : w.Ext W0 := by rw [hW0]; repeat (first | exact World.Ext.refl _ | exact ⟨_, rfl⟩ | assumption | refine World.Ext.over ?_ _ | refine World.Ext.drewN ?_ _ | refine World.Ext.drew ?_ | refine World.Ext.alloc ?_ _ | refine World.Ext.setCell ?_ (by simp) _)
  have hone : One W0 w.heap.size 26 (.slice none 0 0) := by rw [hW0]; exact One.new _ _ _ _ rfl
  have HS1 : Hid (∀ w', Calls Try.prog 130 #[.int .i64 W] w' fun e w'' => e = .returned (.bool true) ∧ w'.Ext w'') := fun w' => l01Side_any _ _ _ (inB_true.2 (by omega))
  have HS2 : Hid (∀ w', Calls Try.prog 130 #[.int .i64 H] w' fun e w'' => e = .returned (.bool true) ∧ w'.Ext w'') := fun w' => l01Side_any _ _ _ (inB_true.2 (by omega))
  have HM := Lib.hid (hm.ext hx0)
  have HX0 := Lib.hid hx0
  have HONE := Lib.hid hone
  have HNOB : Hid (∀ j, j < n → ¬ IsBdB (bs.getD j bd0) → ¬ PobOk2 W H bs) := fun j hj h h2 => h (h2.1 j (by omega))
  have hn' : ¬ (150 : Int) < (n : Int) := by omega
  clear hm hx0 hone hL0 hL hlen hmi hmH
  go_enter Try.func50, Try.ntmps50
  go_upto_region 1 with fail
  rw [← hW0]
  clear hW0
  go_wp2_with fail
  refine (HS1.out _).mono ?_
  rintro e1 w1 ⟨rfl, hx1⟩
  go_wp2_with fail
  refine (HS2.out _).mono ?_
  rintro e2 w2 ⟨rfl, hx2⟩
  have HX2 := Lib.hid (hx1.trans hx2)
  clear hx1 hx2 HS1 HS2
  go_wp2_with (at_make; refine wpList_make_full _ rfl _ _ 103 rfl 0 4 ib (.bool false) 1 Try.underlying103 hib hb0 hb1 .i64 .i64 _ _ (W * H) rfl rfl HMI.out HMI.out C1.out C2.out (Nat.zero_le _) (fun w3 hown hgrow => ?_); go_loud (have HB3 : Hid (BlkOf Value.bool w3 w2.heap.size 4 (List.replicate (W * H) false)) := blk_of_made (f := Value.bool) false rfl hown; have HX3 : Hid (w2.Ext w3) := World.Ext.made hgrow; clear hown hgrow))
  have HXX := Lib.hid (HX2.out.trans HX3.out)
  have HST : Hid (FlSt w3 w2.heap.size W H (L 0 0) w3) := ⟨.refl _ _, by
    rw [HL0.out]
    have e : picP [] W H = List.replicate (W * H) false := by
      rw [Nat.mul_comm W H]
      exact mkl_false W H
    rw [e]
    exact HB3.out⟩
  have HRW : Hid (∀ wr, Wrote (fun k => k = w2.heap.size) w3 wr → RowBd wr a bs ∧ W0.Ext wr) := fun wr hx => by
    have hx1 : W0.Ext wr := ((HXX.out.wrote (fun k => k = w2.heap.size)).trans hx).ext fun k hk he => by have := HX2.out.size; omega
    exact ⟨HM.out.ext hx1, hx1⟩
  have hg3 : w2.heap.size < w3.heap.size := HB3.out.lt
  clear HB3 HL0 HX2 HX3
  generalize w2.heap.size = g at *
  go_loopw [9, 10, 11, 12, 13, 14, 15] (fun z _ _ _ _ _ _ wr => ∃ j : Nat, j ≤ n ∧ z = .int .i64 j ∧ Hid (∀ r, r < j → IsBdB (bs.getD r bd0)) ∧ Hid (FlSt w3 g W H (L j 0) wr)) (fun z _ _ _ _ _ _ _ => n - (intOf z).toNat)
  case atStart => exact ⟨0, Nat.zero_le _, rfl, fun r hr => by omega, HST⟩
  case round =>
    clear HST
    obtain ⟨j, hj, rfl, HP, HS⟩ := hrel
    obtain ⟨wo, rfl⟩ : ∃ wo : World, wo = wr := ⟨_, rfl⟩
    have hj0 : (0 : Int) ≤ (j : Int) := by omega
    by_cases hjn : j < n
    · as_aux_lemma =>
      have hjn' : (j : Int) < (n : Int) := by omega
      obtain ⟨hrw, hxw⟩ := HRW.out wo HS.out.1
      obtain ⟨b1, o1, rfl, d0, d1, d2⟩ := hrw j (by rw [HLEN.out]; exact hjn)
      have HNOj := Lib.hid (HNOB.out j hjn)
      have HLNj := Lib.hid (HLN.out j hjn)
      have HLSj := Lib.hid (HLS.out j)
      have HPj : Hid (IsBdB (bs.getD j bd0) → ∀ r, r < j + 1 → IsBdB (bs.getD r bd0)) := fun h r hr => by
        by_cases e : r = j
        · rw [e]; exact h
        · exact HP.out r (by omega)
      have HCE : Hid (∀ wr, Wrote (fun k => k = g) w3 wr → wr.cell? ⟨b1, o1 + j * 3, none⟩ = some (.int .i64 (bs.getD j bd0).1) ∧ wr.cell? ⟨b1, o1 + j * 3 + 1, none⟩ = some (.int .i64 (bs.getD j bd0).2.1) ∧ wr.cell? ⟨b1, o1 + j * 3 + 2, none⟩ = some (.string (bs.getD j bd0).2.2)) := fun wr hx => by
        obtain ⟨b2, o2, e, h0, h1, h2⟩ := (HRW.out wr hx).1 j (by rw [HLEN.out]; exact hjn)
        cases e
        exact ⟨h0, h1, h2⟩
      generalize bs.getD j bd0 = d at *
      obtain ⟨x0, y0, word⟩ := d
      dsimp only at d0 d1 d2
      have HXo := Lib.hid hxw
      have HIS := Lib.hid (l04IsG_any b1 (o1 + j * 3) x0 y0 word wo d0 d1 d2)
      have HD : Hid (∀ wr, wo.Ext wr → wr.cell? ⟨b1, o1 + j * 3, none⟩ = some (.int .i64 x0) ∧ wr.cell? ⟨b1, o1 + j * 3 + 1, none⟩ = some (.int .i64 y0) ∧ wr.cell? ⟨b1, o1 + j * 3 + 2, none⟩ = some (.string word)) := fun wr hx => ⟨hx.cell d0, hx.cell d1, hx.cell d2⟩
      have lb := World.block_lt_of_cell? _ _ d0
      clear hrw hxw HP
      go_wp2_with fail
      refine HIS.out.mono ?_
      rintro e3 w5 ⟨t5, rfl, ht5, hx5⟩
      clear d0 d1 d2 lb HIS
      cases t5
      · obtain ⟨r1, r2, r3, HR⟩ := One.noPic (HX0.out.trans (HXo.out.trans hx5)) (Nat.le_refl _) (HONE.out.ext (HXo.out.trans hx5))
        have HNO := Lib.hid (HNOj.out fun h => by have := ht5.2 h; cases this)
        clear hx5 ht5 HPj HLSj HLNj HS HD
        go_wp2
        exact bodyPost_ret (v := .tuple #[.agg #[.slice none 0 0], .bool false]) (by simp [results, Try.results50, go_sem, r3]) rfl (PobRet2.no (PicRet2.no HR.out) HNO.out)
      have HBD := Lib.hid (ht5.1 rfl)
      have HPJ := Lib.hid (HPj.out HBD.out)
      obtain ⟨d0, d1, d2⟩ := HD.out w5 hx5
      have lb := World.block_lt_of_cell? _ _ d0
      obtain ⟨W6, hW6⟩ : ∃ W6, W6 = w5.alloc (.cells #[.int .i64 x0, .int .i64 y0] 45) := ⟨_, rfl⟩
      have hx6 : w5.Ext W6 := by rw [hW6]; repeat (first | exact World.Ext.refl _ | exact ⟨_, rfl⟩ | assumption | refine World.Ext.over ?_ _ | refine World.Ext.drewN ?_ _ | refine World.Ext.drew ?_ | refine World.Ext.alloc ?_ _ | refine World.Ext.setCell ?_ (by simp) _)
      have HT6 : Hid (Two W6 w5.heap.size 45 (.int .i64 (gX x0 word 0)) (.int .i64 (gY y0 word 0))) := by rw [hW6]; exact Two.new w5 _ _ _ _ rfl
      have HS6 := Lib.hid (HS.out.ext (hx5.trans hx6))
      have HD6 : Hid (∀ wr, W6.Ext wr → wr.cell? ⟨b1, o1 + j * 3, none⟩ = some (.int .i64 x0) ∧ wr.cell? ⟨b1, o1 + j * 3 + 1, none⟩ = some (.int .i64 y0) ∧ wr.cell? ⟨b1, o1 + j * 3 + 2, none⟩ = some (.string word)) := fun wr hx => HD.out wr (hx5.trans (hx6.trans hx))
      have HQ : Hid (w3.heap.size ≤ w5.heap.size) := Nat.le_trans HS.out.1.size hx5.size
      have hgq : g < w5.heap.size := Nat.lt_of_lt_of_le hg3 HQ.out
      have HST : Hid (FlSt w3 g W H (L j 0) W6 ∧ Two W6 w5.heap.size 45 (.int .i64 (gX x0 word 0)) (.int .i64 (gY y0 word 0))) := ⟨HS6.out, HT6.out⟩
      have HLET : Hid (∀ i, i < word.size → ∃ hs : i < word.size, ∀ w', Calls Try.prog 132 #[.int .u8 (((word[i]'hs).toNat : Nat) : Int)] w' fun e w'' => e = .returned (.int .i64 (stN word i : Int)) ∧ w'.Ext w'') := fun i hi => ⟨hi, fun w' => by
        have q := l04Way_any (word[i]'hi).toNat w'
        rw [wayI_st, ← stN_at hi, if_pos (HBD.out.st i hi)] at q
        exact q⟩
      have HGX : Hid (∀ i, i < word.size → inC (gX x0 word i) (gY y0 word i) ∧ stN word i < 4 ∧ gX x0 word (i + 1) = gX x0 word i + dX (stN word i) ∧ gY y0 word (i + 1) = gY y0 word i + dY (stN word i)) := fun i hi => by
        have hc := (HBD.out.ok i hi).1
        refine ⟨hc, HBD.out.st i hi, ?_⟩
        unfold inC at hc
        have hdx : -1 ≤ dX (stN word i) ∧ dX (stN word i) ≤ 1 := by unfold dX; split <;> (try split) <;> omega
        have hdy : -1 ≤ dY (stN word i) ∧ dY (stN word i) ≤ 1 := by unfold dY; split <;> (try split) <;> omega
        exact ⟨wrap_small (by omega) (by omega), wrap_small (by omega) (by omega)⟩
      have hsz6 : word.size ≤ 600 := HBD.out.hi
      have HGY0 : Hid (∀ i, i < word.size → 0 ≤ gY y0 word (i + 1)) := fun i hi => by
        by_cases e : i + 1 < word.size
        · exact (HBD.out.ok (i + 1) e).1.2.2.1
        · rw [show i + 1 = word.size by omega, HBD.out.by_]
          exact (HBD.out.ok 0 (by omega)).1.2.2.1
      clear hx5 hx6 ht5 HS HD HPj HNOj HS6 HT6 HD6
      go_upto_region 10 with fail
      rw [← hW6]
      clear hW6 d0 d1 d2 lb HBD
      generalize w5.heap.size = q at *
      go_wp2
      go_loopw [11, 12, 13, 14, 15] (fun z _ _ _ _ wr => ∃ i : Nat, i ≤ word.size ∧ z = .int .i64 i ∧ Hid (FlSt w3 g W H (L j i) wr ∧ Two wr q 45 (.int .i64 (gX x0 word i)) (.int .i64 (gY y0 word i)))) (fun z _ _ _ _ _ => word.size - (intOf z).toNat)
      case atStart => exact ⟨0, Nat.zero_le _, rfl, HST⟩
      case round =>
        as_aux_lemma =>
        clear HST
        obtain ⟨i, hi, rfl, HS⟩ := hrel
        obtain ⟨wi, rfl⟩ : ∃ wi : World, wi = wr := ⟨_, rfl⟩
        have hi0 : (0 : Int) ≤ (i : Int) := by omega
        obtain ⟨d0, d1, d2⟩ := HCE.out wi HS.out.1.1
        have lb := World.block_lt_of_cell? _ _ d0
        by_cases hin : i < word.size
        · have hin' : (i : Int) < (word.size : Int) := by omega
          obtain ⟨hs1, hw1⟩ := HLET.out i hin
          have HW1 := Lib.hid hw1
          obtain ⟨hc, hk4, hgx, hgy⟩ := HGX.out i hin
          have HCX := Lib.hid (fun w' => l04X_any (stN word i) w' hk4)
          have HCY := Lib.hid (fun w' => l04Y_any (stN word i) w' hk4)
          have hdx : -1 ≤ dX (stN word i) ∧ dX (stN word i) ≤ 1 := by unfold dX; split <;> (try split) <;> omega
          have hdy : -1 ≤ dY (stN word i) ∧ dY (stN word i) ≤ 1 := by unfold dY; split <;> (try split) <;> omega
          have HX1 := Lib.hid hgx
          have HY1 := Lib.hid hgy
          have HC := Lib.hid hc
          unfold inC at hc
          obtain ⟨bx1, bx2, bx3, bx4⟩ := hc
          clear hw1 hgx hgy
          go_wp2_with fail
          refine (HW1.out wi).mono ?_
          rintro e4 w7 ⟨rfl, hx7⟩
          have HS7 : Hid (FlSt w3 g W H (L j i) w7 ∧ Two w7 q 45 (.int .i64 (gX x0 word i)) (.int .i64 (gY y0 word i))) := ⟨HS.out.1.ext hx7, HS.out.2.ext hx7⟩
          clear hx7 HS d0 d1 d2 lb HW1
          have c0 := HS7.out.2.cell0
          have c1 := HS7.out.2.cell1
          have lq := HS7.out.2.lt
          have HWX : Hid (IntKind.i64.wrap (gX x0 word i + dX (stN word i)) = gX x0 word i + dX (stN word i)) := IntWalk.i64_in _ (by omega)
          have HWY : Hid (IntKind.i64.wrap (gY y0 word i + dY (stN word i)) = gY y0 word i + dY (stN word i)) := IntWalk.i64_in _ (by omega)
          go_upto_region 14 with fail
          go_cut [13] (fun u13 wc => ∃ p9, u13 = .pointer (some ⟨p9, 0, none⟩) ∧ w7.Ext wc ∧ q < p9 ∧ Two wc p9 45 (.int .i64 (gX x0 word (i + 1))) (.int .i64 (gY y0 word (i + 1))))
          case first =>
            go_region_held3 (fun w' => w'.cell? ⟨q, 0, none⟩ = some (.int .i64 (gX x0 word i)) ∧ w'.cell? ⟨q, 1, none⟩ = some (.int .i64 (gY y0 word i)) ∧ w7.Ext w')
              (refine ⟨World.Ext.cell ?_ c0, World.Ext.cell ?_ c1, ?_⟩ <;> first | exact E8 | ((repeat (first | exact World.Ext.refl _ | exact ⟨_, rfl⟩ | assumption | refine World.Ext.over ?_ _ | refine World.Ext.drewN ?_ _ | refine World.Ext.drew ?_ | refine World.Ext.alloc ?_ _ | refine World.Ext.setCell ?_ ?_ _ | (simp; done))); done) | (refine World.Ext.trans E8 ?_; ((repeat (first | exact World.Ext.refl _ | exact ⟨_, rfl⟩ | assumption | refine World.Ext.over ?_ _ | refine World.Ext.drewN ?_ _ | refine World.Ext.drew ?_ | refine World.Ext.alloc ?_ _ | refine World.Ext.setCell ?_ ?_ _ | (simp; done))); done)) | (refine World.Ext.setCell (World.Ext.setCell ?_ ?_ _) ?_ _ <;> first | exact E8 | ((repeat (first | exact World.Ext.refl _ | exact ⟨_, rfl⟩ | assumption | refine World.Ext.over ?_ _ | refine World.Ext.drewN ?_ _ | refine World.Ext.drew ?_ | refine World.Ext.alloc ?_ _ | refine World.Ext.setCell ?_ ?_ _ | (simp; done))); done) | (refine World.Ext.trans E8 ?_; ((repeat (first | exact World.Ext.refl _ | exact ⟨_, rfl⟩ | assumption | refine World.Ext.over ?_ _ | refine World.Ext.drewN ?_ _ | refine World.Ext.drew ?_ | refine World.Ext.alloc ?_ _ | refine World.Ext.setCell ?_ ?_ _ | (simp; done))); done)) | (simp; done) | (simp; omega) | (dsimp only; omega) | (have := hA.lt; simp; omega)))
              (first
                | (go_at_call 133; go_loud (refine (HCX.out _).mono ?_; rintro e8 w8 ⟨rfl, hx8⟩; have E8 : w7.Ext w8 := World.Ext.trans (by first | (repeat (first | exact World.Ext.refl _ | exact ⟨_, rfl⟩ | assumption | refine World.Ext.over ?_ _ | refine World.Ext.drewN ?_ _ | refine World.Ext.drew ?_ | refine World.Ext.alloc ?_ _ | refine World.Ext.setCell ?_ ?_ _ | (simp; done))) | (exact World.Ext.trans E8 (by (repeat (first | exact World.Ext.refl _ | exact ⟨_, rfl⟩ | assumption | refine World.Ext.over ?_ _ | refine World.Ext.drewN ?_ _ | refine World.Ext.drew ?_ | refine World.Ext.alloc ?_ _ | refine World.Ext.setCell ?_ ?_ _ | (simp; done)))))) hx8; have z8 := E8.size; have k8 := And.intro (E8.cell c0) (E8.cell c1); (first | have hA := newTwoD hx8 | have hA := newTwo hx8 | have hA := hA.ext hx8 | skip); (try have fA0 := hA.free 0); (try have fA1 := hA.free 1); (try have cA0 := hA.cell0); (try have cA1 := hA.cell1); (try have lA := hA.lt)))
                | (go_at_call 134; go_loud (refine (HCY.out _).mono ?_; rintro e8 w8 ⟨rfl, hx8⟩; have E8 : w7.Ext w8 := World.Ext.trans (by first | (repeat (first | exact World.Ext.refl _ | exact ⟨_, rfl⟩ | assumption | refine World.Ext.over ?_ _ | refine World.Ext.drewN ?_ _ | refine World.Ext.drew ?_ | refine World.Ext.alloc ?_ _ | refine World.Ext.setCell ?_ ?_ _ | (simp; done))) | (exact World.Ext.trans E8 (by (repeat (first | exact World.Ext.refl _ | exact ⟨_, rfl⟩ | assumption | refine World.Ext.over ?_ _ | refine World.Ext.drewN ?_ _ | refine World.Ext.drew ?_ | refine World.Ext.alloc ?_ _ | refine World.Ext.setCell ?_ ?_ _ | (simp; done)))))) hx8; have z8 := E8.size; have k8 := And.intro (E8.cell c0) (E8.cell c1); (first | have hA := newTwoD hx8 | have hA := newTwo hx8 | have hA := hA.ext hx8 | skip); (try have fA0 := hA.free 0); (try have fA1 := hA.free 1); (try have cA0 := hA.cell0); (try have cA1 := hA.cell1); (try have lA := hA.lt))))
            all_goals (go_wp2_with fail; go_meet; simp only [HWX.out, HWY.out]; rw [HX1.out, HY1.out]; refine ⟨_, rfl, ?_, ?_, ?_⟩)
            all_goals first
              | omega
              | (refine World.Ext.trans E8 ?_; ((repeat (first | exact World.Ext.refl _ | exact ⟨_, rfl⟩ | assumption | refine World.Ext.over ?_ _ | refine World.Ext.drewN ?_ _ | refine World.Ext.drew ?_ | refine World.Ext.alloc ?_ _ | refine World.Ext.setCell ?_ ?_ _ | (simp; done))); done))
              | (refine World.Ext.setCell (World.Ext.setCell E8 ?_ _) ?_ _ <;> first | (simp; done) | (simp; omega) | (dsimp only; omega))
              | exact Two.new _ _ _ _ _ rfl
              | exact hA.set _ _
          case rest =>
          obtain ⟨p, rfl, hxc, hqp, ht9⟩ := hcut
          obtain ⟨W9, hW9⟩ : ∃ W9 : World, W9 = wc := ⟨_, rfl⟩
          rw [← hW9] at hxc ht9 ⊢
          have HT9 := Lib.hid ht9
          have HS9 : Hid (FlSt w3 g W H (L j i) W9 ∧ Two W9 q 45 (.int .i64 (gX x0 word i)) (.int .i64 (gY y0 word i))) := ⟨HS7.out.1.ext hxc, HS7.out.2.ext hxc⟩
          have HMN := Lib.hid (fun w' => l00MinY_any (gY y0 word i) (gY y0 word (i + 1)) w')
          clear hxc ht9 hW9 HS7 HCX HCY HWX HWY c0 c1 lq
          have c1 := HS9.out.2.cell1
          have lq := HS9.out.2.lt
          have e1 := HT9.out.cell1
          have lp := HT9.out.lt
          go_wp2_with fail
          refine (HMN.out W9).mono ?_
          rintro e5 wa ⟨rfl, hxa⟩
          have HSa : Hid (FlSt w3 g W H (L j i) wa ∧ Two wa q 45 (.int .i64 (gX x0 word i)) (.int .i64 (gY y0 word i))) := ⟨HS9.out.1.ext hxa, HS9.out.2.ext hxa⟩
          have HTa := Lib.hid (HT9.out.ext hxa)
          clear hxa HS9 HT9 c1 e1 lq lp HMN
          have c0 := HSa.out.2.cell0
          have lq := HSa.out.2.lt
          obtain ⟨X, hX⟩ : ∃ X : Nat, gX x0 word i = (X : Int) := ⟨(gX x0 word i).toNat, by omega⟩
          obtain ⟨yy, hyy⟩ : ∃ yy, mnY (gY y0 word i) (gY y0 word (i + 1)) = yy := ⟨_, rfl⟩
          have hy0 : 0 ≤ yy := by
            have := HGY0.out i hin
            rw [← hyy]
            unfold mnY
            split <;> omega
          obtain ⟨X2, hX2⟩ : ∃ X2, gX x0 word (i + 1) = X2 := ⟨_, rfl⟩
          obtain ⟨ee, hee⟩ : ∃ ee, gE x0 y0 word i = ee := ⟨_, rfl⟩
          have hex : ee.x = (X : Int) := by rw [← hee]; exact hX
          have hk : ee.k = stN word i := by rw [← hee]; rfl
          have hey : ee.y = gY y0 word i := by rw [← hee]; rfl
          have hfl : ∀ a b : Nat, flE ee (a : Int) (b : Int) = true → yy = (b : Int) ∧ (X : Int) = X2 := fun a b h => by
            unfold flE at h
            rw [Bool.and_eq_true, Bool.or_eq_true, decide_eq_true_eq, decide_eq_true_eq, decide_eq_true_eq, hk, hey] at h
            rw [← hyy, ← hX2, HX1.out, HY1.out, hX]
            unfold mnY
            rcases h.1 with ⟨h1, h2⟩ | ⟨h1, h2⟩
            · rw [h1]
              have e1 : dX 1 = 0 := rfl
              have e2 : dY 1 = 1 := rfl
              rw [e1, e2, if_pos (by omega)]
              omega
            · rw [h1]
              have e1 : dX 3 = 0 := rfl
              have e2 : dY 3 = -1 := rfl
              rw [e1, e2, if_neg (by omega)]
              omega
          have HFD : Hid (∀ (wr : World) (x : Nat), FlX w3 g W H (L j i) ee (x : Int) wr → ¬ (x < W ∧ yy < (H : Int) ∧ (X : Int) = X2) → X ≤ x → FlSt w3 g W H (L j (i + 1)) wr) := fun wr x h hn hx => by
            rw [HLSj.out i, hee]
            refine h.done fun a b ha hb hf => ?_
            have h2 := hfl a b hf
            by_cases hxW : x < W
            · exact absurd ⟨hxW, by omega, h2.2⟩ hn
            · omega
          have HFB : Hid (∀ x b y : Nat, X ≤ x → yy = (y : Int) → (X : Int) = X2 → flE ee (x : Int) (b : Int) = decide (b = y)) := fun x b y hx h1 h2 => by
            rw [← hyy, HY1.out] at h1
            rw [← hX2, HX1.out, hX] at h2
            unfold flE
            rw [hk, hey, hex, decide_eq_true (show (X : Int) ≤ (x : Int) by omega), Bool.and_true]
            unfold mnY at h1
            have h4 : stN word i = 0 ∨ stN word i = 1 ∨ stN word i = 2 ∨ stN word i = 3 := by omega
            rw [Bool.eq_iff_iff, Bool.or_eq_true, decide_eq_true_eq, decide_eq_true_eq, decide_eq_true_eq]
            rcases h4 with e | e | e | e <;> rw [e] at h1 h2 ⊢ <;> simp only [dX, dY] at h1 h2 <;> (try split at h1) <;> simp <;> simp at h1 h2 <;> omega
          have hST : FlX w3 g W H (L j i) ee ((X : Nat) : Int) wa := by rw [← hex]; exact FlX.start HSa.out.1
          rw [hX] at HSa c0
          rw [hX2] at HTa
          have HX2e := Lib.hid hX2
          have HXS : Hid (FlX w3 g W H (L j i) ee ((X : Nat) : Int) wa ∧ Two wa q 45 (.int .i64 (X : Int)) (.int .i64 (gY y0 word i)) ∧ Two wa p 45 (.int .i64 X2) (.int .i64 (gY y0 word (i + 1)))) := ⟨hST, HSa.out.2, HTa.out⟩
          clear hST HSa HTa hfl
          rw [hyy]
          go_wp2
          clear c0 lq
          go_loopw [15] (fun z wr => ∃ x : Nat, X ≤ x ∧ z = .int .i64 x ∧ Hid (FlX w3 g W H (L j i) ee (x : Int) wr ∧ Two wr q 45 (.int .i64 (X : Int)) (.int .i64 (gY y0 word i)) ∧ Two wr p 45 (.int .i64 X2) (.int .i64 (gY y0 word (i + 1))))) (fun z _ => W - (intOf z).toNat)
          case atStart => exact ⟨X, Nat.le_refl _, rfl, HXS⟩
          case round =>
            as_aux_lemma =>
            clear HXS
            obtain ⟨x, hxX, rfl, HSx⟩ := hrel
            have hx0' : (0 : Int) ≤ (x : Int) := by omega
            by_cases k1 : x < W
            rotate_left
            · have k1' : ¬ (x : Int) < (W : Int) := by omega
              have HS9 := Lib.hid (HFD.out wr x HSx.out.1 (by exact fun h => k1 h.1) hxX)
              have HQ1 := Lib.hid HSx.out.2.1
              have HP1 := Lib.hid HSx.out.2.2
              have e0 := HP1.out.cell0
              have e1 := HP1.out.cell1
              have f0 := HQ1.out.free 0
              have f1 := HQ1.out.free 1
              have q0 := HQ1.out.cell0
              have q1 := HQ1.out.cell1
              have lq := HQ1.out.lt
              have lp := HP1.out.lt
              have HSe : Hid (FlSt w3 g W H (L j (i + 1)) ((wr.setCell ⟨q, 0, none⟩ (.int .i64 X2)).setCell ⟨q, 1, none⟩ (.int .i64 (gY y0 word (i + 1)))) ∧ Two ((wr.setCell ⟨q, 0, none⟩ (.int .i64 X2)).setCell ⟨q, 1, none⟩ (.int .i64 (gY y0 word (i + 1)))) q 45 (.int .i64 (gX x0 word (i + 1))) (.int .i64 (gY y0 word (i + 1)))) := ⟨(HS9.out.box (by dsimp only; exact HQ.out) _ (by dsimp only; omega)).box (by dsimp only; exact HQ.out) _ (by dsimp only; omega), by rw [HX2e.out]; exact HQ1.out.set _ _⟩
              clear HSx HS9 HQ1 HP1
              go_wp2
              go_roundw
              case rel => exact ⟨i + 1, by omega, by go_num, HSe⟩
              case measure => simp [intOf]; omega
            have k1' : (x : Int) < (W : Int) := by omega
            by_cases k2 : yy < (H : Int)
            rotate_left
            · have k2' : (H : Int) ≤ yy := by omega
              have HS9 := Lib.hid (HFD.out wr x HSx.out.1 (by exact fun h => k2 h.2.1) hxX)
              have HQ1 := Lib.hid HSx.out.2.1
              have HP1 := Lib.hid HSx.out.2.2
              have e0 := HP1.out.cell0
              have e1 := HP1.out.cell1
              have f0 := HQ1.out.free 0
              have f1 := HQ1.out.free 1
              have q0 := HQ1.out.cell0
              have q1 := HQ1.out.cell1
              have lq := HQ1.out.lt
              have lp := HP1.out.lt
              have HSe : Hid (FlSt w3 g W H (L j (i + 1)) ((wr.setCell ⟨q, 0, none⟩ (.int .i64 X2)).setCell ⟨q, 1, none⟩ (.int .i64 (gY y0 word (i + 1)))) ∧ Two ((wr.setCell ⟨q, 0, none⟩ (.int .i64 X2)).setCell ⟨q, 1, none⟩ (.int .i64 (gY y0 word (i + 1)))) q 45 (.int .i64 (gX x0 word (i + 1))) (.int .i64 (gY y0 word (i + 1)))) := ⟨(HS9.out.box (by dsimp only; exact HQ.out) _ (by dsimp only; omega)).box (by dsimp only; exact HQ.out) _ (by dsimp only; omega), by rw [HX2e.out]; exact HQ1.out.set _ _⟩
              clear HSx HS9 HQ1 HP1
              go_wp2
              go_roundw
              case rel => exact ⟨i + 1, by omega, by go_num, HSe⟩
              case measure => simp [intOf]; omega
            by_cases k3 : (X : Int) = X2
            rotate_left
            · have k3' : ((X : Int) == X2) = false := by rw [beq_eq_false_iff_ne]; exact k3
              have HS9 := Lib.hid (HFD.out wr x HSx.out.1 (by exact fun h => k3 h.2.2) hxX)
              have HQ1 := Lib.hid HSx.out.2.1
              have HP1 := Lib.hid HSx.out.2.2
              have e0 := HP1.out.cell0
              have e1 := HP1.out.cell1
              have f0 := HQ1.out.free 0
              have f1 := HQ1.out.free 1
              have q0 := HQ1.out.cell0
              have q1 := HQ1.out.cell1
              have lq := HQ1.out.lt
              have lp := HP1.out.lt
              have HSe : Hid (FlSt w3 g W H (L j (i + 1)) ((wr.setCell ⟨q, 0, none⟩ (.int .i64 X2)).setCell ⟨q, 1, none⟩ (.int .i64 (gY y0 word (i + 1)))) ∧ Two ((wr.setCell ⟨q, 0, none⟩ (.int .i64 X2)).setCell ⟨q, 1, none⟩ (.int .i64 (gY y0 word (i + 1)))) q 45 (.int .i64 (gX x0 word (i + 1))) (.int .i64 (gY y0 word (i + 1)))) := ⟨(HS9.out.box (by dsimp only; exact HQ.out) _ (by dsimp only; omega)).box (by dsimp only; exact HQ.out) _ (by dsimp only; omega), by rw [HX2e.out]; exact HQ1.out.set _ _⟩
              clear HSx HS9 HQ1 HP1
              go_wp2
              go_roundw
              case rel => exact ⟨i + 1, by omega, by go_num, HSe⟩
              case measure => simp [intOf]; omega
            obtain ⟨y, hy⟩ : ∃ y : Nat, yy = (y : Int) := ⟨yy.toNat, by omega⟩
            subst hy
            have hyH : y < H := by omega
            have k3' : ((X : Int) == X2) = true := by rw [beq_iff_eq]; exact k3
            obtain ⟨t1, t2⟩ := HSx.out.1.cell k1 hyH
            have hff : ∀ b : Nat, b < H → flE ee (x : Int) (b : Int) = decide (b = y) := fun b _ => HFB.out x b y hxX rfl k3
            obtain ⟨wf, hwf⟩ : ∃ wf, wf = wr.setCell ⟨g, y * W + x, none⟩ (.bool (!parL (L j i) (x : Int) (y : Int))) := ⟨_, rfl⟩
            have HSf : Hid (FlX w3 g W H (L j i) ee ((x + 1 : Nat) : Int) wf ∧ Two wf q 45 (.int .i64 (X : Int)) (.int .i64 (gY y0 word i)) ∧ Two wf p 45 (.int .i64 X2) (.int .i64 (gY y0 word (i + 1)))) := by
              rw [hwf]
              exact ⟨HSx.out.1.set k1 hyH hff, HSx.out.2.1.other (by dsimp only; omega) _, HSx.out.2.2.other (by dsimp only; omega) _⟩
            have e0 := HSx.out.2.2.cell0
            have q0 := HSx.out.2.1.cell0
            have lq := HSx.out.2.1.lt
            have lp := HSx.out.2.2.lt
            have lg := World.block_lt_of_cell? _ _ t1
            clear hff HSx
            have hyW0 : 0 ≤ (y : Int) * (W : Int) := by rw [← Int.natCast_mul]; omega
            have hyW1 : (y : Int) * (W : Int) + (x : Int) < ((W * H : Nat) : Int) := by
              have h1 := Nat.mul_le_mul_right W (show y + 1 ≤ H by omega)
              rw [Nat.add_mul, Nat.one_mul, Nat.mul_comm H W] at h1
              rw [← Int.natCast_mul]
              omega
            have hyM : y * W + x < W * H := by
              have h1 := Nat.mul_le_mul_right W (show y + 1 ≤ H by omega)
              rw [Nat.add_mul, Nat.one_mul, Nat.mul_comm H W] at h1
              omega
            have hyL : W * H ≤ 256 := HMH.out
            go_upto_region 18 with fail
            rw [← hwf]
            clear hwf t1 t2 e0 q0 lq lp lg hyW0 hyW1 hyM hyL
            go_wp2
            go_roundw
            case rel => exact ⟨x + 1, by omega, by go_num, HSf⟩
            case measure => simp [intOf]; omega
        · have hin2 : i = word.size := by omega
          have hin' : ¬ (i : Int) < (word.size : Int) := by omega
          have HS9 : Hid (FlSt w3 g W H (L (j + 1) 0) wi) := by rw [← HLNj.out, ← hin2]; exact HS.out.1
          clear HS hin2
          go_wp2
          go_roundw
          case rel => exact ⟨j + 1, by omega, by go_num, HPJ, HS9⟩
          case measure => simp [intOf]; omega
    · as_aux_lemma =>
      have : j = n := by omega
      subst this
      have hjn' : ¬ (j : Int) < (j : Int) := by omega
      have HSE : Hid (FlSt w3 g W H (allG bs) wo) := by rw [← HLA.out]; exact HS.out
      obtain ⟨PP, hPP⟩ : ∃ PP, PP = picP (allG bs) W H := ⟨_, rfl⟩
      have hpl : PP.length = W * H := by rw [hPP]; unfold picP; rw [mkl_len, Nat.mul_comm]
      have HPL := Lib.hid hpl
      have HPR : Hid (picRows W H (picP (allG bs) W H) = picRows W H PP) := by show _ = _; rw [hPP]
      have HB9 : Hid (BlkOf Value.bool wo g 4 PP) := by rw [hPP]; exact HSE.out.2
      have HOK : Hid (PobOk2 W H bs ↔ brds (pxl W H PP) W (H * W) = bs) := ⟨fun h => by rw [hPP]; exact h.2, fun h => ⟨fun r hr => HP.out r (by rw [← HLEN.out]; exact hr), by rw [← hPP]; exact h⟩⟩
      obtain ⟨hrw, hxw⟩ := HRW.out wo HSE.out.1
      have HXW := Lib.hid hxw
      have HRB := Lib.hid hrw
      have HMK : Hid (Calls Try.prog 136 #[.int .i64 W, .slice (some ⟨g, 0, none⟩) (W * H) (W * H)] wo fun e w' => ∃ a' c', e = .returned (.agg #[.slice a' H c']) ∧ wo.Ext w' ∧ OwnOf Value.string ByteArray.empty wo.heap.size w'.heap.size w' a' (picRows W H PP)) := by
        have h := l01Make_any (some ⟨g, 0, none⟩) (W * H) W H PP wo hW1 (by omega) (by omega) HPL.out (HB9.out.own false (Nat.zero_le _) (Nat.le_refl _)).row
        rw [HPL.out] at h
        exact h
      have HOL : Hid ((brds (pxl W H PP) W (H * W)).length ≤ 256) := by
        show _ ≤ _
        unfold brds
        rw [List.length_map]
        exact Nat.le_trans (bTo_len _ _ _) (Nat.mul_le_mul hH hW)
      clear hPP hpl HS HSE HLN HLS HLA HRW HP HNOB hrw hxw HB9
      go_wp2_with fail
      refine HMK.out.mono ?_
      rintro e6 wa ⟨ap, cp, rfl, hxa, hop⟩
      obtain ⟨Wb, hWb⟩ : ∃ Wb, Wb = wa.alloc (.cells #[.slice ap H cp] 26) := ⟨_, rfl⟩
      have hxb : wa.Ext Wb := by rw [hWb]; repeat (first | exact World.Ext.refl _ | exact ⟨_, rfl⟩ | assumption | refine World.Ext.over ?_ _ | refine World.Ext.drewN ?_ _ | refine World.Ext.drew ?_ | refine World.Ext.alloc ?_ _ | refine World.Ext.setCell ?_ (by simp) _)
      have HCP : Hid (∀ wr, Wb.Ext wr → wr.cell? ⟨wa.heap.size, 0, none⟩ = some (.slice ap H cp)) := fun wr hx => hx.cell (by rw [hWb]; simp [go_sem])
      have HALL : Hid (Calls Try.prog 137 #[.pointer (some ⟨wa.heap.size, 0, none⟩)] Wb (BordsRet Wb (brds (pxl W H PP) W (H * W)))) := by
        have hw := picW_rows (show 0 < H by omega) HPL.out
        have h := l04All_any wa.heap.size ap cp (picRows W H PP) Wb (even_rows (by omega) HPL.out) (by rw [hw]; omega) (by rw [picRows_len]; omega) (by rw [picRows_len]; exact HCP.out Wb (.refl _)) (RowOf.ext hop.row hxb)
        rw [hw, picRows_len, picL_rows HPL.out] at h
        exact h
      have HXB := Lib.hid (HXW.out.trans (hxa.trans hxb))
      have HOP : Hid (∀ wr, Wb.Ext wr → OwnOf Value.string ByteArray.empty wo.heap.size wr.heap.size wr ap (picRows W H PP)) := fun wr hx => (hop.ext (hxb.trans hx)).mono (Nat.le_refl _) (hxb.trans hx).size
      clear hxa hxb hop HMK
      go_upto_region 22 with fail
      rw [← hWb]
      clear hWb
      generalize wa.heap.size = p at *
      go_wp2_with fail
      refine HALL.out.mono ?_
      rintro e7 wc ⟨a9, c9, rfl, hxc, hod⟩
      have HRO := Lib.hid hod.row
      have HXC := Lib.hid (HXB.out.trans hxc)
      have HXC2 := Lib.hid hxc
      clear hxc hod HALL HXB
      generalize brds (pxl W H PP) W (H * W) = OB at *
      obtain ⟨ol, hol⟩ : ∃ ol, OB.length = ol := ⟨_, rfl⟩
      rw [hol] at HOL
      have hol2 : ol ≤ 256 := HOL.out
      rw [hol]
      have HOLE := Lib.hid hol
      clear hol HOL
      by_cases hln : ol = j
      rotate_left
      · have tb : ((ol : Int) == (j : Int)) = false := by rw [beq_eq_false_iff_ne]; omega
        obtain ⟨r1, r2, r3, HR⟩ := One.noPic (HX0.out.trans HXC.out) (Nat.le_refl _) (HONE.out.ext HXC.out)
        have HNO : Hid (¬ PobOk2 W H bs) := fun h => hln (by rw [← HOLE.out, HOK.out.1 h, HLEN.out])
        clear HOP HCP
        go_wp2
        exact bodyPost_ret (v := .tuple #[.agg #[.slice none 0 0], .bool false]) (by simp [results, Try.results50, go_sem, r3]) rfl (PobRet2.no (PicRet2.no HR.out) HNO.out)
      subst hln
      have hps : w.heap.size < wo.heap.size := Nat.lt_of_lt_of_le HONE.out.lt HXW.out.size
      clear HMH C1 C2
      go_wp2
      go_loopw [18] (fun z wr => ∃ k : Nat, k ≤ ol ∧ z = .int .i64 k ∧ Hid (wc.Ext wr) ∧ Hid (∀ r, r < k → OB.getD r bd0 = bs.getD r bd0)) (fun z _ => ol - (intOf z).toNat)
      case atStart => exact ⟨0, Nat.zero_le _, rfl, .refl _, fun r hr => by omega⟩
      case round =>
        as_aux_lemma =>
        obtain ⟨k, hk, rfl, HX, HP⟩ := hrel
        obtain ⟨wz, rfl⟩ : ∃ wz : World, wz = wr := ⟨_, rfl⟩
        have hk0 : (0 : Int) ≤ (k : Int) := by omega
        by_cases hlt : k < ol
        · have hlt' : (k : Int) < (ol : Int) := by omega
          obtain ⟨b1, o1, rfl, c0, c1, c2⟩ := (HRO.out.ext HX.out) k (by rw [HOLE.out]; exact hlt)
          obtain ⟨b2, o2, rfl, d0, d1, d2⟩ := (HM.out.ext (HXC.out.trans HX.out)) k (by rw [HLEN.out]; exact hlt)
          have HYES : Hid (OB.getD k bd0 = bs.getD k bd0 → ∀ r, r < k + 1 → OB.getD r bd0 = bs.getD r bd0) := fun h r hr => by
            by_cases e : r = k
            · rw [e]; exact h
            · exact HP.out r (by omega)
          have HNO : Hid (OB.getD k bd0 ≠ bs.getD k bd0 → ¬ PobOk2 W H bs) := fun h h2 => h (by rw [HOK.out.1 h2])
          have HXZ := Lib.hid (HX0.out.trans (HXC.out.trans HX.out))
          have HON := Lib.hid (HONE.out.ext (HXC.out.trans HX.out))
          generalize OB.getD k bd0 = d at *
          generalize bs.getD k bd0 = d' at *
          obtain ⟨x, y, s⟩ := d
          obtain ⟨x', y', s'⟩ := d'
          dsimp only at c0 c1 c2 d0 d1 d2
          have HTT : Hid (((x, y, s) : Bord) = (x', y', s') ↔ x = x' ∧ y = y' ∧ s.toList = s'.toList) := by
            show _ ↔ _
            rw [Prod.mk.injEq, Prod.mk.injEq]
            exact and_congr Iff.rfl (and_congr Iff.rfl ⟨fun h => by rw [h], bytes_inj⟩)
          by_cases q1 : x = x'
          rotate_left
          · skip
            have HN := Lib.hid (HNO.out fun h => q1 (HTT.out.1 h).1)
            have f1 : ((x == x' && y == y') && s.toList == s'.toList) = false := by simp [q1]
            clear HTT HNO HYES HP HOP HCP
            go_wp2_with fail
            refine wp_region_over_lit (by kernel_rfl) (by kernel_rfl) ?_; (repeat (go_big_quiet_step (fail))); refine wpQuiet_nil ?_; rintro _ ⟨x1, rfl⟩
            obtain ⟨r1, r2, r3, HR⟩ := One.noPic (HXZ.out.over x1) (Nat.le_refl _) (HON.out.ext ⟨x1, rfl⟩)
            clear c0 c1 c2 d0 d1 d2
            go_wp2
            exact bodyPost_ret (v := .tuple #[.agg #[.slice none 0 0], .bool false]) (by simp [results, Try.results50, go_sem, r3]) rfl (PobRet2.no (PicRet2.no HR.out) HN.out)
          by_cases q2 : y = y'
          rotate_left
          · skip
            have HN := Lib.hid (HNO.out fun h => q2 (HTT.out.1 h).2.1)
            have f1 : ((x == x' && y == y') && s.toList == s'.toList) = false := by simp [q2]
            clear HTT HNO HYES HP HOP HCP
            go_wp2_with fail
            refine wp_region_over_lit (by kernel_rfl) (by kernel_rfl) ?_; (repeat (go_big_quiet_step (fail))); refine wpQuiet_nil ?_; rintro _ ⟨x1, rfl⟩
            obtain ⟨r1, r2, r3, HR⟩ := One.noPic (HXZ.out.over x1) (Nat.le_refl _) (HON.out.ext ⟨x1, rfl⟩)
            clear c0 c1 c2 d0 d1 d2
            go_wp2
            exact bodyPost_ret (v := .tuple #[.agg #[.slice none 0 0], .bool false]) (by simp [results, Try.results50, go_sem, r3]) rfl (PobRet2.no (PicRet2.no HR.out) HN.out)
          by_cases q3 : s.toList = s'.toList
          rotate_left
          · skip
            have HN := Lib.hid (HNO.out fun h => q3 (HTT.out.1 h).2.2)
            have f1 : ((x == x' && y == y') && s.toList == s'.toList) = false := by simp [q3]
            clear HTT HNO HYES HP HOP HCP
            go_wp2_with fail
            refine wp_region_over_lit (by kernel_rfl) (by kernel_rfl) ?_; (repeat (go_big_quiet_step (fail))); refine wpQuiet_nil ?_; rintro _ ⟨x1, rfl⟩
            obtain ⟨r1, r2, r3, HR⟩ := One.noPic (HXZ.out.over x1) (Nat.le_refl _) (HON.out.ext ⟨x1, rfl⟩)
            clear c0 c1 c2 d0 d1 d2
            go_wp2
            exact bodyPost_ret (v := .tuple #[.agg #[.slice none 0 0], .bool false]) (by simp [results, Try.results50, go_sem, r3]) rfl (PobRet2.no (PicRet2.no HR.out) HN.out)
          have HP2 := Lib.hid (HYES.out (HTT.out.2 ⟨q1, q2, q3⟩))
          have f1 : ((x == x' && y == y') && s.toList == s'.toList) = true := by simp [q1, q2, q3]
          clear HTT HNO HYES HP
          go_wp2_with fail
          refine wp_region_over_lit (by kernel_rfl) (by kernel_rfl) ?_; (repeat (go_big_quiet_step (fail))); refine wpQuiet_nil ?_; rintro _ ⟨x1, rfl⟩
          have HX2 : Hid (wc.Ext (wz.over x1)) := HX.out.trans ⟨x1, rfl⟩
          clear c0 c1 c2 d0 d1 d2
          go_wp2
          go_roundw
          case rel => exact ⟨k + 1, by omega, by go_num, HX2, HP2⟩
          case measure => simp [intOf]; omega
        · have hke : k = ol := by omega
          subst hke
          have hlt' : ¬ (k : Int) < (k : Int) := by omega
          have HEQ : Hid (PobOk2 W H bs) := HOK.out.2 (bd_ext (by rw [HOLE.out, HLEN.out]) fun i hi => HP.out i (by rw [← HOLE.out]; exact hi))
          have hc := HCP.out wz (HXC2.out.trans HX.out)
          obtain ⟨r1, r2, r3, HR⟩ := Res.store (.slice ap H cp) (HX0.out.trans (HXC.out.trans HX.out)) (Nat.le_refl _) (HONE.out.ext (HXC.out.trans HX.out)) hps (HOP.out wz (HXC2.out.trans HX.out))
          have lp := World.block_lt_of_cell? _ _ hc
          clear HP HOP HCP
          go_wp2
          exact bodyPost_ret (v := .tuple #[.agg #[.slice ap H cp], .bool true]) (by simp [results, Try.results50, go_sem, r3]) rfl ⟨true, ⟨fun _ => HEQ.out, fun _ => rfl⟩, by
            rw [if_pos rfl, HPR.out]
            exact ⟨ap, cp, by rw [picRows_len], HR.out.1, HR.out.2⟩⟩
end Go.Proofs.Ythgkmaccbcpaeaa
