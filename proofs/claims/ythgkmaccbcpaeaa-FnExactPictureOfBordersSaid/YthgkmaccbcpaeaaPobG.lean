/- PictureOfBorders, the program's, of any borders. -/
import Derived.Test.YthgkmaccbcpaeaaPobP
import Derived.Test.YthgkmaccbcpaeaaBfB
import Derived.Test.YthgkmaccbcpaeaaRnA
namespace Go.Proofs.Ythgkmaccbcpaeaa
open Go Go.RowKit
def PobRet (w : World) (W H : Nat) (B : List Bord) (e : Ending) (w' : World) : Prop := ∃ t : Bool, (t = true ↔ PobOk W H B) ∧ PicRet2 w (if t then picRows W H (picG (allG B) W H) else []) t e w'
theorem PobRet.no {w w' : World} {W H : Nat} {B : List Bord} {e : Ending} (h : PicRet2 w [] false e w') (h2 : ¬ PobOk W H B) : PobRet w W H B e w' := ⟨false, ⟨(fun h => by cases h), fun h => absurd h h2⟩, h⟩
set_option maxRecDepth 20000 in
set_option maxHeartbeats 6400000 in
theorem pobG_any (a : Option Addr) (c n W H : Nat) (bs : List Bord) (w : World) (hW1 : 1 ≤ W) (hW : W ≤ 16) (hH1 : 1 ≤ H) (hH : H ≤ 16) (hlen : bs.length = n) (hn : n ≤ 150) (hwf : ∀ r, wrap64 (bs.getD r bd0).1 = (bs.getD r bd0).1 ∧ wrap64 (bs.getD r bd0).2.1 = (bs.getD r bd0).2.1) (hm : RowBd w a bs) :
    Calls Try.prog 31 #[.int .i64 W, .int .i64 H, .slice a n c] w (PobRet w W H bs) := by
  obtain ⟨L, hL⟩ : ∃ L : Nat → Nat → List Edg, L = stepsG bs := ⟨_, rfl⟩
  have hL0 : L 0 0 = [] := by rw [hL]; rfl
  have HLN : Hid (∀ j, j < n → L j (bs.getD j bd0).2.2.size = L (j + 1) 0) := fun j hj => by rw [hL]; exact stepsG_next (by omega)
  have HLS : Hid (∀ j i, L j (i + 1) = L j i ++ [gE (bs.getD j bd0).1 (bs.getD j bd0).2.1 (bs.getD j bd0).2.2 i]) := fun j i => by rw [hL]; exact stepsG_succ bs j i
  have HLA : Hid (L n 0 = allG bs) := by show _ = _; rw [hL, ← hlen]; exact stepsG_all bs
  have HLB : Hid (∀ j, (∀ r, r < j → IsBdB (bs.getD r bd0)) → ∀ i, (L j i).length ≤ 90000 + i) := fun j h i => by
    have h2 := stepsG_len (B := bs) (j := j) (fun r hr => (h r hr).hi) i
    rw [hL]
    omega
  have HL0 := Lib.hid hL0
  have HLEN := Lib.hid hlen
  have HWF := Lib.hid hwf
  have hs : sizeB (W : Int) (H : Int) = true := by
    unfold sizeB
    rw [Bool.and_eq_true, inB_true, inB_true]
    omega
  obtain ⟨W0, hW0⟩ : ∃ W0, W0 = w.alloc (.cells #[.slice none 0 0] 26) := ⟨_, rfl⟩
  have hx0 : w.Ext W0 := by rw [hW0]; repeat (first | exact World.Ext.refl _ | exact ⟨_, rfl⟩ | assumption | refine World.Ext.over ?_ _ | refine World.Ext.drewN ?_ _ | refine World.Ext.drew ?_ | refine World.Ext.alloc ?_ _ | refine World.Ext.setCell ?_ (by simp) _)
  have hone : One W0 w.heap.size 26 (.slice none 0 0) := by rw [hW0]; exact One.new _ _ _ _ rfl
  have HSZ := Lib.hid (sizeOk_any (W : Int) (H : Int) W0 true hs)
  have HBLK : Hid (∀ w', Calls Try.prog 84 #[.int .i64 W, .int .i64 H] w' (ImgRet w' W H (List.replicate (W * H) false))) := fun w' => blank_any W H w' (by omega) (by omega)
  have HTD : Hid (∀ w' b ab l, Img w' b ab W H l → Calls Try.prog 76 #[.pointer (some ⟨b, 0, none⟩)] w' (PicVal w' (picRows W H l))) := fun w' b ab l hI => told_any b ab W H l w' (by omega) (by omega) (by omega) hI
  have HBO : Hid (∀ w' b ab l, Img w' b ab W H l → Calls Try.prog 102 #[.pointer (some ⟨b, 0, none⟩)] w' (BordsRet w' (brds (pxl W H l) W (H * W)))) := fun w' b ab l hI => borders_any b ab W H l w' (by omega) (by omega) hI
  have HOWNL : Hid (∀ l, (brds (pxl W H l) W (H * W)).length ≤ 256) := fun l => by
    unfold brds
    rw [List.length_map]
    exact Nat.le_trans (bTo_len _ _ _) (Nat.mul_le_mul hH hW)
  have HM := Lib.hid (hm.ext hx0)
  have HX0 := Lib.hid hx0
  have HONE := Lib.hid hone
  have HNOB : Hid (∀ j, j < n → ¬ IsBdB (bs.getD j bd0) → ¬ PobOk W H bs) := fun j hj h h2 => h (h2.1 j (by omega))
  clear hm hx0 hone hs hL0 hL hlen hwf
  have hmm := @run_makeMap Try.prog
  go_enter Try.func31, Try.ntmps31
  go_wp2_with fail
  rw [← hW0]
  clear hW0
  refine HSZ.out.mono ?_
  rintro e9 w1 ⟨rfl, hx1⟩
  have HX1 := Lib.hid hx1
  clear hx1 HSZ
  obtain ⟨w3, hw3⟩ : ∃ w3, w3 = w1.alloc (.map #[] 0) := ⟨_, rfl⟩
  have hx3 : w1.Ext w3 := by rw [hw3]; repeat (first | exact World.Ext.refl _ | exact ⟨_, rfl⟩ | assumption | refine World.Ext.over ?_ _ | refine World.Ext.drewN ?_ _ | refine World.Ext.drew ?_ | refine World.Ext.alloc ?_ _ | refine World.Ext.setCell ?_ (by simp) _)
  have HM0 : Hid (MapS w3 Try.prog 45 w1.heap.size (fun _ => none)) := by rw [hw3]; exact MapS.new w1 _ _ _ rfl
  have HZ3 : Hid (w3.heap.size = w1.heap.size + 1) := by show _ = _; rw [hw3]; simp
  go_upto_region 4 with fail
  rw [← hw3]
  clear hmm hw3
  have HST : Hid (UpSt w3 w1.heap.size (L 0 0) w3) := ⟨.refl _ _, _, HM0.out, by rw [HL0.out]; exact UpOk.nil⟩
  have HRW : Hid (∀ wr, Wrote (fun k => k = w1.heap.size) w3 wr → RowBd wr a bs ∧ W0.Ext wr ∧ w1.heap.size < wr.heap.size) := fun wr hx => by
    have hx1 : W0.Ext wr := (((HX1.out.trans hx3).wrote (fun k => k = w1.heap.size)).trans hx).ext fun k hk he => by have := HX1.out.size; omega
    exact ⟨HM.out.ext hx1, hx1, by have := hx.size; have := HZ3.out; omega⟩
  clear HM0 hx3 HL0 HX1 HZ3
  generalize w1.heap.size = q at *
  go_wp2
  go_loopw [10, 11, 12, 14, 32, 44, 45, 46, 51, 52, 61] (fun _ _ _ _ z _ _ _ _ _ _ wr => ∃ j : Nat, j ≤ n ∧ z = .int .i64 j ∧ Hid (∀ r, r < j → IsBdB (bs.getD r bd0)) ∧ Hid (UpSt w3 q (L j 0) wr)) (fun _ _ _ _ z _ _ _ _ _ _ _ => n - (intOf z).toNat)
  case atStart => exact ⟨0, Nat.zero_le _, rfl, fun r hr => by omega, HST⟩
  case round =>
    clear HST
    obtain ⟨j, hj, rfl, HP, HS⟩ := hrel
    obtain ⟨wo, rfl⟩ : ∃ wo : World, wo = wr := ⟨_, rfl⟩
    have hj0 : (0 : Int) ≤ (j : Int) := by omega
    by_cases hjn : j < n
    · have hjn' : (j : Int) < (n : Int) := by omega
      obtain ⟨hrw, hxw, hqw⟩ := HRW.out wo HS.out.1
      obtain ⟨b1, o1, rfl, d0, d1, d2⟩ := hrw j (by rw [HLEN.out]; exact hjn)
      have HNOj := Lib.hid (HNOB.out j hjn)
      have HXWo := Lib.hid hxw
      have HLNj := Lib.hid (HLN.out j hjn)
      have HLBj := Lib.hid (HLB.out j HP.out)
      have HLSj := Lib.hid (HLS.out j)
      have HPj : Hid (IsBdB (bs.getD j bd0) → ∀ r, r < j + 1 → IsBdB (bs.getD r bd0)) := fun h r hr => by
        by_cases e : r = j
        · rw [e]; exact h
        · exact HP.out r (by omega)
      obtain ⟨wf1, wf2⟩ := HWF.out j
      generalize bs.getD j bd0 = d at *
      obtain ⟨x0, y0, word⟩ := d
      dsimp only at d0 d1 d2 wf1 wf2
      have HISB : Hid (∀ w', Calls Try.prog 36 #[.agg #[.int .i64 x0, .int .i64 y0, .string word]] w' (IsBdRet w' x0 y0 word)) := fun w' => isBdG_any x0 y0 word w' wf1 wf2
      have HED : Hid (∀ w' p, word.size ≤ 600 → w'.cell? ⟨p, 0, none⟩ = some (.int .i64 x0) → w'.cell? ⟨p, 1, none⟩ = some (.int .i64 y0) → w'.cell? ⟨p, 2, none⟩ = some (.string word) →
        Calls Try.prog 103 #[.pointer (some ⟨p, 0, none⟩)] w' (EdgG w' x0 y0 word)) := fun w' p h1 c0 c1 c2 => edgesG_any p x0 y0 word w' wf1 wf2 h1 c0 c1 c2
      obtain ⟨w4, hw4⟩ : ∃ w4, w4 = wo.alloc (.cells #[.int .i64 x0, .int .i64 y0, .string word] 62) := ⟨_, rfl⟩
      have hx4 : wo.Ext w4 := by rw [hw4]; repeat (first | exact World.Ext.refl _ | exact ⟨_, rfl⟩ | assumption | refine World.Ext.over ?_ _ | refine World.Ext.drewN ?_ _ | refine World.Ext.drew ?_ | refine World.Ext.alloc ?_ _ | refine World.Ext.setCell ?_ (by simp) _)
      have HD4 : Hid (∀ wr, w4.Ext wr → wr.cell? ⟨wo.heap.size, 0, none⟩ = some (.int .i64 x0) ∧ wr.cell? ⟨wo.heap.size, 1, none⟩ = some (.int .i64 y0) ∧ wr.cell? ⟨wo.heap.size, 2, none⟩ = some (.string word)) := fun wr hx => by
        refine ⟨hx.cell ?_, hx.cell ?_, hx.cell ?_⟩ <;> (rw [hw4]; simp [go_sem])
      have HS4 := Lib.hid (HS.out.ext hx4)
      have HX4 := Lib.hid (hxw.trans hx4)
      have hq4 : q < w4.heap.size := by have := hx4.size; omega
      clear HS hx4 hrw hxw hqw wf1 wf2 HP HXWo
      go_upto_region 7 with fail
      rw [← hw4]
      clear hw4 d0 d1 d2
      generalize wo.heap.size = g at *
      obtain ⟨c0, c1, c2⟩ := HD4.out w4 (.refl _)
      have lg := World.block_lt_of_cell? _ _ c0
      go_wp2_with fail
      refine (HISB.out w4).mono ?_
      rintro e9 w5 ⟨t5, rfl, ht5, hx5⟩
      cases t5
      · obtain ⟨r1, r2, r3, HR⟩ := One.noPic (HX0.out.trans (HX4.out.trans hx5)) (Nat.le_refl _) (HONE.out.ext (HX4.out.trans hx5))
        have HNO := Lib.hid (HNOj.out fun h => by have := ht5.2 h; cases this)
        clear hx5 ht5 c0 c1 c2 lg HPj HLSj HLBj HLNj HS4 HD4 HX4 HED HISB
        go_wp2
        exact bodyPost_ret (v := .tuple #[.agg #[.slice none 0 0], .bool false]) (by simp [results, Try.results31, go_sem, r3]) rfl (PobRet.no (PicRet2.no HR.out) HNO.out)
      have HBD := Lib.hid (ht5.1 rfl)
      have HPJ := Lib.hid (HPj.out HBD.out)
      have hN6 : word.size ≤ 600 := HBD.out.hi
      clear c0 c1 c2 lg ht5 HNOj HPj HX4
      obtain ⟨c0, c1, c2⟩ := HD4.out w5 hx5
      have HC5 := Lib.hid (HED.out w5 _ hN6 c0 c1 c2)
      clear c0 c1 c2
      go_wp2_with fail
      refine HC5.out.mono ?_
      intro e9 w6 hed
      rcases hed with ⟨-, a6, c6, rfl, hx6, ho6⟩ | ⟨hbad, -, -⟩
      rotate_left
      · exact absurd HBD.out.st hbad
      have HS6 := Lib.hid (HS4.out.ext (hx5.trans hx6))
      have HR6 : Hid (∀ wr, Wrote (fun k => k = q) w6 wr → RowD wr a6 (gEs x0 y0 word word.size)) := fun wr hx => (ho6.wrote hx fun k h1 h2 => by have := hx5.size; omega).row
      have HST : Hid (UpSt w3 q (L j 0) w6 ∧ Wrote (fun k => k = q) w6 w6) := ⟨HS6.out, .refl _ _⟩
      have HITj : Hid (∀ i, i < word.size → (0 ≤ (gE x0 y0 word i).x ∧ (gE x0 y0 word i).x ≤ 16 ∧ 0 ≤ (gE x0 y0 word i).y ∧ (gE x0 y0 word i).y ≤ 16) ∧ (gE x0 y0 word i).k < 4) := fun i hi => ⟨(HBD.out.ok i hi).1, HBD.out.st i hi⟩
      have HDNj : Hid ((gEs x0 y0 word word.size).length = word.size) := gEs_len _ _ _ _
      have HDLj : Hid (∀ i, i < word.size → (gEs x0 y0 word word.size).getD i (0, 0, 0) = ((gE x0 y0 word i).x, (gE x0 y0 word i).y, ((gE x0 y0 word i).k : Int))) := fun i hi => gEs_at hi
      clear HS4 HS6 hx5 hx6 ho6 HC5 HD4 HBD HED HISB
      generalize (gX x0 word word.size == x0 && gY y0 word word.size == y0) = tt at *
      generalize gEs x0 y0 word word.size = DL at *
      generalize hNj : word.size = nj at *
      have HLSj : Hid (∀ i, L j (i + 1) = L j i ++ [gE x0 y0 word i]) := HLSj.out
      have HLNj : Hid (L j nj = L (j + 1) 0) := HLNj.out
      clear hNj
      generalize hII : (fun i => gE x0 y0 word i) = I at *
      have eI : ∀ i, gE x0 y0 word i = I i := fun i => congrFun hII i
      simp only [eI] at HITj HLSj HDLj
      clear hII eI
      generalize hLL : L j = Lj at *
      go_wp2
      go_loopw [14, 46, 51, 52, 61] (fun _ z _ _ _ wr => ∃ i : Nat, i ≤ nj ∧ z = .int .i64 i ∧ Hid (UpSt w3 q (Lj i) wr ∧ Wrote (fun k => k = q) w6 wr)) (fun _ z _ _ _ _ => nj - (intOf z).toNat)
      case atStart => exact ⟨0, Nat.zero_le _, rfl, HST⟩
      case round =>
        clear HST
        obtain ⟨i, hi, rfl, HS⟩ := hrel
        obtain ⟨wi, rfl⟩ : ∃ wi : World, wi = wr := ⟨_, rfl⟩
        have hi0 : (0 : Int) ≤ (i : Int) := by omega
        by_cases hin : i < nj
        · have hin' : (i : Int) < (nj : Int) := by omega
          obtain ⟨b2, o2, rfl, d0, d1, d2⟩ := (HR6.out wi HS.out.2).at (show i < DL.length by rw [HDNj.out]; exact hin)
          rw [HDLj.out i hin] at d0 d1 d2
          dsimp only at d0 d1 d2
          obtain ⟨⟨x1, x2, y1, y2⟩, hk4⟩ := HITj.out i hin
          have HLS1 := Lib.hid (HLSj.out i)
          obtain ⟨ee, hee⟩ : ∃ ee, I i = ee := ⟨_, rfl⟩
          rw [hee] at d0 d1 d2 x1 x2 y1 y2 hk4 HLS1
          obtain ⟨X, Y, k⟩ := ee
          dsimp only at d0 d1 d2 x1 x2 y1 y2 hk4
          clear hee
          obtain ⟨w8, hw8⟩ : ∃ w8, w8 = wi.alloc (.cells #[.int .i64 X, .int .i64 Y, .int .i64 (k : Int)] 149) := ⟨_, rfl⟩
          have hx8 : wi.Ext w8 := by rw [hw8]; repeat (first | exact World.Ext.refl _ | exact ⟨_, rfl⟩ | assumption | refine World.Ext.over ?_ _ | refine World.Ext.drewN ?_ _ | refine World.Ext.drew ?_ | refine World.Ext.alloc ?_ _ | refine World.Ext.setCell ?_ (by simp) _)
          have HD8 : Hid (∀ wr, w8.Ext wr → wr.cell? ⟨wi.heap.size, 0, none⟩ = some (.int .i64 X) ∧ wr.cell? ⟨wi.heap.size, 1, none⟩ = some (.int .i64 Y) ∧ wr.cell? ⟨wi.heap.size, 2, none⟩ = some (.int .i64 (k : Int))) := fun wr hx => by
            refine ⟨hx.cell ?_, hx.cell ?_, hx.cell ?_⟩ <;> (rw [hw8]; simp [go_sem])
          have HS8 : Hid (UpSt w3 q (Lj i) w8 ∧ Wrote (fun k => k = q) w6 w8) := ⟨HS.out.1.ext hx8, HS.out.2.trans (hx8.wrote _)⟩
          clear HS hx8
          go_upto_region 13 with fail
          rw [← hw8]
          clear hw8 d0 d1 d2
          generalize wi.heap.size = g2 at *
          obtain ⟨c0, c1, c2⟩ := HD8.out w8 (.refl _)
          have lg2 := World.block_lt_of_cell? _ _ c0
          have hk4' : k = 0 ∨ k = 1 ∨ k = 2 ∨ k = 3 := by omega
          rcases hk4' with rfl | rfl | rfl | rfl
          · have HS9 : Hid (UpSt w3 q (Lj (i + 1)) w8 ∧ Wrote (fun k => k = q) w6 w8) := ⟨by
              obtain ⟨h1, g, h2, h3⟩ := HS8.out.1
              rw [HLS1.out]
              exact ⟨h1, g, h2, h3.other (by simp) (by simp)⟩, HS8.out.2⟩
            clear HS8 HLS1
            go_wp2
            go_roundw
            case rel => exact ⟨i + 1, by omega, by go_num, HS9⟩
            case measure => simp [intOf]; omega
          · obtain ⟨st, w9, r1, r2, r3, w10, r4, hs10, hw10⟩ := UpSt.bump (w4 := w8.drew) (p := (X, Y)) (HS8.out.1.ext (show w8.Ext w8.drew by repeat (first | exact World.Ext.refl _ | exact ⟨_, rfl⟩ | assumption | refine World.Ext.over ?_ _ | refine World.Ext.drewN ?_ _ | refine World.Ext.drew ?_ | refine World.Ext.alloc ?_ _ | refine World.Ext.setCell ?_ (by simp) _))) ⟨x1, x2⟩ ⟨y1, y2⟩ (.inl ⟨rfl, rfl, rfl⟩)
            have hub := upN_bnd (Lj i) (X, Y)
            have hlb := HLBj.out i
            rw [← HLS1.out] at hs10
            have HS9 : Hid (UpSt w3 q (Lj (i + 1)) w10 ∧ Wrote (fun k => k = q) w6 w10) := ⟨hs10, (HS8.out.2.trans ((show w8.Ext w8.drew by repeat (first | exact World.Ext.refl _ | exact ⟨_, rfl⟩ | assumption | refine World.Ext.over ?_ _ | refine World.Ext.drewN ?_ _ | refine World.Ext.drew ?_ | refine World.Ext.alloc ?_ _ | refine World.Ext.setCell ?_ (by simp) _)).wrote _)).trans hw10⟩
            dsimp only at r1 r2 r3 r4
            generalize upN (Lj i) (X, Y) = u at *
            rw [show u + -1 = u - 1 by omega] at r4
            obtain ⟨f0, f1, f2⟩ := HD8.out w8.drew (by repeat (first | exact World.Ext.refl _ | exact ⟨_, rfl⟩ | assumption | refine World.Ext.over ?_ _ | refine World.Ext.drewN ?_ _ | refine World.Ext.drew ?_ | refine World.Ext.alloc ?_ _ | refine World.Ext.setCell ?_ (by simp) _))
            clear hs10 hw10 HS8 HLS1
            go_wp2_with fail
            go_region
            all_goals
              go_wp2
              go_roundw
              case rel => exact ⟨i + 1, by omega, by go_num, HS9⟩
              case measure => simp [intOf]; omega
          · have HS9 : Hid (UpSt w3 q (Lj (i + 1)) w8 ∧ Wrote (fun k => k = q) w6 w8) := ⟨by
              obtain ⟨h1, g, h2, h3⟩ := HS8.out.1
              rw [HLS1.out]
              exact ⟨h1, g, h2, h3.other (by simp) (by simp)⟩, HS8.out.2⟩
            clear HS8 HLS1
            go_wp2
            go_roundw
            case rel => exact ⟨i + 1, by omega, by go_num, HS9⟩
            case measure => simp [intOf]; omega
          · have HMV : Hid (∀ w', Calls Try.prog 104 #[.agg #[.int .i64 X, .int .i64 Y], .int .i64 3] w' fun e w'' => e = .returned (.agg #[.int .i64 X, .int .i64 (Y - 1)]) ∧ w'.Ext w'') := fun w' => by
              have q := moved_any X Y 3 w' (by omega) (by omega) (by omega)
              rw [show X + dX 3 = X by simp [dX], show Y + dY 3 = Y - 1 by show Y + -1 = _; omega] at q
              exact q
            have hub := upN_bnd (Lj i) (X, Y - 1)
            have hlb := HLBj.out i
            have HBUMP : Hid (∀ w9, w8.Ext w9 → ∃ st w10, (Instr.lookup 144 (.map (some q)) (.agg #[.int .i64 X, .int .i64 (Y - 1)]) false).run Try.prog w9 = .ok (.int .i64 (upN (Lj i) (X, Y - 1))) w9 ∧
                (Instr.mapEntry 144 (.map (some q)) (.agg #[.int .i64 X, .int .i64 (Y - 1)])).run Try.prog w9 = .ok (.tuple #[.int .i64 (upN (Lj i) (X, Y - 1)), .int .i64 st]) w10 ∧
                (Instr.lookup 144 (.map (some q)) (.agg #[.int .i64 X, .int .i64 (Y - 1)]) false).run Try.prog w10 = .ok (.int .i64 (upN (Lj i) (X, Y - 1))) w10 ∧
                ∃ w11, (Instr.entryStore 144 (.map (some q)) (.int .i64 st) (.int .i64 (upN (Lj i) (X, Y - 1) + 1))).run Try.prog w10 = .ok () w11 ∧ Hid (UpSt w3 q (Lj (i + 1)) w11 ∧ Wrote (fun k => k = q) w6 w11)) := fun w9 hx9 => by
              obtain ⟨st, w10, r1, r2, r3, w11, r4, hs11, hw11⟩ := UpSt.bump (w4 := w9) (p := (X, Y - 1)) (HS8.out.1.ext hx9) ⟨x1, x2⟩ ⟨y1, y2⟩ (.inr ⟨rfl, rfl, rfl⟩)
              rw [← HLS1.out] at hs11
              exact ⟨st, w10, r1, r2, r3, w11, r4, hs11, (HS8.out.2.trans (hx9.wrote _)).trans hw11⟩
            clear HS8 HLS1
            generalize upN (Lj i) (X, Y - 1) = u at *
            have hwr : IntKind.i64.wrap (u + 1) = u + 1 := IntWalk.i64_in _ (by omega)
            obtain ⟨f0, f1, f2⟩ := HD8.out w8.drew (by repeat (first | exact World.Ext.refl _ | exact ⟨_, rfl⟩ | assumption | refine World.Ext.over ?_ _ | refine World.Ext.drewN ?_ _ | refine World.Ext.drew ?_ | refine World.Ext.alloc ?_ _ | refine World.Ext.setCell ?_ (by simp) _))
            go_wp2_with fail
            go_region_with (go_at_call 104; refine (HMV.out _).mono ?_; rintro e9 w9 ⟨rfl, hx9⟩; obtain ⟨st, w10, r1, r2, r3, w11, r4, HS9⟩ := HBUMP.out w9 (World.Ext.trans (by repeat (first | exact World.Ext.refl _ | exact ⟨_, rfl⟩ | assumption | refine World.Ext.over ?_ _ | refine World.Ext.drewN ?_ _ | refine World.Ext.drew ?_ | refine World.Ext.alloc ?_ _ | refine World.Ext.setCell ?_ (by simp) _)) hx9))
            all_goals
              go_wp2
              go_roundw
              case rel => exact ⟨i + 1, by omega, by go_num, HS9⟩
              case measure => simp [intOf]; omega
        · have : i = nj := by omega
          subst this
          have hin' : ¬ (i : Int) < (i : Int) := by omega
          have HS9 : Hid (UpSt w3 q (L (j + 1) 0) wi) := by rw [← HLNj.out]; exact HS.out.1
          clear HS
          go_wp2
          go_roundw
          case rel => exact ⟨j + 1, by omega, by go_num, HPJ, HS9⟩
          case measure => simp [intOf]; omega
    · have : j = n := by omega
      subst this
      have hjn' : ¬ (j : Int) < (j : Int) := by omega
      have HSE : Hid (UpSt w3 q (allG bs) wo) := by rw [← HLA.out]; exact HS.out
      have HIN : Hid (∀ y x, x ≤ 20 → -2000000 ≤ insN (allG bs) y x ∧ insN (allG bs) y x ≤ 2000000) := fun y x hx => insN_bnd2 y hx (by
        have h := HLB.out j HP.out 0
        rw [HLA.out] at h
        omega)
      have HOK : Hid (PobOk W H bs ↔ brds (pxl W H (picG (allG bs) W H)) W (H * W) = bs) := ⟨fun h => h.2, fun h => ⟨fun r hr => HP.out r (by rw [← HLEN.out]; exact hr), h⟩⟩
      have HFX : Hid (∀ x y : Nat, fG (allG bs) (x : Int) (y : Int) = decide (0 < insN (allG bs) y x + upN (allG bs) ((x : Int), (y : Int)))) := fun x y => rfl
      have HNX : Hid (∀ x y : Nat, insN (allG bs) y (x + 1) = insN (allG bs) y x + upN (allG bs) ((x : Int), (y : Int))) := fun x y => rfl
      have HN0 : Hid (∀ y : Nat, insN (allG bs) y 0 = 0) := fun y => rfl
      obtain ⟨hrw, hxw, hqw⟩ := HRW.out wo HSE.out.1
      have HRB := Lib.hid hrw
      have HXW := Lib.hid hxw
      clear HS HLN HLS HLA HLB HRW hrw hxw HP HNOB HWF
      have hPG : picG (allG bs) W H = mkl W H fun i j => fG (allG bs) (i : Int) (j : Int) := rfl
      have HPG := Lib.hid hPG
      clear hPG
      obtain ⟨PG, hPGe⟩ : ∃ PG, PG = picG (allG bs) W H := ⟨_, rfl⟩
      have HPGE := Lib.hid hPGe.symm
      rw [← hPGe] at HPG HOK
      clear hPGe
      obtain ⟨EL, hEL⟩ : ∃ EL, EL = allG bs := ⟨_, rfl⟩
      rw [← hEL] at HPG HFX HNX HN0 HIN HSE
      clear hEL
      go_wp2_with fail
      refine (HBLK.out _).mono ?_
      rintro e9 wA ⟨bi, ai, rfl, hxA, hIA, hbi, hai⟩
      obtain ⟨g, hgm, hgo⟩ := HSE.out.2
      have HGM := Lib.hid (hgm.ext hxA)
      have HGO := Lib.hid hgo
      have HST : Hid (Wrote (fun k => k = ai) wA wA ∧ Img wA bi ai W H (mkl W H fun i j => decide (j * W + i < 0 * W + 0) && fG EL (i : Int) (j : Int))) := ⟨.refl _ _, by
        rw [show (fun i j : Nat => decide (j * W + i < 0 * W + 0) && fG EL (i : Int) (j : Int)) = fun _ _ => false from by funext i j; rw [decide_eq_false (by omega)]; rfl, mkl_false, Nat.mul_comm H W]
        exact hIA⟩
      have HXA := Lib.hid (HXW.out.trans hxA)
      have HRA := Lib.hid (HRB.out.ext hxA)
      have hqA : q < wA.heap.size := Nat.lt_of_lt_of_le hqw hxA.size
      have hqa : q ≠ ai := by omega
      have HAB : Hid (W0.heap.size ≤ ai) := Nat.le_trans HXW.out.size hai
      have HBIA : Hid (bi ≠ ai) := hIA.ne
      clear hxA hIA hbi hai hgm hgo HSE HBLK HRB HXW hqw
      have HLOOKU : Hid (∀ wr (x y : Nat), x ≤ 20 → y ≤ 20 → Wrote (fun k => k = ai) wA wr → (Instr.lookup 144 (.map (some q)) (.agg #[.int .i64 x, .int .i64 y]) false).run Try.prog wr = .ok (.int .i64 (upN EL ((x : Int), (y : Int)))) wr) := fun wr x y hx hy hw => by
        have hmm2 : MapS wr Try.prog 45 q g := HGM.out.keep (hw.block q hqA hqa)
        have h := hmm2.look Try.spotKey intMap (zeroIntU wr) (spotKeyOf (p := ((x : Int), (y : Int))) (spotWf (by omega) (by omega)))
        rw [HGO.out.look ((x : Int), (y : Int))] at h
        exact h
      clear HGM HGO
      go_wp2
      go_loopw [16, 17, 18, 77, 80, 81] (fun _ _ _ z _ _ wr => ∃ y : Nat, y ≤ H ∧ z = .int .i64 y ∧ Hid (Wrote (fun k => k = ai) wA wr ∧ Img wr bi ai W H (mkl W H fun i j => decide (j * W + i < y * W + 0) && fG EL (i : Int) (j : Int)))) (fun _ _ _ z _ _ _ => H - (intOf z).toNat)
      case atStart => exact ⟨0, Nat.zero_le _, rfl, HST⟩
      case round =>
        clear HST
        obtain ⟨y, hy, rfl, HS⟩ := hrel
        obtain ⟨wb, rfl⟩ : ∃ wb : World, wb = wr := ⟨_, rfl⟩
        have hy0 : (0 : Int) ≤ (y : Int) := by omega
        by_cases hlty : y < H
        · have hlty' : (y : Int) < (H : Int) := by omega
          have HV0 := Lib.hid (HN0.out y)
          go_wp2
          go_loopw [17, 18, 81] (fun v _ z wr => ∃ x : Nat, x ≤ W ∧ z = .int .i64 x ∧ v = .int .i64 (insN EL y x) ∧ Hid (Wrote (fun k => k = ai) wA wr ∧ Img wr bi ai W H (mkl W H fun i j => decide (j * W + i < y * W + x) && fG EL (i : Int) (j : Int)))) (fun _ _ z _ => W - (intOf z).toNat)
          case atStart => exact ⟨0, Nat.zero_le _, rfl, by rw [HV0.out], HS⟩
          case round =>
            clear HS
            obtain ⟨x, hx, rfl, rfl, HS⟩ := hrel
            obtain ⟨wc, rfl⟩ : ∃ wc : World, wc = wr := ⟨_, rfl⟩
            have hx0 : (0 : Int) ≤ (x : Int) := by omega
            by_cases hltx : x < W
            · have hltx' : (x : Int) < (W : Int) := by omega
              have hlk := HLOOKU.out wc x y (by omega) (by omega) HS.out.1
              have HSETC : Hid (Calls Try.prog 86 #[.pointer (some ⟨bi, 0, none⟩), .int .i64 x, .int .i64 y, .bool (fG EL (x : Int) (y : Int))] wc (SetRet wc bi ai W H (mkl W H fun i j => decide (j * W + i < y * W + (x + 1)) && fG EL (i : Int) (j : Int)))) := by
                have h := set_any bi ai W H _ (x : Int) (y : Int) (fG EL (x : Int) (y : Int)) wc (by omega) (by omega) HS.out.2 (by omega) hltx' (by omega) hlty'
                rw [show ((y : Int) * (W : Int) + (x : Int)).toNat = y * W + x by rw [← Int.natCast_mul]; omega, mkl_fill hltx hlty] at h
                exact h
              have hb1 := HIN.out y x (by omega)
              have hb2 := HIN.out y (x + 1) (by omega)
              have HNXT := Lib.hid (HNX.out x y)
              have tb := (HFX.out x y).symm
              rw [HNXT.out] at hb2
              have HS1 := Lib.hid HS.out.1
              clear HS HLOOKU
              generalize insN EL y x = v at *
              generalize upN EL ((x : Int), (y : Int)) = u at *
              generalize fG EL (x : Int) (y : Int) = tt at *
              obtain ⟨hb3, hb4⟩ := hb1
              obtain ⟨hb5, hb6⟩ := hb2
              go_wp2_with fail
              refine HSETC.out.mono ?_
              rintro e9 wd ⟨rfl, hwd, hId⟩
              have HS2 : Hid (Wrote (fun k => k = ai) wA wd ∧ Img wd bi ai W H (mkl W H fun i j => decide (j * W + i < y * W + (x + 1)) && fG EL (i : Int) (j : Int))) := ⟨HS1.out.trans hwd, hId⟩
              clear hwd hId HS1 HSETC hlk tb
              go_wp2
              go_roundw
              case rel => exact ⟨x + 1, by omega, by go_num, by rw [HNXT.out], HS2⟩
              case measure => simp [intOf]; omega
            · have : x = W := by omega
              subst this
              have hltx' : ¬ (x : Int) < (x : Int) := by omega
              have HS2 : Hid (Wrote (fun k => k = ai) wA wc ∧ Img wc bi ai x H (mkl x H fun i j => decide (j * x + i < (y + 1) * x + 0) && fG EL (i : Int) (j : Int))) := by
                have e : (y + 1) * x + 0 = y * x + x := by rw [Nat.add_mul, Nat.one_mul, Nat.add_zero]
                rw [e]
                exact HS.out
              clear HS
              go_wp2
              go_roundw
              case rel => exact ⟨y + 1, by omega, by go_num, HS2⟩
              case measure => simp [intOf]; omega
        · have : y = H := by omega
          subst this
          have hlty' : ¬ (y : Int) < (y : Int) := by omega
          have HIF : Hid (Img wb bi ai W y PG) := by
            have h := HS.out.2
            rw [Nat.add_zero, mkl_all, ← HPG.out] at h
            exact h
          have HXB : Hid (W0.Ext wb) := HXA.out.wroteNew HS.out.1 fun k hk he => by have := HAB.out; omega
          have HRBB := Lib.hid (HM.out.ext HXB.out)
          have HC1 := Lib.hid (HBO.out wb bi ai PG HIF.out)
          have hown := HOWNL.out PG
          clear HS HLOOKU HRA HXA HPG HFX HNX HN0 HIN HBO HOWNL
          go_wp2_with fail
          refine HC1.out.mono ?_
          rintro e9 wd ⟨a9, c9, rfl, hxd, hod⟩
          have HC2 := Lib.hid (eqBords_any a9 a c9 c _ j _ bs wd rfl HLEN.out (by omega) (by omega) hod.row (HRBB.out.ext hxd))
          have HXD := Lib.hid (HXB.out.trans hxd)
          have HID := Lib.hid (HIF.out.ext hxd)
          clear hxd hod HC1 HXB HIF HRBB
          generalize brds (pxl W y PG) W (y * W) = OB at *
          generalize OB.length = ol at *
          go_wp2_with fail
          refine HC2.out.mono ?_
          rintro e9 we ⟨t7, rfl, ht7, hxe⟩
          cases t7
          · obtain ⟨r1, r2, r3, HR⟩ := One.noPic (HX0.out.trans (HXD.out.trans hxe)) (Nat.le_refl _) (HONE.out.ext (HXD.out.trans hxe))
            have HNO : Hid (¬ PobOk W y bs) := fun h => by have := ht7.2 (HOK.out.1 h); cases this
            clear hxe ht7 HC2 HID HXD
            go_wp2
            exact bodyPost_ret (v := .tuple #[.agg #[.slice none 0 0], .bool false]) (by simp [results, Try.results31, go_sem, r3]) rfl (PobRet.no (PicRet2.no HR.out) HNO.out)
          have HYES : Hid (PobOk W y bs) := HOK.out.2 (ht7.1 rfl)
          have HT4 := Lib.hid (HTD.out we bi ai PG (HID.out.ext hxe))
          have HXE := Lib.hid (HXD.out.trans hxe)
          have hrl := picRows_len W y PG
          have hl0 : w.heap.size < we.heap.size := (HONE.out.ext HXE.out).lt
          clear hxe HID HXD HC2 ht7
          have HPGF : Hid (picRows W y (picG (allG bs) W y) = picRows W y PG) := by show _ = _; rw [HPGE.out]
          clear HPGE
          obtain ⟨P, hP⟩ : ∃ P, P = picRows W y PG := ⟨_, rfl⟩
          have HPP : Hid (picRows W y (picG (allG bs) W y) = P) := by rw [hP]; exact HPGF.out
          rw [← hP] at HT4 hrl
          clear hP HPGF
          go_wp2_with fail
          refine HT4.out.mono ?_
          rintro e9 w5 ⟨a5, c5, rfl, hx5, ho5⟩
          obtain ⟨r1, r2, r3, HR⟩ := Res.store (.slice a5 P.length c5) (HX0.out.trans (HXE.out.trans hx5)) (Nat.le_refl _) (HONE.out.ext (HXE.out.trans hx5)) hl0 ho5
          clear hx5 ho5 hrl
          go_wp2
          exact bodyPost_ret (v := .tuple #[.agg #[.slice a5 P.length c5], .bool true]) (by simp [results, Try.results31, go_sem, r3]) rfl ⟨true, ⟨fun _ => HYES.out, fun _ => rfl⟩, by
            rw [if_pos rfl, HPP.out]
            exact ⟨a5, c5, rfl, HR.out.1, HR.out.2⟩⟩
end Go.Proofs.Ythgkmaccbcpaeaa
