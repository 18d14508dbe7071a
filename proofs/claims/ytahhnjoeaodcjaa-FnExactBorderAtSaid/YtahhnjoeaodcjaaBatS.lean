/- BorderAt: the reference's. -/
import Derived.Test.YtahhnjoeaodcjaaBatP
import Derived.Test.YtahhnjoeaodcjaaBrdX
namespace Go.Proofs.Ytahhnjoeaodcjaa
open Go Go.RowKit
set_option maxRecDepth 5000 in
set_option maxHeartbeats 6400000 in
theorem specBat_any (a : Option Addr) (c : Nat) (ss : List ByteArray) (x y : Int) (w : World) (hb : PicBnd ss) (hm : RowS w a ss) :
    Calls Try.prog 41 #[.agg #[.slice a ss.length c], .agg #[.int .i64 x, .int .i64 y]] w (BordRet1 w (bAtR ss x y) (bAtOk ss x y)) := by
  obtain ⟨ib, hib, hb0, hb1, hb2⟩ := info_parts Try.infoBoolA
  obtain ⟨W0, hW0⟩ : ∃ W0, W0 = ((w.alloc (.cells #[.slice a ss.length c] 26)).alloc (.cells #[.int .i64 x, .int .i64 y] 67)).alloc (.cells #[.int .i64 0, .int .i64 0, .string ⟨#[]⟩] 69) := ⟨_, rfl⟩
  have hx0 : w.Ext W0 := by rw [hW0]; repeat (first | exact World.Ext.refl _ | exact ⟨_, rfl⟩ | assumption | refine World.Ext.over ?_ _ | refine World.Ext.drewN ?_ _ | refine World.Ext.drew ?_ | refine World.Ext.alloc ?_ _ | refine World.Ext.setCell ?_ (by simp) _)
  have d0 : W0.cell? ⟨w.heap.size, 0, none⟩ = some (.slice a ss.length c) := by rw [hW0]; simp [go_sem]
  have HT : Hid (Two W0 (w.heap.size + 1) 67 (.int .i64 x) (.int .i64 y)) := by rw [hW0]; exact (Two.new (w.alloc (.cells #[.slice a ss.length c] 26)) (.int .i64 x) (.int .i64 y) 67 (w.heap.size + 1) (by simp)).ext (by repeat (first | exact World.Ext.refl _ | exact ⟨_, rfl⟩ | assumption | refine World.Ext.over ?_ _ | refine World.Ext.drewN ?_ _ | refine World.Ext.drew ?_ | refine World.Ext.alloc ?_ _ | refine World.Ext.setCell ?_ (by simp) _))
  have HR3 : Hid (Tri W0 (w.heap.size + 1 + 1) 69 (.int .i64 0) (.int .i64 0) (.string ⟨#[]⟩)) := by rw [hW0]; exact Tri.new _ _ _ _ _ _ (by simp)
  have HX0 := Lib.hid hx0
  have HI : Hid (∀ t, picOk ss = t → Calls Try.prog 129 #[.pointer (some ⟨w.heap.size, 0, none⟩)] W0 fun e w' => e = .returned (.bool t) ∧ W0.Ext w') := fun t ht => l01Is_any _ a c ss W0 hb.1 hb.2 d0 (hm.ext hx0) _ ht
  have HBL : Hid (picOk ss = true → ∀ w', W0.Ext w' → ∀ (x y : Int) t, pxl (picW ss) ss.length (picL ss) x y = t → Calls Try.prog 130 #[.pointer (some ⟨w.heap.size, 0, none⟩), .int .i64 x, .int .i64 y] w' fun e w'' => e = .returned (.bool t) ∧ w'.Ext w'') := fun h w' hx x y t ht => by
    obtain ⟨v1, v2, v3, v4, e1, -⟩ := picOk_spec h
    exact l01Black_any _ a c ss x y w' e1 (by omega) (by omega) (hx.cell d0) ((hm.ext hx0).ext hx) t ht
  have d1 := HT.out.cell0
  have d2 := HT.out.cell1
  have l1 := HT.out.lt
  cases hok : bAtOk ss x y
  · rw [bAt_no hok]
    unfold bAtOk at hok
    unfold bd0
    cases h1 : picOk ss
    · have HI1 := Lib.hid (HI.out false h1)
      clear hb hm hx0 hok h1 HBL HI d0
      go_enter Try.func41, Try.ntmps41
      go_wp2_with fail
      rw [← hW0]
      clear hW0
      refine HI1.out.mono ?_
      rintro e w1 ⟨rfl, hx1⟩
      obtain ⟨s0, s1, s2, s3, s4, s5, s6, s7, s8, HR⟩ := Res.store3 (.int .i64 0) (.int .i64 0) (.string ⟨#[]⟩) (HX0.out.trans hx1) (by omega) (HR3.out.ext hx1)
      clear hx1 d1 d2 l1
      go_wp2
      exact bodyPost_ret (v := .tuple #[.agg #[.int .i64 0, .int .i64 0, .string ⟨#[]⟩], .bool false]) (by simp [results, Try.results41, go_sem, s6, s7, s8]) rfl ⟨rfl, HR.out⟩
    · have HI1 := Lib.hid (HI.out true h1)
      have HB2 := Lib.hid (HBL.out h1)
      rw [h1, Bool.true_and] at hok
      cases h2 : pxl (picW ss) ss.length (picL ss) x y
      · have HB3 : Hid (∀ w', W0.Ext w' → Calls Try.prog 130 #[.pointer (some ⟨w.heap.size, 0, none⟩), .int .i64 x, .int .i64 y] w' fun e w'' => e = .returned (.bool false) ∧ w'.Ext w'') := fun w' hx => HB2.out w' hx x y false h2
        clear hb hm hx0 hok h1 h2 HBL HI HB2 d0
        go_enter Try.func41, Try.ntmps41
        go_wp2_with fail
        rw [← hW0]
        clear hW0
        refine HI1.out.mono ?_
        rintro e w1 ⟨rfl, hx1⟩
        have c1 := hx1.cell d1
        have c2 := hx1.cell d2
        have lc := World.block_lt_of_cell? _ _ c1
        clear d1 d2 l1
        go_wp2_with fail
        refine (HB3.out w1 hx1).mono ?_
        rintro e w2 ⟨rfl, hx2⟩
        obtain ⟨s0, s1, s2, s3, s4, s5, s6, s7, s8, HR⟩ := Res.store3 (.int .i64 0) (.int .i64 0) (.string ⟨#[]⟩) (HX0.out.trans (hx1.trans hx2)) (by omega) (HR3.out.ext (hx1.trans hx2))
        clear hx1 hx2 c1 c2 lc
        go_wp2
        exact bodyPost_ret (v := .tuple #[.agg #[.int .i64 0, .int .i64 0, .string ⟨#[]⟩], .bool false]) (by simp [results, Try.results41, go_sem, s6, s7, s8]) rfl ⟨rfl, HR.out⟩
      · have h3 : pxl (picW ss) ss.length (picL ss) x (y - 1) = true := by rw [h2, Bool.true_and, Bool.not_eq_false'] at hok; exact hok
        have HB3 : Hid (∀ w', W0.Ext w' → Calls Try.prog 130 #[.pointer (some ⟨w.heap.size, 0, none⟩), .int .i64 x, .int .i64 y] w' fun e w'' => e = .returned (.bool true) ∧ w'.Ext w'') := fun w' hx => HB2.out w' hx x y true h2
        have HB4 : Hid (∀ w', W0.Ext w' → Calls Try.prog 130 #[.pointer (some ⟨w.heap.size, 0, none⟩), .int .i64 x, .int .i64 (y - 1)] w' fun e w'' => e = .returned (.bool true) ∧ w'.Ext w'') := fun w' hx => HB2.out w' hx x (y - 1) true h3
        have hy := inBx_pxl _ _ _ x y h2
        have hy0 : 0 ≤ y := hy.2.2.1
        obtain ⟨v1, v2, v3, v4, e1, -⟩ := picOk_spec h1
        have hy1 : y ≤ 100 := by omega
        clear hb hm hx0 hok h1 h2 h3 HBL HI HB2 d0 hy v1 v2 v3 v4 e1
        go_enter Try.func41, Try.ntmps41
        go_wp2_with fail
        rw [← hW0]
        clear hW0
        refine HI1.out.mono ?_
        rintro e w1 ⟨rfl, hx1⟩
        have c1 := hx1.cell d1
        have c2 := hx1.cell d2
        have lc := World.block_lt_of_cell? _ _ c1
        go_wp2_with fail
        refine (HB3.out w1 hx1).mono ?_
        rintro e w2 ⟨rfl, hx2⟩
        have HX2 := Lib.hid (hx1.trans hx2)
        clear c1 c2 lc hx1 hx2
        have c1 := HX2.out.cell d1
        have c2 := HX2.out.cell d2
        have lc := World.block_lt_of_cell? _ _ c1
        go_wp2_with fail
        refine (HB4.out w2 HX2.out).mono ?_
        rintro e w3 ⟨rfl, hx3⟩
        obtain ⟨s0, s1, s2, s3, s4, s5, s6, s7, s8, HR⟩ := Res.store3 (.int .i64 0) (.int .i64 0) (.string ⟨#[]⟩) (HX0.out.trans (HX2.out.trans hx3)) (by omega) (HR3.out.ext (HX2.out.trans hx3))
        clear hx3 c1 c2 lc d1 d2 l1
        go_wp2
        exact bodyPost_ret (v := .tuple #[.agg #[.int .i64 0, .int .i64 0, .string ⟨#[]⟩], .bool false]) (by simp [results, Try.results41, go_sem, s6, s7, s8]) rfl ⟨rfl, HR.out⟩
  · obtain ⟨X, Y, rfl, rfl, hX, hY, h1, h2, h3, hbx, hat, hR⟩ := bAt_of hok
    rw [hR]
    have HI1 := Lib.hid (HI.out true h1)
    have HB3 : Hid (∀ w', W0.Ext w' → Calls Try.prog 130 #[.pointer (some ⟨w.heap.size, 0, none⟩), .int .i64 X, .int .i64 Y] w' fun e w'' => e = .returned (.bool true) ∧ w'.Ext w'') := fun w' hx => HBL.out h1 w' hx X Y true h2
    have HB4 : Hid (∀ w', W0.Ext w' → Calls Try.prog 130 #[.pointer (some ⟨w.heap.size, 0, none⟩), .int .i64 X, .int .i64 ((Y : Int) - 1)] w' fun e w'' => e = .returned (.bool false) ∧ w'.Ext w'') := fun w' hx => HBL.out h1 w' hx X (Y - 1) false h3
    have HAL : Hid (∀ w', W0.Ext w' → Calls Try.prog 131 #[.pointer (some ⟨w.heap.size, 0, none⟩)] w' (BordsRet w' (bordA ss))) := fun w' hx => by
      obtain ⟨v1, v2, v3, v4, e1, -⟩ := picOk_spec h1
      exact l04All_any _ a c ss w' e1 v4 v2 (hx.cell d0) ((hm.ext hx0).ext hx)
    have HBX := Lib.hid hbx
    have HAT := Lib.hid hat
    have hlt := hat.lt
    have hfew := hat.few
    clear hb hm hx0 hok h1 h2 h3 HBL HI hbx hat hR d0
    generalize bAtI ss X Y = i0 at *
    generalize bordA ss = bs at *
    generalize pxl (picW ss) ss.length (picL ss) = f at *
    generalize picW ss = W at *
    have C1 : Hid (ib.bytes * 289 ≤ 281474976710656) := by show _ ≤ _; rw [hb2]; omega
    have C2 : Hid (289 ≤ maxLen) := by show _ ≤ _; unfold maxLen; omega
    have hX0 : (0 : Int) ≤ (X : Int) := by omega
    have hY0 : (0 : Int) ≤ (Y : Int) := by omega
    have hX1 : (X : Int) < 16 := by omega
    have hY1 : (Y : Int) < 16 := by omega
    go_enter Try.func41, Try.ntmps41
    go_wp2_with fail
    rw [← hW0]
    clear hW0
    refine HI1.out.mono ?_
    rintro e w1 ⟨rfl, hx1⟩
    have c1 := hx1.cell d1
    have c2 := hx1.cell d2
    have lc := World.block_lt_of_cell? _ _ c1
    go_wp2_with fail
    refine (HB3.out w1 hx1).mono ?_
    rintro e w2 ⟨rfl, hx2⟩
    have HX2 := Lib.hid (hx1.trans hx2)
    clear c1 c2 lc hx1 hx2
    have c1 := HX2.out.cell d1
    have c2 := HX2.out.cell d2
    have lc := World.block_lt_of_cell? _ _ c1
    go_wp2_with fail
    refine (HB4.out w2 HX2.out).mono ?_
    rintro e w3 ⟨rfl, hx3⟩
    have HX3 := Lib.hid (HX2.out.trans hx3)
    clear c1 c2 lc hx3 HX2
    go_wp2_with fail
    refine (HAL.out w3 HX3.out).mono ?_
    rintro e w4 ⟨a4, c4, rfl, hx4, ho4⟩
    have HROW := Lib.hid ho4.row
    have HX4 := Lib.hid (HX3.out.trans hx4)
    clear hx4 ho4 HX3 d1 d2 l1 HAL HB3 HB4 HI1
    go_wp2
    go_loopw [7, 8] (fun z _ wr => ∃ i : Nat, i ≤ i0 ∧ z = .int .i64 i ∧ Hid (w4.Ext wr)) (fun z _ _ => bs.length - (intOf z).toNat)
    case atStart => exact ⟨0, Nat.zero_le _, rfl, .refl _⟩
    case round =>
      obtain ⟨i, hi, rfl, HX⟩ := hrel
      obtain ⟨wo, rfl⟩ : ∃ wo : World, wo = wr := ⟨_, rfl⟩
      have hin : i < bs.length := by omega
      have hin' : (i : Int) < (bs.length : Int) := by omega
      have hi0 : (0 : Int) ≤ (i : Int) := by omega
      obtain ⟨e, he, hbd, hno, hyes⟩ := HAT.out.at_ i hin
      go_wp2_with (at_make; refine wpList_make_full _ rfl _ _ 119 rfl 0 4 ib (.bool false) 1 Try.underlying119 hib hb0 hb1 .i64 .i64 _ _ 289 rfl rfl rfl rfl C1.out C2.out (Nat.zero_le _) (fun w5 hown hgrow => ?_))
      have HB5 : Hid (BlkOf Value.bool w5 wo.heap.size 4 (mkl 17 17 fun _ _ => false)) := by
        have h := blk_of_made (f := Value.bool) false rfl hown
        rw [mkl_false]
        exact h
      have HX5 : Hid (w4.Ext w5) := HX.out.trans (World.Ext.made hgrow)
      have hlo : w4.heap.size ≤ wo.heap.size := HX.out.size
      clear hown hgrow
      obtain ⟨b6, o6, rfl, r0, r1, r2⟩ := (HROW.out.ext HX5.out) i hin
      rw [hbd] at r0 r1 r2
      dsimp only at r0 r1 r2
      have lr := World.block_lt_of_cell? _ _ r0
      have hb6 : b6 < w4.heap.size := by
        obtain ⟨b', o', h', r', -⟩ := HROW.out i hin
        cases h'
        exact World.block_lt_of_cell? _ _ r'
      have HAB := Lib.hid (l04Above_at b6 (o6 + i * 3) wo.heap.size 289 f e (fun _ _ => false) w5 HBX.out he r0 r1 r2 HB5.out (by omega))
      clear r0 r1 r2
      generalize wo.heap.size = g at *
      go_wp2_with fail
      refine HAB.out.mono ?_
      rintro e' w6 ⟨rfl, hs6⟩
      have HX6 : Hid (w4.Ext w6) := HX5.out.wroteNew hs6.1 fun k h1 h2 => by omega
      obtain ⟨t1, t2⟩ := hs6.cell (x := X) (y := Y) (by omega) (by omega)
      simp only [Bool.false_or] at t1
      have HT6 := Lib.hid (HT.out.ext (HX4.out.trans HX6.out))
      have d1 := HT6.out.cell0
      have d2 := HT6.out.cell1
      have l1 := HT6.out.lt
      have lg := World.block_lt_of_cell? _ _ t1
      have HR6 := Lib.hid (HROW.out.ext HX6.out)
      clear hs6 HAB HB5 HX5 lr
      by_cases hii : i = i0
      · rw [hyes hii] at t1
        obtain ⟨b7, o7, h7, r0, r1, r2⟩ := HR6.out i hin
        cases h7
        rw [hbd] at r0 r1 r2
        dsimp only at r0 r1 r2
        have lr := World.block_lt_of_cell? _ _ r0
        have hb2' : bs.getD i0 bd0 = (e.x, e.y, wrd f e) := by rw [← hii]; exact hbd
        have HBD := Lib.hid hb2'
        clear hb2'
        obtain ⟨s0, s1, s2, s3, s4, s5, s6, s7, s8, HR⟩ := Res.store3 (.int .i64 e.x) (.int .i64 e.y) (.string (wrd f e)) (HX0.out.trans (HX4.out.trans HX6.out)) (by omega) (HR3.out.ext (HX4.out.trans HX6.out))
        clear hbd hno hyes hii HR6 HT6 HX6 HX
        generalize e.x = ex at *
        generalize e.y = ey at *
        generalize wrd f e = word at *
        go_wp2
        exact bodyPost_ret (v := .tuple #[.agg #[.int .i64 ex, .int .i64 ey, .string word], .bool true]) (by simp [results, Try.results41, go_sem, s6, s7, s8]) rfl ⟨by rw [HBD.out], HR.out⟩
      · rw [hno (by omega)] at t1
        clear hbd hno hyes HR6 HT6 HX
        go_wp2
        go_roundw
        case rel => exact ⟨i + 1, by omega, by go_num, HX6⟩
        case measure => simp [intOf]; omega
end Go.Proofs.Ytahhnjoeaodcjaa
