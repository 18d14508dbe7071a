/- BorderAt: the program's. -/
import Derived.Test.YtahhnjoeaodcjaaBatP
import Derived.Test.YtahhnjoeaodcjaaBrdU
import Derived.Test.YtahhnjoeaodcjaaBrdV
namespace Go.Proofs.Ytahhnjoeaodcjaa
open Go Go.RowKit
set_option maxRecDepth 5000 in
set_option maxHeartbeats 6400000 in
theorem implBat_any (a : Option Addr) (c : Nat) (ss : List ByteArray) (x y : Int) (w : World) (hb : PicBnd ss) (hm : RowS w a ss) :
    Calls Try.prog 44 #[.agg #[.slice a ss.length c], .agg #[.int .i64 x, .int .i64 y]] w (BordRet1 w (bAtR ss x y) (bAtOk ss x y)) := by
  obtain ⟨W0, hW0⟩ : ∃ W0, W0 = ((w.alloc (.cells #[.slice a ss.length c] 26)).alloc (.cells #[.int .i64 x, .int .i64 y] 67)).alloc (.cells #[.int .i64 0, .int .i64 0, .string ⟨#[]⟩] 69) := ⟨_, rfl⟩
  have hx0 : w.Ext W0 := by rw [hW0]; repeat (first | exact World.Ext.refl _ | exact ⟨_, rfl⟩ | assumption | refine World.Ext.over ?_ _ | refine World.Ext.drewN ?_ _ | refine World.Ext.drew ?_ | refine World.Ext.alloc ?_ _ | refine World.Ext.setCell ?_ (by simp) _)
  have HT : Hid (Two W0 (w.heap.size + 1) 67 (.int .i64 x) (.int .i64 y)) := by rw [hW0]; exact (Two.new (w.alloc (.cells #[.slice a ss.length c] 26)) (.int .i64 x) (.int .i64 y) 67 (w.heap.size + 1) (by simp)).ext (by repeat (first | exact World.Ext.refl _ | exact ⟨_, rfl⟩ | assumption | refine World.Ext.over ?_ _ | refine World.Ext.drewN ?_ _ | refine World.Ext.drew ?_ | refine World.Ext.alloc ?_ _ | refine World.Ext.setCell ?_ (by simp) _))
  have HR3 : Hid (Tri W0 (w.heap.size + 1 + 1) 69 (.int .i64 0) (.int .i64 0) (.string ⟨#[]⟩)) := by rw [hW0]; exact Tri.new _ _ _ _ _ _ (by simp)
  have HX0 := Lib.hid hx0
  have HIO : Hid (∀ t, picOk ss = t → Calls Try.prog 90 #[.agg #[.slice a ss.length c]] W0 (ImgOf W0 ss t)) := fun t ht => imageOf_any a c ss W0 hb.1 hb.2 (hm.ext hx0) _ ht
  cases hok : bAtOk ss x y
  · rw [bAt_no hok]
    unfold bAtOk at hok
    unfold bd0
    cases h1 : picOk ss
    · have HI1 := Lib.hid (HIO.out false h1)
      clear hb hm hx0 hok h1 HIO
      go_enter Try.func44, Try.ntmps44
      go_wp2_with fail
      rw [← hW0]
      clear hW0
      refine HI1.out.mono ?_
      rintro e w1 ⟨rfl, hx1⟩
      obtain ⟨s0, s1, s2, s3, s4, s5, s6, s7, s8, HR⟩ := Res.store3 (.int .i64 0) (.int .i64 0) (.string ⟨#[]⟩) (HX0.out.trans hx1) (by omega) (HR3.out.ext hx1)
      clear hx1
      go_wp2
      exact bodyPost_ret (v := .tuple #[.agg #[.int .i64 0, .int .i64 0, .string ⟨#[]⟩], .bool false]) (by simp [results, Try.results44, go_sem, s6, s7, s8]) rfl ⟨rfl, HR.out⟩
    · have HI1 := Lib.hid (HIO.out true h1)
      rw [h1, Bool.true_and] at hok
      obtain ⟨v1, v2, v3, v4, e1, -⟩ := picOk_spec h1
      have HGET : Hid (∀ w' b ab, Img w' b ab (picW ss) ss.length (picL ss) → ∀ (x y : Int) t, pxl (picW ss) ss.length (picL ss) x y = t → Calls Try.prog 109 #[.pointer (some ⟨b, 0, none⟩), .int .i64 x, .int .i64 y] w' fun e w'' => e = .returned (.bool t) ∧ w'.Ext w'') := fun w' b ab hI x y t ht => get_any b ab _ _ _ x y w' (by omega) (by omega) hI t ht
      cases h2 : pxl (picW ss) ss.length (picL ss) x y
      · have HG1 : Hid (∀ w' b ab, Img w' b ab (picW ss) ss.length (picL ss) → Calls Try.prog 109 #[.pointer (some ⟨b, 0, none⟩), .int .i64 x, .int .i64 y] w' fun e w'' => e = .returned (.bool false) ∧ w'.Ext w'') := fun w' b ab hI => HGET.out w' b ab hI x y false h2
        clear hb hm hx0 hok h1 h2 HIO HGET v1 v2 v3 v4 e1
        go_enter Try.func44, Try.ntmps44
        go_wp2_with fail
        rw [← hW0]
        clear hW0
        refine HI1.out.mono ?_
        rintro e w1 ⟨b1, ab1, rfl, hx1, hi1, -, -⟩
        have HC := Lib.hid (HG1.out w1 b1 ab1 hi1)
        have HT1 := Lib.hid (HT.out.ext hx1)
        have d1 := HT1.out.cell0
        have d2 := HT1.out.cell1
        have l1 := HT1.out.lt
        clear hi1
        go_wp2_with fail
        refine HC.out.mono ?_
        rintro e w2 ⟨rfl, hx2⟩
        obtain ⟨s0, s1, s2, s3, s4, s5, s6, s7, s8, HR⟩ := Res.store3 (.int .i64 0) (.int .i64 0) (.string ⟨#[]⟩) (HX0.out.trans (hx1.trans hx2)) (by omega) (HR3.out.ext (hx1.trans hx2))
        clear hx1 hx2 d1 d2 l1
        go_wp2
        exact bodyPost_ret (v := .tuple #[.agg #[.int .i64 0, .int .i64 0, .string ⟨#[]⟩], .bool false]) (by simp [results, Try.results44, go_sem, s6, s7, s8]) rfl ⟨rfl, HR.out⟩
      · have h3 : pxl (picW ss) ss.length (picL ss) x (y - 1) = true := by rw [h2, Bool.true_and, Bool.not_eq_false'] at hok; exact hok
        have HG1 : Hid (∀ w' b ab, Img w' b ab (picW ss) ss.length (picL ss) → Calls Try.prog 109 #[.pointer (some ⟨b, 0, none⟩), .int .i64 x, .int .i64 y] w' fun e w'' => e = .returned (.bool true) ∧ w'.Ext w'') := fun w' b ab hI => HGET.out w' b ab hI x y true h2
        have HG2 : Hid (∀ w' b ab, Img w' b ab (picW ss) ss.length (picL ss) → Calls Try.prog 109 #[.pointer (some ⟨b, 0, none⟩), .int .i64 x, .int .i64 (y - 1)] w' fun e w'' => e = .returned (.bool true) ∧ w'.Ext w'') := fun w' b ab hI => HGET.out w' b ab hI x (y - 1) true h3
        have hy := inBx_pxl _ _ _ x y h2
        have hy0 : 0 ≤ y := hy.2.2.1
        have hy1 : y ≤ 100 := by omega
        clear hb hm hx0 hok h1 h2 h3 HIO HGET v1 v2 v3 v4 e1 hy
        go_enter Try.func44, Try.ntmps44
        go_wp2_with fail
        rw [← hW0]
        clear hW0
        refine HI1.out.mono ?_
        rintro e w1 ⟨b1, ab1, rfl, hx1, hi1, -, -⟩
        have HC := Lib.hid (HG1.out w1 b1 ab1 hi1)
        have HT1 := Lib.hid (HT.out.ext hx1)
        have HI2 := Lib.hid hi1
        have d1 := HT1.out.cell0
        have d2 := HT1.out.cell1
        have l1 := HT1.out.lt
        clear hi1
        go_wp2_with fail
        refine HC.out.mono ?_
        rintro e w2 ⟨rfl, hx2⟩
        have HC2 := Lib.hid (HG2.out w2 b1 ab1 (HI2.out.ext hx2))
        have HX2 := Lib.hid (hx1.trans hx2)
        clear d1 d2 l1
        have HT2 := Lib.hid (HT1.out.ext hx2)
        have d1 := HT2.out.cell0
        have d2 := HT2.out.cell1
        have l1 := HT2.out.lt
        clear hx1 hx2
        go_wp2_with fail
        refine HC2.out.mono ?_
        rintro e w3 ⟨rfl, hx3⟩
        obtain ⟨s0, s1, s2, s3, s4, s5, s6, s7, s8, HR⟩ := Res.store3 (.int .i64 0) (.int .i64 0) (.string ⟨#[]⟩) (HX0.out.trans (HX2.out.trans hx3)) (by omega) (HR3.out.ext (HX2.out.trans hx3))
        clear hx3 d1 d2 l1
        go_wp2
        exact bodyPost_ret (v := .tuple #[.agg #[.int .i64 0, .int .i64 0, .string ⟨#[]⟩], .bool false]) (by simp [results, Try.results44, go_sem, s6, s7, s8]) rfl ⟨rfl, HR.out⟩
  · obtain ⟨X, Y, rfl, rfl, hX, hY, h1, h2, h3, hbx, hat, hR⟩ := bAt_of hok
    rw [hR]
    have HI1 := Lib.hid (HIO.out true h1)
    obtain ⟨v1, v2, v3, v4, e1, -⟩ := picOk_spec h1
    have HGET : Hid (∀ w' b ab, Img w' b ab (picW ss) ss.length (picL ss) → ∀ (x y : Int) t, pxl (picW ss) ss.length (picL ss) x y = t → Calls Try.prog 109 #[.pointer (some ⟨b, 0, none⟩), .int .i64 x, .int .i64 y] w' fun e w'' => e = .returned (.bool t) ∧ w'.Ext w'') := fun w' b ab hI x y t ht => get_any b ab _ _ _ x y w' (by omega) (by omega) hI t ht
    have HG1 : Hid (∀ w' b ab, Img w' b ab (picW ss) ss.length (picL ss) → Calls Try.prog 109 #[.pointer (some ⟨b, 0, none⟩), .int .i64 X, .int .i64 Y] w' fun e w'' => e = .returned (.bool true) ∧ w'.Ext w'') := fun w' b ab hI => HGET.out w' b ab hI X Y true h2
    have HG2 : Hid (∀ w' b ab, Img w' b ab (picW ss) ss.length (picL ss) → Calls Try.prog 109 #[.pointer (some ⟨b, 0, none⟩), .int .i64 X, .int .i64 ((Y : Int) - 1)] w' fun e w'' => e = .returned (.bool false) ∧ w'.Ext w'') := fun w' b ab hI => HGET.out w' b ab hI X (Y - 1) false h3
    have HAR : Hid (∀ w' b ab, Img w' b ab (picW ss) ss.length (picL ss) → Calls Try.prog 134 #[.pointer (some ⟨b, 0, none⟩)] w' (BordsRet w' (bordA ss))) := fun w' b ab hI => borders_any b ab _ _ _ w' v4 v2 hI
    have HED : Hid (∀ (e : Edg) (pb : Nat) (w' : World), EOk (pxl (picW ss) ss.length (picL ss)) e → w'.cell? ⟨pb, 0, none⟩ = some (.int .i64 e.x) → w'.cell? ⟨pb, 1, none⟩ = some (.int .i64 e.y) → w'.cell? ⟨pb, 2, none⟩ = some (.string (wrd (pxl (picW ss) ss.length (picL ss)) e)) →
        Calls Try.prog 135 #[.pointer (some ⟨pb, 0, none⟩)] w' fun e' w'' => ∃ a c, e' = .returned (.tuple #[.slice a (edgsL (pxl (picW ss) ss.length (picL ss)) e (per (pxl (picW ss) ss.length (picL ss)) e)).length c, .bool true]) ∧ w'.Ext w'' ∧ OwnD w'.heap.size w''.heap.size w'' a (edgsL (pxl (picW ss) ss.length (picL ss)) e (per (pxl (picW ss) ss.length (picL ss)) e))) := fun e pb w' he c0 c1 c2 => edges_any pb _ e w' hbx he c0 c1 c2
    have HAY : Hid (∀ e : Edg, ((edgsL (pxl (picW ss) ss.length (picL ss)) e (per (pxl (picW ss) ss.length (picL ss)) e)).any fun d => decide (d = ((X : Int), (Y : Int), ((0 : Nat) : Int)))) = inOrb (pxl (picW ss) ss.length (picL ss)) e ⟨(X : Int), (Y : Int), 0⟩) := fun e => edgs_any _ e ⟨(X : Int), (Y : Int), 0⟩
    have HLN : Hid (∀ e : Edg, EOk (pxl (picW ss) ss.length (picL ss)) e → (edgsL (pxl (picW ss) ss.length (picL ss)) e (per (pxl (picW ss) ss.length (picL ss)) e)).length ≤ 1200) := fun e he => by rw [edgsL_len]; exact (per_of hbx (Nat.le_refl _) (Nat.le_refl _) he).2
    have HAT := Lib.hid hat
    have hlt := hat.lt
    have hfew := hat.few
    clear hb hm hx0 hok h1 h2 h3 HIO HGET hbx hat hR v1 v2 v3 v4 e1
    generalize bAtI ss X Y = i0 at *
    generalize bordA ss = bs at *
    generalize pxl (picW ss) ss.length (picL ss) = f at *
    have hX0 : (0 : Int) ≤ (X : Int) := by omega
    have hY0 : (0 : Int) ≤ (Y : Int) := by omega
    have hX1 : (X : Int) < 16 := by omega
    have hY1 : (Y : Int) < 16 := by omega
    go_enter Try.func44, Try.ntmps44
    go_wp2_with fail
    rw [← hW0]
    clear hW0
    refine HI1.out.mono ?_
    rintro e w1 ⟨b1, ab1, rfl, hx1, hi1, -, -⟩
    have HC := Lib.hid (HG1.out w1 b1 ab1 hi1)
    have HT1 := Lib.hid (HT.out.ext hx1)
    have HI2 := Lib.hid hi1
    have d1 := HT1.out.cell0
    have d2 := HT1.out.cell1
    have l1 := HT1.out.lt
    clear hi1
    go_wp2_with fail
    refine HC.out.mono ?_
    rintro e w2 ⟨rfl, hx2⟩
    have HC2 := Lib.hid (HG2.out w2 b1 ab1 (HI2.out.ext hx2))
    have HX2 := Lib.hid (hx1.trans hx2)
    have HI3 := Lib.hid (HI2.out.ext hx2)
    have HT2 := Lib.hid (HT1.out.ext hx2)
    clear d1 d2 l1
    have d1 := HT2.out.cell0
    have d2 := HT2.out.cell1
    have l1 := HT2.out.lt
    clear hx1 hx2
    go_wp2_with fail
    refine HC2.out.mono ?_
    rintro e w3 ⟨rfl, hx3⟩
    have HC3 := Lib.hid (HAR.out w3 b1 ab1 (HI3.out.ext hx3))
    have HX3 := Lib.hid (HX2.out.trans hx3)
    clear hx3 d1 d2 l1
    go_wp2_with fail
    refine HC3.out.mono ?_
    rintro e w4 ⟨a4, c4, rfl, hx4, ho4⟩
    have HROW := Lib.hid ho4.row
    have HX4 := Lib.hid (HX3.out.trans hx4)
    clear hx4 ho4 HX3 HX2 HC HC2 HC3 HI1 HI2 HI3 HT1 HT2 HG1 HG2 HAR
    go_wp2
    go_loopw [9, 10, 11, 41] (fun _ _ _ z wr => ∃ i : Nat, i ≤ i0 ∧ z = .int .i64 i ∧ Hid (w4.Ext wr)) (fun _ _ _ z _ => bs.length - (intOf z).toNat)
    case atStart => exact ⟨0, Nat.zero_le _, rfl, .refl _⟩
    case round =>
      obtain ⟨i, hi, rfl, HX⟩ := hrel
      obtain ⟨wo, rfl⟩ : ∃ wo : World, wo = wr := ⟨_, rfl⟩
      have hin : i < bs.length := by omega
      have hin' : (i : Int) < (bs.length : Int) := by omega
      have hi0 : (0 : Int) ≤ (i : Int) := by omega
      obtain ⟨e, he, hbd, hno, hyes⟩ := HAT.out.at_ i hin
      obtain ⟨b6, o6, rfl, r0, r1, r2⟩ := (HROW.out.ext HX.out) i hin
      rw [hbd] at r0 r1 r2
      dsimp only at r0 r1 r2
      have lr := World.block_lt_of_cell? _ _ r0
      obtain ⟨W5, hW5⟩ : ∃ W5, W5 = wo.alloc (.cells #[.int .i64 e.x, .int .i64 e.y, .string (wrd f e)] 69) := ⟨_, rfl⟩
      have hx5 : wo.Ext W5 := by rw [hW5]; repeat (first | exact World.Ext.refl _ | exact ⟨_, rfl⟩ | assumption | refine World.Ext.over ?_ _ | refine World.Ext.drewN ?_ _ | refine World.Ext.drew ?_ | refine World.Ext.alloc ?_ _ | refine World.Ext.setCell ?_ (by simp) _)
      have HTR : Hid (Tri W5 wo.heap.size 69 (.int .i64 e.x) (.int .i64 e.y) (.string (wrd f e))) := by rw [hW5]; exact Tri.new _ _ _ _ _ _ rfl
      have HX5 := Lib.hid (HX.out.trans hx5)
      have HC5 := Lib.hid (HED.out e wo.heap.size W5 he HTR.out.cell0 HTR.out.cell1 HTR.out.cell2)
      have hlen := HLN.out e he
      have hay := HAY.out e
      have HBD := Lib.hid hbd
      have HNO := Lib.hid hno
      have HYES := Lib.hid hyes
      clear hbd hno hyes
      generalize edgsL f e (per f e) = ds at *
      generalize inOrb f e ⟨(X : Int), (Y : Int), 0⟩ = hit at *
      generalize e.x = ex at *
      generalize e.y = ey at *
      generalize wrd f e = word at *
      go_wp2_with fail
      rw [← hW5]
      clear hW5 r0 r1 r2 lr hx5
      refine HC5.out.mono ?_
      rintro e' w6 ⟨a6, c6, rfl, hx6, ho6⟩
      have HX6 := Lib.hid (HX5.out.trans hx6)
      have HT6 := Lib.hid (HT.out.ext (HX4.out.trans HX6.out))
      have HTR6 := Lib.hid (HTR.out.ext hx6)
      have HCO : Hid (Calls Try.prog 136 #[.slice a6 ds.length c6, .agg #[.int .i64 X, .int .i64 Y, .int .i64 0]] w6 fun e w' => e = .returned (.bool hit) ∧ w6.Ext w') := by
        have h := containsE_any a6 c6 ds ((X : Int), (Y : Int), ((0 : Nat) : Int)) w6 hlen ho6.row
        rw [hay] at h
        exact h
      have d1 := HT6.out.cell0
      have d2 := HT6.out.cell1
      have l1 := HT6.out.lt
      clear hx6 ho6 HC5 hay
      go_wp2_with fail
      refine HCO.out.mono ?_
      rintro e' w7 ⟨rfl, hx7⟩
      have HX7 := Lib.hid (HX6.out.trans hx7)
      have HTR7 := Lib.hid (HTR6.out.ext hx7)
      clear d1 d2 l1 hx7 HCO HX6 HTR6 HX5 HTR
      by_cases hii : i = i0
      · have hh := HYES.out hii
        subst hh
        have HBD2 : Hid (bs.getD i0 bd0 = (ex, ey, word)) := by show _ = _; rw [← hii]; exact HBD.out
        obtain ⟨s0, s1, s2, s3, s4, s5, s6, s7, s8, HR⟩ := Res.store3 (.int .i64 ex) (.int .i64 ey) (.string word) (HX0.out.trans (HX4.out.trans HX7.out)) (by omega) (HR3.out.ext (HX4.out.trans HX7.out))
        have t0 := HTR7.out.cell0
        have t1 := HTR7.out.cell1
        have t2 := HTR7.out.cell2
        have lt := HTR7.out.lt
        clear hii HTR7 HX7 HX HT6
        go_wp2
        exact bodyPost_ret (v := .tuple #[.agg #[.int .i64 ex, .int .i64 ey, .string word], .bool true]) (by simp [results, Try.results44, go_sem, s6, s7, s8]) rfl ⟨by rw [HBD2.out], HR.out⟩
      · have hh := HNO.out (by omega)
        subst hh
        clear HTR7 HX HT6
        go_wp2
        go_roundw
        case rel => exact ⟨i + 1, by omega, by go_num, HX7⟩
        case measure => simp [intOf]; omega
end Go.Proofs.Ytahhnjoeaodcjaa
