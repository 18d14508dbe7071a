/- FnFitting: eroded, dilated, hit or missed: as each pixel tells. -/
import Derived.Test.YtlcofjicpbbdhaaGenF
namespace Go.Proofs.Ytlcofjicpbbdhaa
open Go Go.RowKit
theorem pxl_mkl {W H : Nat} {g : Nat → Nat → Bool} {x y : Nat} (hx : x < W) (hy : y < H) : pxl W H (mkl W H g) x y = g x y := by
  have h1 : inB (x : Int) 0 ((W : Int) - 1) = true := inB_true.2 (by omega)
  have h2 : inB (y : Int) 0 ((H : Int) - 1) = true := inB_true.2 (by omega)
  unfold pxl
  rw [h1, h2, Bool.true_and, Bool.true_and, ← Int.natCast_mul, ← Int.natCast_add, Int.toNat_natCast, mkl_at W H g x y hx hy]
set_option maxRecDepth 5000 in
set_option maxHeartbeats 800000 in
theorem fitsAt_any (a : Option Addr) (c : Nat) (ss : List ByteArray) (ae : Option Addr) (ce : Nat) (os : List (Int × Int)) (x y : Nat) (w : World) (hb : PicBnd ss) (hok : picOk ss = true) (hoe : elemOk os = true) (hx : x ≤ 16) (hy : y ≤ 16) (hm : RowS w a ss) (hme : RowP w ae os) :
    Calls Try.prog 37 #[.agg #[.slice a ss.length c], .agg #[.slice ae os.length ce], .agg #[.int .i64 x, .int .i64 y]] w fun e w' => e = .returned (.bool (fitsB (picW ss) ss.length (picL ss) os x y)) ∧ w.Ext w' := by
  obtain ⟨W0, hW0⟩ : ∃ W0, W0 = ((w.alloc (.cells #[.slice a ss.length c] 26)).alloc (.cells #[.slice ae os.length ce] 44)).alloc (.cells #[.int .i64 x, .int .i64 y] 36) := ⟨_, rfl⟩
  have hx0 : w.Ext W0 := by rw [hW0]; repeat (first | exact World.Ext.refl _ | exact ⟨_, rfl⟩ | assumption | refine World.Ext.over ?_ _ | refine World.Ext.drewN ?_ _ | refine World.Ext.drew ?_ | refine World.Ext.alloc ?_ _ | refine World.Ext.setCell ?_ (by simp) _)
  have d1 : W0.cell? ⟨w.heap.size + 1, 0, none⟩ = some (.slice ae os.length ce) := by rw [hW0]; simp [go_sem]
  have d2 : W0.cell? ⟨w.heap.size + 1 + 1, 0, none⟩ = some (.int .i64 x) := by rw [hW0]; simp [go_sem]
  have d3 : W0.cell? ⟨w.heap.size + 1 + 1, 1, none⟩ = some (.int .i64 y) := by rw [hW0]; simp [go_sem]
  have HD : Hid (∀ w', W0.Ext w' → w'.cell? ⟨w.heap.size + 1, 0, none⟩ = some (.slice ae os.length ce) ∧ w'.cell? ⟨w.heap.size + 1 + 1, 0, none⟩ = some (.int .i64 x) ∧ w'.cell? ⟨w.heap.size + 1 + 1, 1, none⟩ = some (.int .i64 y)) := fun w' h => ⟨h.cell d1, h.cell d2, h.cell d3⟩
  obtain ⟨v1, v2, v3, v4, v5, -⟩ := picOk_spec hok
  obtain ⟨e1, e2, e3⟩ := elemOk_spec hoe
  have HI := Lib.hid (imageOf_any a c ss W0 hb.1 hb.2 (RowOf.ext hm hx0) true hok)
  have HV := Lib.hid (fun w' (h : W0.Ext w') => validElement_any ae ce os w' (by omega) (RowP.ext (RowP.ext hme hx0) h) true hoe)
  have HIN : Hid (∀ w' (z : Nat), z ≤ 16 → Calls Try.prog 116 #[.int .i64 z, .int .i64 (-16), .int .i64 32] w' fun e w'' => e = .returned (.bool true) ∧ w'.Ext w'') := fun w' z hz => in_any _ _ _ w' true (inB_true.2 (by omega))
  have HFI : Hid (∀ w' b ab, W0.Ext w' → Img w' b ab (picW ss) ss.length (picL ss) → Calls Try.prog 113 #[.pointer (some ⟨b, 0, none⟩), .slice ae os.length ce, .int .i64 x, .int .i64 y] w' fun e w'' => e = .returned (.bool (fitsB (picW ss) ss.length (picL ss) os x y)) ∧ w'.Ext w'') := fun w' b ab h hI => fits_any b ab _ _ _ ae ce os x y w' (by omega) (by omega) hI (by omega) (RowP.ext (RowP.ext hme hx0) h) e3 (by omega) (by omega) _ rfl
  have HX0 := Lib.hid hx0
  clear hx0 d1 d2 d3 hb hok hoe v5 e3 hm hme
  generalize fitsB (picW ss) ss.length (picL ss) os x y = t at *
  go_enter Try.func37, Try.ntmps37
  go_wp2_with fail
  rw [← hW0]
  clear hW0
  refine HI.out.mono ?_
  intro e w1 h
  obtain ⟨b, ab, rfl, hx1, hI, -, -⟩ : ∃ b ab, e = .returned (.tuple #[.pointer (some ⟨b, 0, none⟩), .bool true]) ∧ W0.Ext w1 ∧ Img w1 b ab (picW ss) ss.length (picL ss) ∧ W0.heap.size ≤ b ∧ W0.heap.size ≤ ab := h
  have HI1 := Lib.hid hI
  have HX1 := Lib.hid hx1
  clear hx1 hI
  obtain ⟨d1, d2, d3⟩ := HD.out w1 HX1.out
  have l1 := World.block_lt_of_cell? _ _ d1
  go_wp2_with fail
  refine (HV.out w1 HX1.out).mono ?_
  rintro e w2 ⟨rfl, hx2⟩
  have HX2 := Lib.hid (HX1.out.trans hx2)
  have HI2 := Lib.hid (HI1.out.ext hx2)
  clear hx2 d1 d2 d3 l1 HX1 HI1
  obtain ⟨d1, d2, d3⟩ := HD.out w2 HX2.out
  have l1 := World.block_lt_of_cell? _ _ d2
  go_wp2_with fail
  refine (HIN.out w2 x hx).mono ?_
  rintro e w3 ⟨rfl, hx3⟩
  have HX3 := Lib.hid (HX2.out.trans hx3)
  have HI3 := Lib.hid (HI2.out.ext hx3)
  clear hx3 d1 d2 d3 l1 HX2 HI2
  obtain ⟨d1, d2, d3⟩ := HD.out w3 HX3.out
  go_wp2_with fail
  refine (HIN.out w3 y hy).mono ?_
  rintro e w4 ⟨rfl, hx4⟩
  have HX4 := Lib.hid (HX3.out.trans hx4)
  have HI4 := Lib.hid (HI3.out.ext hx4)
  clear hx4 d1 d2 d3 HX3 HI3
  obtain ⟨d1, d2, d3⟩ := HD.out w4 HX4.out
  go_wp2_with fail
  refine (HFI.out w4 b ab HX4.out HI4.out).mono ?_
  rintro e w5 ⟨rfl, hx5⟩
  have HX5 := Lib.hid (HX0.out.trans (HX4.out.trans hx5))
  clear hx5 d1 d2 d3 HI4 HX4
  go_wp2
  go_ret
  exact ⟨rfl, HX5.out⟩
theorem pic_bnd {ss : List ByteArray} (h : picOk ss = true) : PicBnd ss := by
  obtain ⟨v1, v2, v3, v4, v5, -⟩ := picOk_spec h
  refine ⟨by omega, fun y => ?_⟩
  by_cases hy : y < ss.length
  · rw [v5.2 y hy]; omega
  · rw [List.getD_eq_getElem?_getD, List.getElem?_eq_none (by omega)]; simp
theorem rowsIf_true {ss : List ByteArray} {ok : Bool} (h : ok = true) (g : Nat → Nat → Bool) : rowsIf ss ok g = picRows (picW ss) ss.length (mkl (picW ss) ss.length g) := by unfold rowsIf; rw [if_pos h]
/-- A picture that is made pixel by pixel. -/
theorem made_pic {ss : List ByteArray} (hok : picOk ss = true) (g : Nat → Nat → Bool) : PicOf (picW ss) ss.length (picRows (picW ss) ss.length (mkl (picW ss) ss.length g)) ∧
    ∀ x y : Nat, x < picW ss → y < ss.length → pxl (picW ss) ss.length (picL (picRows (picW ss) ss.length (mkl (picW ss) ss.length g))) x y = g x y := by
  obtain ⟨v1, v2, v3, v4, v5, -⟩ := picOk_spec hok
  have hl : (mkl (picW ss) ss.length g).length = picW ss * ss.length := by rw [mkl_len, Nat.mul_comm]
  exact ⟨⟨picOk_rows v3 v4 v1 v2 hl, picRows_len _ _ _, picW_rows v1 hl⟩, fun x y hx hy => by rw [picL_rows hl, pxl_mkl hx hy]⟩
theorem blackOf_any {W H : Nat} (R : List ByteArray) (hR : PicOf W H R) (g : Nat → Nat → Bool) (hg : ∀ x y : Nat, x < W → y < H → pxl W H (picL R) x y = g x y) (a : Option Addr) (c : Nat) (x y : Nat) (w : World) (hx : x < W) (hy : y < H) (hm : RowS w a R) :
    Calls Try.prog 36 #[.agg #[.slice a H c], .int .i64 x, .int .i64 y] w fun e w' => e = .returned (.bool (g x y)) ∧ w.Ext w' := by
  obtain ⟨h1, h2, h3⟩ := hR
  have h := b10Black_any a c R x y w h1 (pic_bnd h1) hm
  rw [h2, h3, hg x y hx hy] at h
  exact h
theorem getD_memP {os : List (Int × Int)} {k : Nat} (hk : k < os.length) : os.take (k + 1) = os.take k ++ [os.getD k (0, 0)] := by
  rw [List.take_succ_eq_append_getElem hk, List.getD_eq_getElem?_getD, List.getElem?_eq_getElem hk]
  rfl
theorem all_take {os : List (Int × Int)} {p : Int × Int → Bool} {k : Nat} (hk : k < os.length) : (os.take (k + 1)).all p = ((os.take k).all p && p (os.getD k (0, 0))) := by
  rw [getD_memP hk, List.all_append]
  simp
theorem any_take {os : List (Int × Int)} {p : Int × Int → Bool} {k : Nat} (hk : k < os.length) : (os.take (k + 1)).any p = ((os.take k).any p || p (os.getD k (0, 0))) := by
  rw [getD_memP hk, List.any_append]
  simp
set_option maxRecDepth 5000 in
set_option maxHeartbeats 3200000 in
theorem fnFitting_any (a : Option Addr) (c : Nat) (zs : List Int) (a2 : Option Addr) (c2 : Nat) (ys : List Int) (w : World) (h : CodeAt w a zs) (h2 : CodeAt w a2 ys) :
    Calls Try.prog 7 #[.slice a zs.length c, .slice a2 ys.length c2] w fun e w' => e = .returned (.bool true) ∧ w.Ext w' := by
  have HLO := Lib.hid (long_any a zs.length c a2 ys.length c2 w h.2.2 h2.2.2)
  have HP := Lib.hid (fun w' (hx : w.Ext w') => pic7_any a c zs w' (h.ext hx))
  have HE1 := Lib.hid (fun w' (hx : w.Ext w') => b10Element_any a2 c2 ys w' (h2.ext hx))
  have HE2 := Lib.hid (fun w' (hx : w.Ext w') => b10Element_any a c zs w' (h.ext hx))
  clear h h2
  go_enter Try.func7, Try.ntmps7
  have HWB : Hid (w.Ext w) := .refl _
  have HX : Hid (w.Ext w) := .refl _
  go_wp2_with fail
  refine (HLO.out).mono ?_
  rintro e v1 ⟨t, rfl, hx, -⟩
  have HX_ := Lib.hid (HX.out.trans hx)
  clear HX
  have HX := HX_
  clear HX_
  clear hx
  cases t
  rotate_left
  · go_wp2
    go_ret
    exact ⟨rfl, HX.out⟩
  go_wp2_with fail
  refine (HP.out v1 (HWB.out.trans HX.out)).mono ?_
  rintro e v2 ⟨pa, pc, ss, rfl, hpic, hx, hrow⟩
  have HX_ := Lib.hid (HX.out.trans hx)
  clear HX
  have HX := HX_
  clear HX_
  have HPIC := Lib.hid hpic
  have HROW := Lib.hid hrow.row
  clear hpic hrow
  clear hx
  obtain ⟨b2, hb2⟩ : ∃ b2, b2 = v2.alloc (.cells #[.slice pa ss.length pc] 26) := ⟨_, rfl⟩
  have hxb : v2.Ext b2 := by rw [hb2]; repeat (first | exact World.Ext.refl _ | exact ⟨_, rfl⟩ | assumption | refine World.Ext.over ?_ _ | refine World.Ext.drewN ?_ _ | refine World.Ext.drew ?_ | refine World.Ext.alloc ?_ _ | refine World.Ext.setCell ?_ (by simp) _)
  have c5_ : b2.cell? ⟨v2.heap.size, 0, none⟩ = some (.slice pa ss.length pc) := by rw [hb2]; simp [go_sem]
  have HALL_ : Hid (∀ w', b2.Ext w' → w'.cell? ⟨v2.heap.size, 0, none⟩ = some (.slice pa ss.length pc) ∧ RowS w' pa ss ∧ True) := fun w' hx' => ⟨hx'.cell c5_, RowOf.ext HROW.out (hxb.trans hx'), trivial⟩
  have HWB_ := Lib.hid (HWB.out.trans (HX.out.trans hxb))
  have HX_ : Hid (b2.Ext b2) := .refl _
  clear hxb c5_ HWB HX
  have HALL := HALL_
  have HWB := HWB_
  have HX := HX_
  clear HALL_ HWB_ HX_
  go_wp2_with fail
  rw [← hb2]
  clear hb2
  generalize v2.heap.size = q5 at *
  refine (HE1.out b2 (HWB.out.trans HX.out)).mono ?_
  rintro e v3 ⟨ao, co, os, rfl, hel, hne, hl4, hx, hrow⟩
  have HX_ := Lib.hid (HX.out.trans hx)
  clear HX
  have HX := HX_
  clear HX_
  have HEL6 := Lib.hid hel
  have HNE6 := Lib.hid hne
  have HRO6 := Lib.hid hrow
  clear hel hne hrow
  clear hx
  have hl6 := hl4
  clear hl4
  obtain ⟨b3, hb3⟩ : ∃ b3, b3 = v3.alloc (.cells #[.slice ao os.length co] 44) := ⟨_, rfl⟩
  have hxb : v3.Ext b3 := by rw [hb3]; repeat (first | exact World.Ext.refl _ | exact ⟨_, rfl⟩ | assumption | refine World.Ext.over ?_ _ | refine World.Ext.drewN ?_ _ | refine World.Ext.drew ?_ | refine World.Ext.alloc ?_ _ | refine World.Ext.setCell ?_ (by simp) _)
  have c6_ : b3.cell? ⟨v3.heap.size, 0, none⟩ = some (.slice ao os.length co) := by rw [hb3]; simp [go_sem]
  have HALL_ : Hid (∀ w', b3.Ext w' → w'.cell? ⟨q5, 0, none⟩ = some (.slice pa ss.length pc) ∧ RowS w' pa ss ∧ w'.cell? ⟨v3.heap.size, 0, none⟩ = some (.slice ao os.length co) ∧ RowP w' ao os ∧ True) := fun w' hx' => ⟨(HALL.out w' ((HX.out.trans hxb).trans hx')).1, (HALL.out w' ((HX.out.trans hxb).trans hx')).2.1, hx'.cell c6_, RowP.ext HRO6.out (hxb.trans hx'), trivial⟩
  have HWB_ := Lib.hid (HWB.out.trans (HX.out.trans hxb))
  have HX_ : Hid (b3.Ext b3) := .refl _
  clear hxb c6_ HWB HX HALL
  have HALL := HALL_
  have HWB := HWB_
  have HX := HX_
  clear HALL_ HWB_ HX_
  go_wp2_with fail
  rw [← hb3]
  clear hb3
  generalize v3.heap.size = q6 at *
  refine (HE2.out b3 (HWB.out.trans HX.out)).mono ?_
  rintro e v4 ⟨am, cm, ms, rfl, hel, hne, hl4, hx, hrow⟩
  have HX_ := Lib.hid (HX.out.trans hx)
  clear HX
  have HX := HX_
  clear HX_
  have HEL7 := Lib.hid hel
  have HNE7 := Lib.hid hne
  have HRO7 := Lib.hid hrow
  clear hel hne hrow
  clear hx
  have hl7 := hl4
  clear hl4
  obtain ⟨b4, hb4⟩ : ∃ b4, b4 = v4.alloc (.cells #[.slice am ms.length cm] 44) := ⟨_, rfl⟩
  have hxb : v4.Ext b4 := by rw [hb4]; repeat (first | exact World.Ext.refl _ | exact ⟨_, rfl⟩ | assumption | refine World.Ext.over ?_ _ | refine World.Ext.drewN ?_ _ | refine World.Ext.drew ?_ | refine World.Ext.alloc ?_ _ | refine World.Ext.setCell ?_ (by simp) _)
  have c7_ : b4.cell? ⟨v4.heap.size, 0, none⟩ = some (.slice am ms.length cm) := by rw [hb4]; simp [go_sem]
  have HALL_ : Hid (∀ w', b4.Ext w' → w'.cell? ⟨q5, 0, none⟩ = some (.slice pa ss.length pc) ∧ RowS w' pa ss ∧ w'.cell? ⟨q6, 0, none⟩ = some (.slice ao os.length co) ∧ RowP w' ao os ∧ w'.cell? ⟨v4.heap.size, 0, none⟩ = some (.slice am ms.length cm) ∧ RowP w' am ms ∧ True) := fun w' hx' => ⟨(HALL.out w' ((HX.out.trans hxb).trans hx')).1, (HALL.out w' ((HX.out.trans hxb).trans hx')).2.1, (HALL.out w' ((HX.out.trans hxb).trans hx')).2.2.1, (HALL.out w' ((HX.out.trans hxb).trans hx')).2.2.2.1, hx'.cell c7_, RowP.ext HRO7.out (hxb.trans hx'), trivial⟩
  have HWB_ := Lib.hid (HWB.out.trans (HX.out.trans hxb))
  have HX_ : Hid (b4.Ext b4) := .refl _
  clear hxb c7_ HWB HX HALL
  have HALL := HALL_
  have HWB := HWB_
  have HX := HX_
  clear HALL_ HWB_ HX_
  have HB := Lib.hid (pic_bnd HPIC.out.1)
  obtain ⟨g1, g2, g3, g4, g5, -⟩ := picOk_spec HPIC.out.1
  have g6 := HPIC.out.2.1
  have g7 := HPIC.out.2.2
  have HER : Hid (∀ w', RowS w' pa ss → RowP w' ao os → Calls Try.prog 32 #[.agg #[.slice pa ss.length pc], .agg #[.slice ao os.length co]] w' (PicRet2 w' (picRows (picW ss) ss.length (mkl (picW ss) ss.length fun x y => fitsB (picW ss) ss.length (picL ss) os x y)) true)) := fun w' h1 h2 => by
    have h := implErode_any pa pc ss ao co os w' HB.out (by show _ ≤ _; omega) h1 h2
    rw [HPIC.out.1, HEL6.out, Bool.true_and, rowsIf_true rfl] at h
    exact h
  have HDI : Hid (∀ w', RowS w' pa ss → RowP w' ao os → Calls Try.prog 33 #[.agg #[.slice pa ss.length pc], .agg #[.slice ao os.length co]] w' (PicRet2 w' (picRows (picW ss) ss.length (mkl (picW ss) ss.length fun x y => someB (picW ss) ss.length (picL ss) os x y)) true)) := fun w' h1 h2 => by
    have h := implDilate_any pa pc ss ao co os w' HB.out (by show _ ≤ _; omega) h1 h2
    rw [HPIC.out.1, HEL6.out, Bool.true_and, rowsIf_true rfl] at h
    exact h
  have HHM : Hid (∀ w', RowS w' pa ss → RowP w' ao os → RowP w' am ms → Calls Try.prog 34 #[.agg #[.slice pa ss.length pc], .agg #[.slice ao os.length co], .agg #[.slice am ms.length cm]] w' (PicRet2 w' (picRows (picW ss) ss.length (mkl (picW ss) ss.length fun x y => homB (picW ss) ss.length (picL ss) os ms x y)) true)) := fun w' h1 h2 h3 => by
    have h := implHitOrMiss_any pa pc ss ao co os am cm ms w' HB.out (by show _ ≤ _; omega) (by show _ ≤ _; omega) h1 h2 h3
    rw [show homOk ss os ms = true by unfold homOk; rw [HPIC.out.1, HEL6.out, HEL7.out]; rfl, rowsIf_true rfl] at h
    exact h
  go_upto_region 6 with fail
  rw [← hb4]
  clear hb4
  generalize v4.heap.size = q7 at *
  have c5 := (HALL.out b4 HX.out).1
  have lc5 := World.block_lt_of_cell? _ _ c5
  have c6 := (HALL.out b4 HX.out).2.2.1
  have lc6 := World.block_lt_of_cell? _ _ c6
  have c7 := (HALL.out b4 HX.out).2.2.2.2.1
  have lc7 := World.block_lt_of_cell? _ _ c7
  go_wp2_with fail
  refine (HER.out b4 (HALL.out b4 HX.out).2.1 (HALL.out b4 HX.out).2.2.2.1).mono ?_
  rintro e v5 ⟨aa, da, rfl, hx, ho⟩
  clear lc5 c5 lc6 c6 lc7 c7
  have HX_ := Lib.hid (HX.out.trans hx)
  clear HX
  have HX := HX_
  clear HX_
  have HOa := Lib.hid ho.row
  clear ho
  clear hx
  rw [picRows_len]
  obtain ⟨b5, hb5⟩ : ∃ b5, b5 = v5.alloc (.cells #[.slice aa ss.length da] 26) := ⟨_, rfl⟩
  have hxb : v5.Ext b5 := by rw [hb5]; repeat (first | exact World.Ext.refl _ | exact ⟨_, rfl⟩ | assumption | refine World.Ext.over ?_ _ | refine World.Ext.drewN ?_ _ | refine World.Ext.drew ?_ | refine World.Ext.alloc ?_ _ | refine World.Ext.setCell ?_ (by simp) _)
  have c8_ : b5.cell? ⟨v5.heap.size, 0, none⟩ = some (.slice aa ss.length da) := by rw [hb5]; simp [go_sem]
  have HALL_ : Hid (∀ w', b5.Ext w' → w'.cell? ⟨q5, 0, none⟩ = some (.slice pa ss.length pc) ∧ RowS w' pa ss ∧ w'.cell? ⟨q6, 0, none⟩ = some (.slice ao os.length co) ∧ RowP w' ao os ∧ w'.cell? ⟨q7, 0, none⟩ = some (.slice am ms.length cm) ∧ RowP w' am ms ∧ w'.cell? ⟨v5.heap.size, 0, none⟩ = some (.slice aa ss.length da) ∧ RowS w' aa (picRows (picW ss) ss.length (mkl (picW ss) ss.length fun x y => fitsB (picW ss) ss.length (picL ss) os x y)) ∧ True) := fun w' hx' => ⟨(HALL.out w' ((HX.out.trans hxb).trans hx')).1, (HALL.out w' ((HX.out.trans hxb).trans hx')).2.1, (HALL.out w' ((HX.out.trans hxb).trans hx')).2.2.1, (HALL.out w' ((HX.out.trans hxb).trans hx')).2.2.2.1, (HALL.out w' ((HX.out.trans hxb).trans hx')).2.2.2.2.1, (HALL.out w' ((HX.out.trans hxb).trans hx')).2.2.2.2.2.1, hx'.cell c8_, RowOf.ext HOa.out (hxb.trans hx'), trivial⟩
  have HWB_ := Lib.hid (HWB.out.trans (HX.out.trans hxb))
  have HX_ : Hid (b5.Ext b5) := .refl _
  clear hxb c8_ HWB HX HALL
  have HALL := HALL_
  have HWB := HWB_
  have HX := HX_
  clear HALL_ HWB_ HX_
  go_upto_region 7 with fail
  rw [← hb5]
  clear hb5
  generalize v5.heap.size = q8 at *
  have c5 := (HALL.out b5 HX.out).1
  have lc5 := World.block_lt_of_cell? _ _ c5
  have c6 := (HALL.out b5 HX.out).2.2.1
  have lc6 := World.block_lt_of_cell? _ _ c6
  have c7 := (HALL.out b5 HX.out).2.2.2.2.1
  have lc7 := World.block_lt_of_cell? _ _ c7
  go_wp2_with fail
  refine (HDI.out b5 (HALL.out b5 HX.out).2.1 (HALL.out b5 HX.out).2.2.2.1).mono ?_
  rintro e v6 ⟨ab, db, rfl, hx, ho⟩
  clear lc5 c5 lc6 c6 lc7 c7
  have HX_ := Lib.hid (HX.out.trans hx)
  clear HX
  have HX := HX_
  clear HX_
  have HOb := Lib.hid ho.row
  clear ho
  clear hx
  rw [picRows_len]
  obtain ⟨b6, hb6⟩ : ∃ b6, b6 = v6.alloc (.cells #[.slice ab ss.length db] 26) := ⟨_, rfl⟩
  have hxb : v6.Ext b6 := by rw [hb6]; repeat (first | exact World.Ext.refl _ | exact ⟨_, rfl⟩ | assumption | refine World.Ext.over ?_ _ | refine World.Ext.drewN ?_ _ | refine World.Ext.drew ?_ | refine World.Ext.alloc ?_ _ | refine World.Ext.setCell ?_ (by simp) _)
  have c10_ : b6.cell? ⟨v6.heap.size, 0, none⟩ = some (.slice ab ss.length db) := by rw [hb6]; simp [go_sem]
  have HALL_ : Hid (∀ w', b6.Ext w' → w'.cell? ⟨q5, 0, none⟩ = some (.slice pa ss.length pc) ∧ RowS w' pa ss ∧ w'.cell? ⟨q6, 0, none⟩ = some (.slice ao os.length co) ∧ RowP w' ao os ∧ w'.cell? ⟨q7, 0, none⟩ = some (.slice am ms.length cm) ∧ RowP w' am ms ∧ w'.cell? ⟨q8, 0, none⟩ = some (.slice aa ss.length da) ∧ RowS w' aa (picRows (picW ss) ss.length (mkl (picW ss) ss.length fun x y => fitsB (picW ss) ss.length (picL ss) os x y)) ∧ w'.cell? ⟨v6.heap.size, 0, none⟩ = some (.slice ab ss.length db) ∧ RowS w' ab (picRows (picW ss) ss.length (mkl (picW ss) ss.length fun x y => someB (picW ss) ss.length (picL ss) os x y)) ∧ True) := fun w' hx' => ⟨(HALL.out w' ((HX.out.trans hxb).trans hx')).1, (HALL.out w' ((HX.out.trans hxb).trans hx')).2.1, (HALL.out w' ((HX.out.trans hxb).trans hx')).2.2.1, (HALL.out w' ((HX.out.trans hxb).trans hx')).2.2.2.1, (HALL.out w' ((HX.out.trans hxb).trans hx')).2.2.2.2.1, (HALL.out w' ((HX.out.trans hxb).trans hx')).2.2.2.2.2.1, (HALL.out w' ((HX.out.trans hxb).trans hx')).2.2.2.2.2.2.1, (HALL.out w' ((HX.out.trans hxb).trans hx')).2.2.2.2.2.2.2.1, hx'.cell c10_, RowOf.ext HOb.out (hxb.trans hx'), trivial⟩
  have HWB_ := Lib.hid (HWB.out.trans (HX.out.trans hxb))
  have HX_ : Hid (b6.Ext b6) := .refl _
  clear hxb c10_ HWB HX HALL
  have HALL := HALL_
  have HWB := HWB_
  have HX := HX_
  clear HALL_ HWB_ HX_
  go_upto_region 8 with fail
  rw [← hb6]
  clear hb6
  generalize v6.heap.size = q10 at *
  have c5 := (HALL.out b6 HX.out).1
  have lc5 := World.block_lt_of_cell? _ _ c5
  have c6 := (HALL.out b6 HX.out).2.2.1
  have lc6 := World.block_lt_of_cell? _ _ c6
  have c7 := (HALL.out b6 HX.out).2.2.2.2.1
  have lc7 := World.block_lt_of_cell? _ _ c7
  go_wp2_with fail
  refine (HHM.out b6 (HALL.out b6 HX.out).2.1 (HALL.out b6 HX.out).2.2.2.1 (HALL.out b6 HX.out).2.2.2.2.2.1).mono ?_
  rintro e v7 ⟨ac, dc, rfl, hx, ho⟩
  clear lc5 c5 lc6 c6 lc7 c7
  have HX_ := Lib.hid (HX.out.trans hx)
  clear HX
  have HX := HX_
  clear HX_
  have HOc := Lib.hid ho.row
  clear ho
  clear hx
  rw [picRows_len]
  obtain ⟨b7, hb7⟩ : ∃ b7, b7 = v7.alloc (.cells #[.slice ac ss.length dc] 26) := ⟨_, rfl⟩
  have hxb : v7.Ext b7 := by rw [hb7]; repeat (first | exact World.Ext.refl _ | exact ⟨_, rfl⟩ | assumption | refine World.Ext.over ?_ _ | refine World.Ext.drewN ?_ _ | refine World.Ext.drew ?_ | refine World.Ext.alloc ?_ _ | refine World.Ext.setCell ?_ (by simp) _)
  have c12_ : b7.cell? ⟨v7.heap.size, 0, none⟩ = some (.slice ac ss.length dc) := by rw [hb7]; simp [go_sem]
  have HALL_ : Hid (∀ w', b7.Ext w' → w'.cell? ⟨q5, 0, none⟩ = some (.slice pa ss.length pc) ∧ RowS w' pa ss ∧ w'.cell? ⟨q6, 0, none⟩ = some (.slice ao os.length co) ∧ RowP w' ao os ∧ w'.cell? ⟨q7, 0, none⟩ = some (.slice am ms.length cm) ∧ RowP w' am ms ∧ w'.cell? ⟨q8, 0, none⟩ = some (.slice aa ss.length da) ∧ RowS w' aa (picRows (picW ss) ss.length (mkl (picW ss) ss.length fun x y => fitsB (picW ss) ss.length (picL ss) os x y)) ∧ w'.cell? ⟨q10, 0, none⟩ = some (.slice ab ss.length db) ∧ RowS w' ab (picRows (picW ss) ss.length (mkl (picW ss) ss.length fun x y => someB (picW ss) ss.length (picL ss) os x y)) ∧ w'.cell? ⟨v7.heap.size, 0, none⟩ = some (.slice ac ss.length dc) ∧ RowS w' ac (picRows (picW ss) ss.length (mkl (picW ss) ss.length fun x y => homB (picW ss) ss.length (picL ss) os ms x y)) ∧ True) := fun w' hx' => ⟨(HALL.out w' ((HX.out.trans hxb).trans hx')).1, (HALL.out w' ((HX.out.trans hxb).trans hx')).2.1, (HALL.out w' ((HX.out.trans hxb).trans hx')).2.2.1, (HALL.out w' ((HX.out.trans hxb).trans hx')).2.2.2.1, (HALL.out w' ((HX.out.trans hxb).trans hx')).2.2.2.2.1, (HALL.out w' ((HX.out.trans hxb).trans hx')).2.2.2.2.2.1, (HALL.out w' ((HX.out.trans hxb).trans hx')).2.2.2.2.2.2.1, (HALL.out w' ((HX.out.trans hxb).trans hx')).2.2.2.2.2.2.2.1, (HALL.out w' ((HX.out.trans hxb).trans hx')).2.2.2.2.2.2.2.2.1, (HALL.out w' ((HX.out.trans hxb).trans hx')).2.2.2.2.2.2.2.2.2.1, hx'.cell c12_, RowOf.ext HOc.out (hxb.trans hx'), trivial⟩
  have HWB_ := Lib.hid (HWB.out.trans (HX.out.trans hxb))
  have HX_ : Hid (b7.Ext b7) := .refl _
  clear hxb c12_ HWB HX HALL
  have HALL := HALL_
  have HWB := HWB_
  have HX := HX_
  clear HALL_ HWB_ HX_
  have HVE := Lib.hid (fun w' (h : RowP w' ao os) => validElement_any ao co os w' (by omega) h true HEL6.out)
  have HBK := Lib.hid (fun w' (x y : Int) (h : RowS w' pa ss) => b10Black_any pa pc ss x y w' HPIC.out.1 HB.out h)
  have HFA := Lib.hid (fun w' (x y : Nat) (hx : x ≤ 16) (hy : y ≤ 16) (h : RowS w' pa ss) (h2 : RowP w' ao os) => fitsAt_any pa pc ss ao co os x y w' HB.out HPIC.out.1 HEL6.out hx hy h h2)
  have HEVN := Lib.hid g5
  clear HER HDI HHM g5 HROW HRO6 HRO7 HOa HOb HOc
  go_upto_region 9 with fail
  rw [← hb7]
  clear hb7
  generalize v7.heap.size = q12 at *
  have c6 := (HALL.out b7 HX.out).2.2.1
  have lc6 := World.block_lt_of_cell? _ _ c6
  go_wp2_with fail
  refine (HVE.out b7 (HALL.out b7 HX.out).2.2.2.1).mono ?_
  rintro e v8 ⟨rfl, hx⟩
  clear lc6 c6
  have HX_ := Lib.hid (HX.out.trans hx)
  clear HX
  have HX := HX_
  clear HX_
  clear hx
  have c8 := (HALL.out v8 HX.out).2.2.2.2.2.2.1
  have lc8 := World.block_lt_of_cell? _ _ c8
  have c5 := (HALL.out v8 HX.out).1
  have lc5 := World.block_lt_of_cell? _ _ c5
  have hY1 : (0 : Int) < (ss.length : Int) := by omega
  go_wp2
  go_loopw [14] (fun i wr => ∃ y : Nat, y ≤ ss.length ∧ i = .int .i64 y ∧ Hid (b7.Ext wr)) (fun i _ => ss.length - (intOf i).toNat)
  case atStart => exact ⟨0, Nat.zero_le _, rfl, HX⟩
  case round =>
    clear HX c5 lc5 c8 lc8
    obtain ⟨y, hy, rfl, HX⟩ := hrel
    obtain ⟨wa, rfl⟩ : ∃ wa : World, wa = wr := ⟨_, rfl⟩
    have hy0 : (0 : Int) ≤ (y : Int) := by omega
    have c5 := (HALL.out wa HX.out).1
    have lc5 := World.block_lt_of_cell? _ _ c5
    by_cases hlty : y < ss.length
    · have hlty' : (y : Int) < (ss.length : Int) := by omega
      go_wp2
      go_loopw [15] (fun i wr => ∃ x : Nat, x ≤ picW ss ∧ i = .int .i64 x ∧ Hid (b7.Ext wr)) (fun i _ => picW ss - (intOf i).toNat)
      case atStart => exact ⟨0, Nat.zero_le _, rfl, HX⟩
      case round =>
        clear HX c5 lc5
        obtain ⟨x, hx, rfl, HX⟩ := hrel
        obtain ⟨wb, rfl⟩ : ∃ wb : World, wb = wr := ⟨_, rfl⟩
        have hx0 : (0 : Int) ≤ (x : Int) := by omega
        have c5 := (HALL.out wb HX.out).1
        have lc5 := World.block_lt_of_cell? _ _ c5
        obtain ⟨rb, ro, rfl, hrc⟩ := (RowOf.ext ((HALL.out wb HX.out).2.1) (World.Ext.refl wb)) 0 (show 0 < ss.length by omega)
        rw [Nat.add_zero] at hrc
        have hps : (ss.getD 0 ByteArray.empty).size = picW ss := rfl
        generalize ss.getD 0 ByteArray.empty = row0 at hrc hps
        by_cases hltx : x < picW ss
        · have hltx' : (x : Int) < (row0.size : Int) := by omega
          have HF0 : Hid ((os.take 0).all (fun o => pxl (picW ss) ss.length (picL ss) (x + o.1) (y + o.2)) = true ∧ (os.take 0).any (fun o => pxl (picW ss) ss.length (picL ss) (x - o.1) (y - o.2)) = false ∧ (ms.take 0).all (fun o => npxl (picW ss) ss.length (picL ss) (x + o.1) (y + o.2)) = true) := ⟨rfl, rfl, rfl⟩
          have HFN : Hid ((os.take os.length).all (fun o => pxl (picW ss) ss.length (picL ss) (x + o.1) (y + o.2)) = fitsB (picW ss) ss.length (picL ss) os x y ∧ (os.take os.length).any (fun o => pxl (picW ss) ss.length (picL ss) (x - o.1) (y - o.2)) = someB (picW ss) ss.length (picL ss) os x y ∧ (fitsB (picW ss) ss.length (picL ss) os x y && (ms.take ms.length).all (fun o => npxl (picW ss) ss.length (picL ss) (x + o.1) (y + o.2))) = homB (picW ss) ss.length (picL ss) os ms x y) := by
            rw [List.take_length, List.take_length]
            exact ⟨rfl, rfl, rfl⟩
          have HFS : Hid (∀ k, k < os.length → (os.take (k + 1)).all (fun o => pxl (picW ss) ss.length (picL ss) (x + o.1) (y + o.2)) = ((os.take k).all (fun o => pxl (picW ss) ss.length (picL ss) (x + o.1) (y + o.2)) && pxl (picW ss) ss.length (picL ss) (x + (os.getD k (0, 0)).1) (y + (os.getD k (0, 0)).2))) := fun k hk => all_take hk
          have HSS : Hid (∀ k, k < os.length → (os.take (k + 1)).any (fun o => pxl (picW ss) ss.length (picL ss) (x - o.1) (y - o.2)) = ((os.take k).any (fun o => pxl (picW ss) ss.length (picL ss) (x - o.1) (y - o.2)) || pxl (picW ss) ss.length (picL ss) (x - (os.getD k (0, 0)).1) (y - (os.getD k (0, 0)).2))) := fun k hk => any_take hk
          have HWS : Hid (∀ k, k < ms.length → (ms.take (k + 1)).all (fun o => npxl (picW ss) ss.length (picL ss) (x + o.1) (y + o.2)) = ((ms.take k).all (fun o => npxl (picW ss) ss.length (picL ss) (x + o.1) (y + o.2)) && npxl (picW ss) ss.length (picL ss) (x + (ms.getD k (0, 0)).1) (y + (ms.getD k (0, 0)).2))) := fun k hk => all_take hk
          have HA : Hid (∀ w', RowS w' aa (picRows (picW ss) ss.length (mkl (picW ss) ss.length fun x y => fitsB (picW ss) ss.length (picL ss) os x y)) → Calls Try.prog 36 #[.agg #[.slice aa ss.length da], .int .i64 x, .int .i64 y] w' fun e w'' => e = .returned (.bool (fitsB (picW ss) ss.length (picL ss) os x y)) ∧ w'.Ext w'') := fun w' h => blackOf_any _ (made_pic HPIC.out.1 _).1 _ (made_pic HPIC.out.1 _).2 aa da x y w' hltx hlty h
          have HB2 : Hid (∀ w', RowS w' ab (picRows (picW ss) ss.length (mkl (picW ss) ss.length fun x y => someB (picW ss) ss.length (picL ss) os x y)) → Calls Try.prog 36 #[.agg #[.slice ab ss.length db], .int .i64 x, .int .i64 y] w' fun e w'' => e = .returned (.bool (someB (picW ss) ss.length (picL ss) os x y)) ∧ w'.Ext w'') := fun w' h => blackOf_any _ (made_pic HPIC.out.1 _).1 _ (made_pic HPIC.out.1 _).2 ab db x y w' hltx hlty h
          have HC : Hid (∀ w', RowS w' ac (picRows (picW ss) ss.length (mkl (picW ss) ss.length fun x y => homB (picW ss) ss.length (picL ss) os ms x y)) → Calls Try.prog 36 #[.agg #[.slice ac ss.length dc], .int .i64 x, .int .i64 y] w' fun e w'' => e = .returned (.bool (homB (picW ss) ss.length (picL ss) os ms x y)) ∧ w'.Ext w'') := fun w' h => blackOf_any _ (made_pic HPIC.out.1 _).1 _ (made_pic HPIC.out.1 _).2 ac dc x y w' hltx hlty h
          have HFX := Lib.hid (fun w' h h2 => HFA.out w' x y (by omega) (by omega) h h2)
          have HLX : Hid (∀ w', b7.Ext w' → w.Ext w') := fun w' h => HWB.out.trans h
          generalize fitsB (picW ss) ss.length (picL ss) os x y = fB at *
          generalize someB (picW ss) ss.length (picL ss) os x y = sB at *
          generalize homB (picW ss) ss.length (picL ss) os ms x y = hB at *
          generalize hFf : (fun k => (os.take k).all (fun o => pxl (picW ss) ss.length (picL ss) (x + o.1) (y + o.2))) = Ff at *
          have hFf' : ∀ k, (os.take k).all (fun o => pxl (picW ss) ss.length (picL ss) (x + o.1) (y + o.2)) = Ff k := fun k => congrFun hFf k
          generalize hFs : (fun k => (os.take k).any (fun o => pxl (picW ss) ss.length (picL ss) (x - o.1) (y - o.2))) = Fs at *
          have hFs' : ∀ k, (os.take k).any (fun o => pxl (picW ss) ss.length (picL ss) (x - o.1) (y - o.2)) = Fs k := fun k => congrFun hFs k
          generalize hFw : (fun k => (ms.take k).all (fun o => npxl (picW ss) ss.length (picL ss) (x + o.1) (y + o.2))) = Fw at *
          have hFw' : ∀ k, (ms.take k).all (fun o => npxl (picW ss) ss.length (picL ss) (x + o.1) (y + o.2)) = Fw k := fun k => congrFun hFw k
          simp only [hFf', hFs', hFw'] at HF0 HFN HFS HSS HWS
          clear hFf hFs hFw hFf' hFs' hFw'
          have HPN : Hid (∀ u v : Int, npxl (picW ss) ss.length (picL ss) u v = !pxl (picW ss) ss.length (picL ss) u v) := fun u v => rfl
          go_wp2
          go_loopw [16, 17, 19] (fun f s i wr => ∃ k : Nat, k ≤ os.length ∧ i = .int .i64 k ∧ f = .bool (Ff k) ∧ s = .bool (Fs k) ∧ Hid (b7.Ext wr)) (fun _ _ i _ => os.length - (intOf i).toNat)
          case atStart => exact ⟨0, Nat.zero_le _, rfl, by rw [HF0.out.1], by rw [HF0.out.2.1], HX⟩
          case round =>
            clear HX c5 lc5 hrc
            obtain ⟨k, hk, rfl, rfl, rfl, HX⟩ := hrel
            obtain ⟨wk, rfl⟩ : ∃ wk : World, wk = wr := ⟨_, rfl⟩
            have hk0 : (0 : Int) ≤ (k : Int) := by omega
        
            by_cases hlt : k < os.length
            · have hlt' : (k : Int) < (os.length : Int) := by omega
              have c6 := (HALL.out wk HX.out).2.2.1
              have lc6 := World.block_lt_of_cell? _ _ c6
              have c5 := (HALL.out wk HX.out).1
              have lc5 := World.block_lt_of_cell? _ _ c5
              have hr5 := (HALL.out wk HX.out).2.1
              obtain ⟨eb, eo, rfl, e0, e1⟩ := RowP.at (HALL.out wk HX.out).2.2.2.1 hlt
              have hdm := HNE6.out _ (getD_mem hlt)
              obtain ⟨⟨dx, dy⟩, hd⟩ : ∃ d, os.getD k (0, 0) = d := ⟨_, rfl⟩
              rw [hd] at e0 e1 hdm
              dsimp only at e0 e1 hdm
              obtain ⟨m1, m2, m3, m4⟩ := hdm
              go_upto_region 23 with fail
              go_cut [16] (fun f wx => f = .bool (Ff (k + 1)) ∧ Hid (b7.Ext wx))
              case first =>
                have HSS1 := Lib.hid (HFS.out k hlt)
                rw [hd] at HSS1
                cases hf : Ff k
                · rw [hf] at HSS1
                  have HV := Lib.hid HSS1.out
                  clear hf HSS1
                  go_wp2_with fail
                  refine wp_region_over_lit (by kernel_rfl) (by kernel_rfl) ?_; (repeat (go_big_quiet_step (fail))); refine wpQuiet_nil ?_; rintro _ ⟨x1, rfl⟩
                  have HX2 : Hid (b7.Ext (wk.over x1)) := HX.out.trans ⟨x1, rfl⟩
                  clear lc6 c6 lc5 c5 e0 e1
                  go_wp2
                  go_meet
                  exact ⟨by rw [HV.out]; simp, HX2⟩
                · rw [hf] at HSS1
                  have HV := Lib.hid HSS1.out
                  clear hf HSS1
                  go_wp2_with fail
                  refine wp_region_over_lit (by kernel_rfl) (by kernel_rfl) ?_; (repeat (go_big_quiet_step ((go_at_call 36; exact Calls.over_of (HBK.out _ _ _ (RowOf.ext hr5 ⟨_, rfl⟩)))))); refine wpQuiet_nil ?_; rintro _ ⟨x1, rfl⟩
                  have HX2 : Hid (b7.Ext (wk.over x1)) := HX.out.trans ⟨x1, rfl⟩
                  clear lc6 c6 lc5 c5 e0 e1
                  go_wp2
                  go_meet
                  exact ⟨by rw [HV.out]; simp, HX2⟩
              case rest =>
                obtain ⟨wl, rfl⟩ : ∃ wl : World, wl = wc := ⟨_, rfl⟩
                obtain ⟨rfl, HX_⟩ := hcut
                clear HX c5 lc5 c6 lc6 e0 e1 hr5 hd m1 m2 m3 m4
                have HX := HX_
                clear HX_
                have c6 := (HALL.out wl HX.out).2.2.1
                have lc6 := World.block_lt_of_cell? _ _ c6
                have c5 := (HALL.out wl HX.out).1
                have lc5 := World.block_lt_of_cell? _ _ c5
                have hr5 := (HALL.out wl HX.out).2.1
                obtain ⟨eb2, eo2, ee, e0, e1⟩ := RowP.at (HALL.out wl HX.out).2.2.2.1 hlt
                have hdm := HNE6.out _ (getD_mem hlt)
                simp only [Option.some.injEq, Addr.mk.injEq, and_true] at ee
                obtain ⟨rfl, rfl⟩ := ee
                obtain ⟨⟨dx, dy⟩, hd⟩ : ∃ d, os.getD k (0, 0) = d := ⟨_, rfl⟩
                rw [hd] at e0 e1 hdm
                dsimp only at e0 e1 hdm
                obtain ⟨m1, m2, m3, m4⟩ := hdm
                have HSS1 := Lib.hid (HSS.out k hlt)
                rw [hd] at HSS1
                cases hf : Fs k
                · rw [hf] at HSS1
                  have HV := Lib.hid HSS1.out
                  clear hf HSS1
                  go_wp2_with fail
                  refine wp_region_over_lit (by kernel_rfl) (by kernel_rfl) ?_; (repeat (go_big_quiet_step ((go_at_call 36; exact Calls.over_of (HBK.out _ _ _ (RowOf.ext hr5 ⟨_, rfl⟩)))))); refine wpQuiet_nil ?_; rintro _ ⟨x1, rfl⟩
                  have HX2 : Hid (b7.Ext (wl.over x1)) := HX.out.trans ⟨x1, rfl⟩
                  clear lc6 c6 lc5 c5 e0 e1
                  go_wp2
                  go_roundw
                  case rel => exact ⟨k + 1, by omega, by go_num, rfl, by rw [HV.out]; simp, HX2⟩
                  case measure => simp [intOf]; omega
                · rw [hf] at HSS1
                  have HV := Lib.hid HSS1.out
                  clear hf HSS1
                  go_wp2_with fail
                  refine wp_region_over_lit (by kernel_rfl) (by kernel_rfl) ?_; (repeat (go_big_quiet_step (fail))); refine wpQuiet_nil ?_; rintro _ ⟨x1, rfl⟩
                  have HX2 : Hid (b7.Ext (wl.over x1)) := HX.out.trans ⟨x1, rfl⟩
                  clear lc6 c6 lc5 c5 e0 e1
                  go_wp2
                  go_roundw
                  case rel => exact ⟨k + 1, by omega, by go_num, rfl, by rw [HV.out]; simp, HX2⟩
                  case measure => simp [intOf]; omega
            · have hkk : k = os.length := by omega
              subst hkk
              rw [HFN.out.1, HFN.out.2.1]
              have hFN := HFN.out.2.2
              have HHB := Lib.hid hFN
              have HW0 := Lib.hid HF0.out.2.2
              clear hFN HFN HF0 HFS HSS
              have c6 := (HALL.out wk HX.out).2.2.1
              have lc6 := World.block_lt_of_cell? _ _ c6
              go_wp2
              go_loopw [18, 20] (fun f i wr => ∃ k : Nat, k ≤ ms.length ∧ i = .int .i64 k ∧ f = .bool (Fw k) ∧ Hid (b7.Ext wr)) (fun _ i _ => ms.length - (intOf i).toNat)
              case atStart => exact ⟨0, Nat.zero_le _, rfl, by rw [HW0.out], HX⟩
              case round =>
                clear HX c6 lc6
                obtain ⟨k, hk, rfl, rfl, HX⟩ := hrel
                obtain ⟨wn, rfl⟩ : ∃ wn : World, wn = wr := ⟨_, rfl⟩
                have hk0 : (0 : Int) ≤ (k : Int) := by omega
                by_cases hlt : k < ms.length
                · have hlt' : (k : Int) < (ms.length : Int) := by omega
                  have c7 := (HALL.out wn HX.out).2.2.2.2.1
                  have lc7 := World.block_lt_of_cell? _ _ c7
                  have c5 := (HALL.out wn HX.out).1
                  have lc5 := World.block_lt_of_cell? _ _ c5
                  have hr5 := (HALL.out wn HX.out).2.1
                  obtain ⟨eb, eo, rfl, e0, e1⟩ := RowP.at (HALL.out wn HX.out).2.2.2.2.2.1 hlt
                  have hdm := HNE7.out _ (getD_mem hlt)
                  obtain ⟨⟨dx, dy⟩, hd⟩ : ∃ d, ms.getD k (0, 0) = d := ⟨_, rfl⟩
                  rw [hd] at e0 e1 hdm
                  dsimp only at e0 e1 hdm
                  obtain ⟨m1, m2, m3, m4⟩ := hdm
                  have HSS1 := Lib.hid (HWS.out k hlt)
                  rw [hd] at HSS1
                  cases hf : Fw k
                  · rw [hf] at HSS1
                    have HV := Lib.hid HSS1.out
                    clear hf HSS1
                    go_wp2_with fail
                    refine wp_region_over_lit (by kernel_rfl) (by kernel_rfl) ?_; (repeat (go_big_quiet_step (fail))); refine wpQuiet_nil ?_; rintro _ ⟨x1, rfl⟩
                    have HX2 : Hid (b7.Ext (wn.over x1)) := HX.out.trans ⟨x1, rfl⟩
                    clear lc7 c7 lc5 c5 e0 e1
                    go_wp2
                    go_roundw
                    case rel => exact ⟨k + 1, by omega, by go_num, by rw [HV.out]; simp [HPN.out], HX2⟩
                    case measure => simp [intOf]; omega
                  · rw [hf] at HSS1
                    have HV := Lib.hid HSS1.out
                    clear hf HSS1
                    go_wp2_with fail
                    refine wp_region_over_lit (by kernel_rfl) (by kernel_rfl) ?_; (repeat (go_big_quiet_step ((go_at_call 36; exact Calls.over_of (HBK.out _ _ _ (RowOf.ext hr5 ⟨_, rfl⟩)))))); refine wpQuiet_nil ?_; rintro _ ⟨x1, rfl⟩
                    have HX2 : Hid (b7.Ext (wn.over x1)) := HX.out.trans ⟨x1, rfl⟩
                    clear lc7 c7 lc5 c5 e0 e1
                    go_wp2
                    go_roundw
                    case rel => exact ⟨k + 1, by omega, by go_num, by rw [HV.out]; simp [HPN.out], HX2⟩
                    case measure => simp [intOf]; omega
                · have hkk : k = ms.length := by omega
                  subst hkk
                  have c7 := (HALL.out wn HX.out).2.2.2.2.1
                  have lc7 := World.block_lt_of_cell? _ _ c7
                  have c5 := (HALL.out wn HX.out).1
                  have lc5 := World.block_lt_of_cell? _ _ c5
                  have c6 := (HALL.out wn HX.out).2.2.1
                  have lc6 := World.block_lt_of_cell? _ _ c6
                  have HW1 := Lib.hid ((HWB.out.trans HX.out))
                  have HRS := (HALL.out wn HX.out).2.1
                  have HRP := (HALL.out wn HX.out).2.2.2.1
                  cases hfb : fB
                  · rw [hfb] at HA HFX HHB
                    have HH := HHB.out
                    rw [Bool.false_and] at HH
                    clear hfb
                    subst HH
                    clear HHB
                    go_wp2_with fail
                    refine (HFX.out wn HRS HRP).mono ?_
                    rintro e wp ⟨rfl, hx⟩
                    have HX_ := Lib.hid (HX.out.trans hx)
                    clear HX hx c5 lc5 c6 lc6 c7 lc7
                    have HX := HX_
                    clear HX_
                    have c8 := (HALL.out wp HX.out).2.2.2.2.2.2.1
                    have lc8 := World.block_lt_of_cell? _ _ c8
                    go_wp2_with fail
                    refine (HA.out wp (HALL.out wp HX.out).2.2.2.2.2.2.2.1).mono ?_
                    rintro e wq ⟨rfl, hx⟩
                    have HX_ := Lib.hid (HX.out.trans hx)
                    clear HX hx c8 lc8
                    have HX := HX_
                    clear HX_
                    have c10 := (HALL.out wq HX.out).2.2.2.2.2.2.2.2.1
                    have lc10 := World.block_lt_of_cell? _ _ c10
                    go_wp2_with fail
                    refine (HB2.out wq (HALL.out wq HX.out).2.2.2.2.2.2.2.2.2.1).mono ?_
                    rintro e wu ⟨rfl, hx⟩
                    have HX_ := Lib.hid (HX.out.trans hx)
                    clear HX hx c10 lc10
                    have HX := HX_
                    clear HX_
                    have c12 := (HALL.out wu HX.out).2.2.2.2.2.2.2.2.2.2.1
                    have lc12 := World.block_lt_of_cell? _ _ c12
                    go_wp2_with fail
                    refine (HC.out wu (HALL.out wu HX.out).2.2.2.2.2.2.2.2.2.2.2.1).mono ?_
                    rintro e wv ⟨rfl, hx⟩
                    have HX_ := Lib.hid (HX.out.trans hx)
                    clear HX hx c12 lc12
                    have HX := HX_
                    clear HX_
                    go_wp2
                    go_roundw
                    case rel => exact ⟨x + 1, by omega, by go_num, HX⟩
                    case measure => simp [intOf]; omega
                  · rw [hfb] at HA HFX HHB
                    have HH := HHB.out
                    rw [Bool.true_and] at HH
                    clear hfb
                    rw [HH]
                    clear HH HHB
                    go_wp2_with fail
                    refine (HFX.out wn HRS HRP).mono ?_
                    rintro e wp ⟨rfl, hx⟩
                    have HX_ := Lib.hid (HX.out.trans hx)
                    clear HX hx c5 lc5 c6 lc6 c7 lc7
                    have HX := HX_
                    clear HX_
                    have c8 := (HALL.out wp HX.out).2.2.2.2.2.2.1
                    have lc8 := World.block_lt_of_cell? _ _ c8
                    go_wp2_with fail
                    refine (HA.out wp (HALL.out wp HX.out).2.2.2.2.2.2.2.1).mono ?_
                    rintro e wq ⟨rfl, hx⟩
                    have HX_ := Lib.hid (HX.out.trans hx)
                    clear HX hx c8 lc8
                    have HX := HX_
                    clear HX_
                    have c10 := (HALL.out wq HX.out).2.2.2.2.2.2.2.2.1
                    have lc10 := World.block_lt_of_cell? _ _ c10
                    go_wp2_with fail
                    refine (HB2.out wq (HALL.out wq HX.out).2.2.2.2.2.2.2.2.2.1).mono ?_
                    rintro e wu ⟨rfl, hx⟩
                    have HX_ := Lib.hid (HX.out.trans hx)
                    clear HX hx c10 lc10
                    have HX := HX_
                    clear HX_
                    have c12 := (HALL.out wu HX.out).2.2.2.2.2.2.2.2.2.2.1
                    have lc12 := World.block_lt_of_cell? _ _ c12
                    go_wp2_with fail
                    refine (HC.out wu (HALL.out wu HX.out).2.2.2.2.2.2.2.2.2.2.2.1).mono ?_
                    rintro e wv ⟨rfl, hx⟩
                    have HX_ := Lib.hid (HX.out.trans hx)
                    clear HX hx c12 lc12
                    have HX := HX_
                    clear HX_
                    go_wp2
                    go_roundw
                    case rel => exact ⟨x + 1, by omega, by go_num, HX⟩
                    case measure => simp [intOf]; omega
        · have hxe : ¬ (x : Int) < (row0.size : Int) := by omega
          go_wp2
          go_roundw
          case rel => exact ⟨y + 1, by omega, by go_num, HX⟩
          case measure => simp [intOf]; omega
    · have hye : ¬ (y : Int) < (ss.length : Int) := by omega
      have HFIN := Lib.hid ((HWB.out.trans HX.out))
      go_wp2
      go_ret
      exact ⟨rfl, HFIN.out⟩
end Go.Proofs.Ytlcofjicpbbdhaa
