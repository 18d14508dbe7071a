/- FnPeaks: what is left of the peaks comes back by reconstruction; a spot of a maximum has no greater neighbour. -/
import Derived.Test.YthgkmaccbcpaeaaGenT
import Derived.Test.YthgkmaccbcpaeaaPekP
import Derived.Test.YthgkmaccbcpaeaaCount
namespace Go.Proofs.Ythgkmaccbcpaeaa
open Go Go.RowKit
theorem grey_bndP {m : List (List Int)} {N : Int} (hok : tableOk m N = true) : MatBnd m := by
  obtain ⟨v1, v2, v3, v4, v5, v6⟩ := tableOk_spec hok
  refine ⟨by omega, fun r => ?_⟩
  by_cases hr : r < m.length
  · rw [v5 r hr]; omega
  · rw [List.getD_eq_getElem?_getD, List.getElem?_eq_none (by omega)]; simp
theorem pic_bndP {ss : List ByteArray} (h : picOk ss = true) : PicBnd ss := by
  obtain ⟨v1, v2, v3, v4, v5, -⟩ := picOk_spec h
  refine ⟨by omega, fun y => ?_⟩
  by_cases hy : y < ss.length
  · rw [v5.2 y hy]; omega
  · rw [List.getD_eq_getElem?_getD, List.getElem?_eq_none (by omega)]; simp
theorem nb4_spN {W x y : Nat} (hx : x < W) (u v : Int) (h : (u = x ∧ (v = (y : Int) - 1 ∨ v = (y : Int) + 1)) ∨ (v = y ∧ (u = (x : Int) - 1 ∨ u = (x : Int) + 1))) : (u, v) ∈ nbA false (spN W (y * W + x)) := by
  obtain ⟨e1, e2⟩ := mod_atI (W := W) (x := x) (y := y) hx
  unfold spN
  rw [e1, e2]
  unfold nbA
  have g : ∀ a b : Int, (a, b) ∈ arndL false → (x : Int) + a = u → (y : Int) + b = v → (u, v) ∈ (arndL false).map fun o => ((x : Int) + o.1, (y : Int) + o.2) := fun a b hm h1 h2 => List.mem_map.2 ⟨(a, b), hm, by rw [h1, h2]⟩
  rcases h with ⟨h1, h2 | h2⟩ | ⟨h1, h2 | h2⟩
  · exact g 0 (-1) (by decide) (by omega) (by omega)
  · exact g 0 1 (by decide) (by omega) (by omega)
  · exact g (-1) 0 (by decide) (by omega) (by omega)
  · exact g 1 0 (by decide) (by omega) (by omega)
/-- A black spot of the maxima has no greater neighbour. -/
theorem max_nb {m : List (List Int)} (hok : tableOk m 99 = true) {x y x' y' : Nat} (hx : x < (m.getD 0 []).length) (hy : y < m.length) (hx' : x' < (m.getD 0 []).length) (hy' : y' < m.length)
    (ha : ((x' : Int) = x ∧ ((y' : Int) = (y : Int) - 1 ∨ (y' : Int) = (y : Int) + 1)) ∨ ((y' : Int) = y ∧ ((x' : Int) = (x : Int) - 1 ∨ (x' : Int) = (x : Int) + 1)))
    (hb : (maxL (m.getD 0 []).length m.length m.flatten).getD (y * (m.getD 0 []).length + x) false = true) : ¬ (m.getD y []).getD x 0 < (m.getD y' []).getD x' 0 := by
  obtain ⟨v1, v2, v3, v4, v5, v6⟩ := tableOk_spec hok
  intro hlt
  unfold maxL at hb
  rw [mkl_at _ _ _ x y hx hy] at hb
  have b1 := Nat.mul_le_mul_right (m.getD 0 []).length (show y + 1 ≤ m.length by omega)
  have b2 := Nat.mul_le_mul_right (m.getD 0 []).length (show y' + 1 ≤ m.length by omega)
  rw [Nat.succ_mul] at b1 b2
  have e1 := flat_at (m.getD 0 []).length m y x v5 hy hx
  have e2 := flat_at (m.getD 0 []).length m y' x' v5 hy' hx'
  rw [← e1, ← e2] at hlt
  have hsp : spN (m.getD 0 []).length (y' * (m.getD 0 []).length + x') = ((x' : Int), (y' : Int)) := by
    obtain ⟨q1, q2⟩ := mod_atI (W := (m.getD 0 []).length) (x := x') (y := y') hx'
    unfold spN
    rw [q1, q2]
  have h := max_no (grL_table hok) (p := y * (m.getD 0 []).length + x) (q := y' * (m.getD 0 []).length + x') (by omega) (by omega) (by rw [hsp]; exact nb4_spN hx _ _ ha) hlt
  rw [decide_eq_true h] at hb
  cases hb
theorem max_pic {m : List (List Int)} (hok : tableOk m 99 = true) : picOk (maxR m) = true ∧ picW (maxR m) = (m.getD 0 []).length ∧ (maxR m).length = m.length ∧ picL (maxR m) = maxL (m.getD 0 []).length m.length m.flatten := by
  obtain ⟨v1, v2, v3, v4, v5, v6⟩ := tableOk_spec hok
  have hl : (maxL (m.getD 0 []).length m.length m.flatten).length = (m.getD 0 []).length * m.length := by rw [maxL_len, Nat.mul_comm]
  have e : maxR m = picRows (m.getD 0 []).length m.length (maxL (m.getD 0 []).length m.length m.flatten) := by unfold maxR; rw [if_pos hok]
  rw [e]
  exact ⟨picOk_rows v3 v4 v1 v2 hl, picW_rows (by omega) hl, picRows_len _ _ _, picL_rows hl⟩
theorem max_some {m : List (List Int)} (hok : tableOk m 99 = true) : 1 ≤ (spotsTo (picW (maxR m)) (picL (maxR m)) ((maxR m).length * picW (maxR m))).length := by
  obtain ⟨v1, v2, v3, v4, v5, v6⟩ := tableOk_spec hok
  obtain ⟨-, e2, e3, e4⟩ := max_pic hok
  rw [e2, e3, e4]
  obtain ⟨p, hp, hn⟩ := max_ex (grL_table hok) (Nat.mul_pos v1 v3)
  have hx : p % (m.getD 0 []).length < (m.getD 0 []).length := Nat.mod_lt _ (by omega)
  have hy : p / (m.getD 0 []).length < m.length := by rw [Nat.div_lt_iff_lt_mul (by omega)]; exact hp
  have he : p / (m.getD 0 []).length * (m.getD 0 []).length + p % (m.getD 0 []).length = p := by rw [Nat.mul_comm]; exact Nat.div_add_mod _ _
  have hb : (maxL (m.getD 0 []).length m.length m.flatten).getD p false = true := by
    have h := mkl_at (m.getD 0 []).length m.length (fun x y => !decide (lastIn (m.getD 0 []).length m.length m.flatten (nodeL (m.getD 0 []).length m.length m.flatten) (y * (m.getD 0 []).length + x) ∈ parT (m.getD 0 []).length m.length m.flatten (nodeL (m.getD 0 []).length m.length m.flatten))) _ _ hx hy
    rw [he] at h
    unfold maxL
    rw [h, decide_eq_false hn]
    rfl
  unfold spotsTo
  rw [List.length_map]
  exact List.length_pos_of_mem (List.mem_filter.2 ⟨List.mem_range.2 hp, hb⟩)
set_option maxHeartbeats 800000 in
theorem countBlack_any (a : Option Addr) (c : Nat) (ss : List ByteArray) (w : World) (hb : PicBnd ss) (hok : picOk ss = true) (hm : RowS w a ss) :
    Calls Try.prog 33 #[.agg #[.slice a ss.length c]] w fun e w' => e = .returned (.tuple #[.int .i64 (spotsTo (picW ss) (picL ss) (ss.length * picW ss)).length, .bool true]) ∧ w.Ext w' := by
  obtain ⟨W0, hW0⟩ : ∃ W0, W0 = w.alloc (.cells #[.slice a ss.length c] 26) := ⟨_, rfl⟩
  have hx0 : w.Ext W0 := by rw [hW0]; repeat (first | exact World.Ext.refl _ | exact ⟨_, rfl⟩ | assumption | refine World.Ext.over ?_ _ | refine World.Ext.drewN ?_ _ | refine World.Ext.drew ?_ | refine World.Ext.alloc ?_ _ | refine World.Ext.setCell ?_ (by simp) _)
  obtain ⟨v1, v2, v3, v4, v5, -⟩ := picOk_spec hok
  have HI := Lib.hid (imageOf_any a c ss W0 hb.1 hb.2 (RowOf.ext hm hx0) true hok)
  have HCN := Lib.hid (fun w' b ab (hI : Img w' b ab (picW ss) ss.length (picL ss)) => count_any b ab _ _ _ w' (by omega) (by omega) hI)
  have HX0 := Lib.hid hx0
  clear hb hok hm hx0 v1 v2 v3 v4 v5
  generalize (spotsTo (picW ss) (picL ss) (ss.length * picW ss)).length = n at *
  go_enter Try.func33, Try.ntmps33
  go_wp2_with fail
  rw [← hW0]
  clear hW0
  refine HI.out.mono ?_
  intro e w1 h
  obtain ⟨b, ab, rfl, hx1, hI, -, -⟩ : ∃ b ab, e = .returned (.tuple #[.pointer (some ⟨b, 0, none⟩), .bool true]) ∧ W0.Ext w1 ∧ Img w1 b ab (picW ss) ss.length (picL ss) ∧ W0.heap.size ≤ b ∧ W0.heap.size ≤ ab := h
  have HC := Lib.hid (HCN.out w1 b ab hI)
  have HX1 := Lib.hid (HX0.out.trans hx1)
  clear hx1 hI
  go_wp2_with fail
  refine HC.out.mono ?_
  rintro e w2 ⟨rfl, hx2⟩
  have HR := Lib.hid (HX1.out.trans hx2)
  clear hx2 HC
  go_wp2
  go_ret2
  exact ⟨rfl, HR.out⟩
set_option maxRecDepth 5000 in
set_option maxHeartbeats 32000000 in
theorem fnPeaks_any (a : Option Addr) (c : Nat) (zs : List Int) (a2 : Option Addr) (c2 : Nat) (ys : List Int) (w : World) (h : CodeAt w a zs) (h2 : CodeAt w a2 ys) :
    Calls Try.prog 8 #[.slice a zs.length c, .slice a2 ys.length c2] w fun e w' => e = .returned (.bool true) ∧ w.Ext w' := by
  have HLO := Lib.hid (long_any a zs.length c a2 ys.length c2 w h.2.2 h2.2.2)
  have HGR := Lib.hid (fun w' (hx : w.Ext w') => b10Grey_any a c zs w' (h.ext hx))
  have HAT := Lib.hid (fun w' (hx : w.Ext w') => b10At_any a2 c2 ys 0 7 w' (by omega) (h2.ext hx))
  clear h h2
  go_enter Try.func8, Try.ntmps8
  have HWB : Hid (w.Ext w) := .refl _
  have HX : Hid (w.Ext w) := .refl _
  go_wp2_with fail
  refine (HLO.out).mono ?_
  rintro e v1 ⟨t, rfl, hx, -⟩
  have HX_ := Lib.hid (HX.out.trans hx)
  clear HX
  have HX := HX_
  clear HX_
  clear hx
  cases t
  rotate_left
  · go_wp2
    go_ret
    exact ⟨rfl, HX.out⟩
  go_wp2_with fail
  refine (HGR.out v1 (HWB.out.trans HX.out)).mono ?_
  rintro e v2 ⟨ga, gc, GA, GC, m, rfl, hgt, hx, hrow⟩
  have HX_ := Lib.hid (HX.out.trans hx)
  clear HX
  have HX := HX_
  clear HX_
  have HGT := Lib.hid hgt
  have HROW := Lib.hid hrow.mat
  clear hgt hrow
  clear hx
  obtain ⟨b2, hb2⟩ : ∃ b2, b2 = v2.alloc (.cells #[.slice ga m.length gc] 84) := ⟨_, rfl⟩
  have hxb : v2.Ext b2 := by rw [hb2]; repeat (first | exact World.Ext.refl _ | exact ⟨_, rfl⟩ | assumption | refine World.Ext.over ?_ _ | refine World.Ext.drewN ?_ _ | refine World.Ext.drew ?_ | refine World.Ext.alloc ?_ _ | refine World.Ext.setCell ?_ (by simp) _)
  have c5_ : b2.cell? ⟨v2.heap.size, 0, none⟩ = some (.slice ga m.length gc) := by rw [hb2]; simp [go_sem]
  have HALL_ : Hid (∀ w', b2.Ext w' → w'.cell? ⟨v2.heap.size, 0, none⟩ = some (.slice ga m.length gc) ∧ MatAt w' ga GA GC m ∧ True) := fun w' hx' => ⟨hx'.cell c5_, HROW.out.ext (hxb.trans hx'), trivial⟩
  have HWB_ := Lib.hid (HWB.out.trans (HX.out.trans hxb))
  have HX_ : Hid (b2.Ext b2) := .refl _
  clear hxb c5_ HWB HX
  have HALL := HALL_
  have HWB := HWB_
  have HX := HX_
  clear HALL_ HWB_ HX_
  go_upto_region 4 with fail
  rw [← hb2]
  clear hb2
  generalize v2.heap.size = q5 at *
  go_wp2_with fail
  refine (HAT.out b2 (HWB.out.trans HX.out)).mono ?_
  rintro e v3 ⟨r, rfl, hx, r0, r1⟩
  have HX_ := Lib.hid (HX.out.trans hx)
  clear HX
  have HX := HX_
  clear HX_
  clear hx
  have hrb : 0 ≤ r ∧ r ≤ 6 := by omega
  have hok : tableOk m 99 = true := tableOk_more HGT.out.1 (by omega)
  obtain ⟨v1, v2, v3, v4, v5, v6⟩ := tableOk_spec hok
  obtain ⟨res, hres⟩ := CutO.ex m r
  have hcok : cutOk m r = true := by unfold cutOk; rw [hok, inB_true.2 (by omega)]; rfl
  obtain ⟨k1, k2, k3, k4⟩ := peak_rec hok hrb.1 (hres hcok)
  obtain ⟨p1, p2, p3, p4⟩ := max_pic hok
  have HCU : Hid (∀ w', MatAt w' ga GA GC m → Calls Try.prog 58 #[.agg #[.slice ga m.length gc], .int .i64 r] w' (GreyRet2 w' (grl (m.getD 0 []).length m.length res) true)) := fun w' h1 => by
    have h := implCut_any ga gc GA GC m r res hres w' (grey_bndP hok) h1
    rw [hcok] at h
    exact h
  have HRC : Hid (∀ (w' : World) (a7 : Option Addr) (c7 : Nat) (A7 : Nat → Option Addr) (C7 : Nat → Nat), MatAt w' a7 A7 C7 (grl (m.getD 0 []).length m.length res) → MatAt w' ga GA GC m → Calls Try.prog 59 #[.agg #[.slice a7 m.length c7], .agg #[.slice ga m.length gc]] w' (GreyRet2 w' (grl (m.getD 0 []).length m.length res) true)) := fun w' a7 c7 A7 C7 h1 h2 => by
    have h := implRecG_any a7 c7 A7 C7 _ ga gc GA GC m res k2 w' (grey_bndP k3) (grey_bndP hok) h1 h2
    rw [k1, grl_len] at h
    exact h
  have HMX : Hid (∀ w', MatAt w' ga GA GC m → Calls Try.prog 60 #[.agg #[.slice ga m.length gc]] w' (PicRet2 w' (maxR m) true)) := fun w' h1 => by
    have h := implMaximaOf_any ga gc GA GC m w' (grey_bndP hok) h1
    rw [hok] at h
    exact h
  have hms := max_some hok
  obtain ⟨nb, hnb⟩ : ∃ nb, nb = (spotsTo (picW (maxR m)) (picL (maxR m)) ((maxR m).length * picW (maxR m))).length := ⟨_, rfl⟩
  have HCB : Hid (∀ (w' : World) (a9 : Option Addr) (c9 : Nat), RowS w' a9 (maxR m) → Calls Try.prog 33 #[.agg #[.slice a9 m.length c9]] w' fun e w'' => e = .returned (.tuple #[.int .i64 (nb : Nat), .bool true]) ∧ w'.Ext w'') := fun w' a9 c9 h1 => by
    have h := countBlack_any a9 c9 (maxR m) w' (pic_bndP p1) p1 h1
    rw [← hnb, p3] at h
    exact h
  rw [← hnb] at hms
  have HBK : Hid (∀ (w' : World) (a9 : Option Addr) (c9 : Nat) (x y : Nat), x < (m.getD 0 []).length → y < m.length → RowS w' a9 (maxR m) → Calls Try.prog 20 #[.agg #[.slice a9 m.length c9], .int .i64 x, .int .i64 y] w' fun e w'' => e = .returned (.bool ((maxL (m.getD 0 []).length m.length m.flatten).getD (y * (m.getD 0 []).length + x) false)) ∧ w'.Ext w'') := fun w' a9 c9 x y hx hy h1 => by
    have h := b10Black_any a9 c9 (maxR m) x y w' p1 (pic_bndP p1) h1
    have e : pxl (picW (maxR m)) (maxR m).length (picL (maxR m)) x y = (maxL (m.getD 0 []).length m.length m.flatten).getD (y * (m.getD 0 []).length + x) false := by
      rw [p2, p3, p4]
      have q1 : inB (x : Int) 0 (((m.getD 0 []).length : Int) - 1) = true := inB_true.2 (by omega)
      have q2 : inB (y : Int) 0 ((m.length : Int) - 1) = true := inB_true.2 (by omega)
      unfold pxl
      rw [q1, q2, Bool.true_and, Bool.true_and, ← Int.natCast_mul, ← Int.natCast_add, Int.toNat_natCast]
    rw [e, p3] at h
    exact h
  have HNB : Hid (∀ x y x' y' : Nat, x < (m.getD 0 []).length → y < m.length → x' < (m.getD 0 []).length → y' < m.length → (((x' : Int) = x ∧ ((y' : Int) = (y : Int) - 1 ∨ (y' : Int) = (y : Int) + 1)) ∨ ((y' : Int) = y ∧ ((x' : Int) = (x : Int) - 1 ∨ (x' : Int) = (x : Int) + 1))) →
      (maxL (m.getD 0 []).length m.length m.flatten).getD (y * (m.getD 0 []).length + x) false = true → ¬ (m.getD y []).getD x 0 < (m.getD y' []).getD x' 0) := fun x y x' y' h1 h2 h3 h4 h5 h6 => max_nb hok h1 h2 h3 h4 h5 h6
  have HCL := Lib.hid k4
  have HRL := Lib.hid v5
  have HVB : Hid (∀ x y : Nat, x < (m.getD 0 []).length → y < m.length → 0 ≤ (m.getD y []).getD x 0 ∧ (m.getD y []).getD x 0 ≤ 99) := fun x y hx hy => v6 y x hy (by rw [v5 y hy]; exact hx)
  have HGL2 : Hid ((grl (m.getD 0 []).length m.length res).length = m.length) := grl_len _ _ _
  have HGR2 : Hid (∀ k, k < m.length → ((grl (m.getD 0 []).length m.length res).getD k []).length = (m.getD 0 []).length) := fun k hk => grl_row hk
  have HXL : Hid ((maxR m).length = m.length) := p3
  have hmp : 0 < m.length := v1
  have hml : m.length ≤ 16 := v2
  have hwl : (m.getD 0 []).length ≤ 16 := v4
  have HTB : Hid (∀ (w' : World) (x y : Option Addr) (cx cy : Nat) (A B : Nat → Option Addr) (C D : Nat → Nat), MatAt w' x A C (grl (m.getD 0 []).length m.length res) → MatAt w' y B D (grl (m.getD 0 []).length m.length res) → Calls Try.prog 61 #[.slice x m.length cx, .slice y m.length cy] w' fun e w'' => e = .returned (.bool true) ∧ w'.Ext w'') := fun w' x y cx cy A B C D h1 h2 => by
    have h := b10Tables_true x y cx cy A B C D (grl (m.getD 0 []).length m.length res) w' (by rw [grl_len]; omega) (by rw [grl_len]; exact hmp) (fun k => by
      by_cases hk : k < m.length
      · rw [grl_row hk]; omega
      · rw [List.getD_eq_getElem?_getD, List.getElem?_eq_none (by rw [grl_len]; omega)]; simp) h1 h2
    rw [grl_len] at h
    exact h
  have HSH : Hid (∀ (w' : World) (x : Option Addr) (cx : Nat) (A : Nat → Option Addr) (C : Nat → Nat), MatAt w' x A C (grl (m.getD 0 []).length m.length res) → MatAt w' ga GA GC m → Calls Try.prog 62 #[.slice x m.length cx, .slice ga m.length gc] w' fun e w'' => e = .returned (.bool true) ∧ w'.Ext w'') := fun w' x cx A C h1 h2 => by
    have h := b10Shape_true x ga cx gc A GA C GC (grl (m.getD 0 []).length m.length res) m w' (by rw [grl_len]; omega) (by rw [grl_len]; exact hmp) (grl_len _ _ _) (fun k hk => by rw [grl_len] at hk; rw [grl_row hk, v5 k hk]) h1 h2
    rw [grl_len] at h
    exact h
  clear hres hcok hok k1 k2 k3 k4 p1 p2 p3 p4 v1 v2 v3 v4 v5 v6 r0 r1 hnb
  generalize grl (m.getD 0 []).length m.length res = G at *
  generalize maxR m = X at *
  generalize maxL (m.getD 0 []).length m.length m.flatten = ml at *
  have c5 := (HALL.out v3 HX.out).1
  have lc5 := World.block_lt_of_cell? _ _ c5
  go_wp2_with fail
  refine (HCU.out v3 (HALL.out v3 HX.out).2.1).mono ?_
  rintro e v4 ⟨a7, c7, A7, C7, rfl, hx, ho⟩
  clear lc5 c5
  have HX_ := Lib.hid (HX.out.trans hx)
  clear HX
  have HX := HX_
  clear HX_
  have HO7 := Lib.hid ho.mat
  clear ho
  clear hx
  rw [HGL2.out]
  obtain ⟨b4, hb4⟩ : ∃ b4, b4 = v4.alloc (.cells #[.slice a7 m.length c7] 84) := ⟨_, rfl⟩
  have hxb : v4.Ext b4 := by rw [hb4]; repeat (first | exact World.Ext.refl _ | exact ⟨_, rfl⟩ | assumption | refine World.Ext.over ?_ _ | refine World.Ext.drewN ?_ _ | refine World.Ext.drew ?_ | refine World.Ext.alloc ?_ _ | refine World.Ext.setCell ?_ (by simp) _)
  have c7x_ : b4.cell? ⟨v4.heap.size, 0, none⟩ = some (.slice a7 m.length c7) := by rw [hb4]; simp [go_sem]
  have HALL_ : Hid (∀ w', b4.Ext w' → w'.cell? ⟨q5, 0, none⟩ = some (.slice ga m.length gc) ∧ MatAt w' ga GA GC m ∧ w'.cell? ⟨v4.heap.size, 0, none⟩ = some (.slice a7 m.length c7) ∧ MatAt w' a7 A7 C7 G ∧ True) := fun w' hx' => ⟨(HALL.out w' ((HX.out.trans hxb).trans hx')).1, (HALL.out w' ((HX.out.trans hxb).trans hx')).2.1, hx'.cell c7x_, HO7.out.ext (hxb.trans hx'), trivial⟩
  have HWB_ := Lib.hid (HWB.out.trans (HX.out.trans hxb))
  have HX_ : Hid (b4.Ext b4) := .refl _
  clear hxb c7x_ HWB HX HALL
  have HALL := HALL_
  have HWB := HWB_
  have HX := HX_
  clear HALL_ HWB_ HX_
  go_upto_region 6 with fail
  rw [← hb4]
  clear hb4
  generalize v4.heap.size = q7 at *
  have c5 := (HALL.out b4 HX.out).1
  have lc5 := World.block_lt_of_cell? _ _ c5
  have c7x := (HALL.out b4 HX.out).2.2.1
  have lc7x := World.block_lt_of_cell? _ _ c7x
  go_wp2_with fail
  refine (HRC.out b4 a7 c7 A7 C7 (HALL.out b4 HX.out).2.2.2.1 (HALL.out b4 HX.out).2.1).mono ?_
  rintro e v5 ⟨a9, c9, A9, C9, rfl, hx, ho⟩
  clear lc5 c5 lc7x c7x
  have HX_ := Lib.hid (HX.out.trans hx)
  clear HX
  have HX := HX_
  clear HX_
  have HO9 := Lib.hid ho.mat
  clear ho
  clear hx
  rw [HGL2.out]
  obtain ⟨b5, hb5⟩ : ∃ b5, b5 = v5.alloc (.cells #[.slice a9 m.length c9] 84) := ⟨_, rfl⟩
  have hxb : v5.Ext b5 := by rw [hb5]; repeat (first | exact World.Ext.refl _ | exact ⟨_, rfl⟩ | assumption | refine World.Ext.over ?_ _ | refine World.Ext.drewN ?_ _ | refine World.Ext.drew ?_ | refine World.Ext.alloc ?_ _ | refine World.Ext.setCell ?_ (by simp) _)
  have c9x_ : b5.cell? ⟨v5.heap.size, 0, none⟩ = some (.slice a9 m.length c9) := by rw [hb5]; simp [go_sem]
  have HALL_ : Hid (∀ w', b5.Ext w' → w'.cell? ⟨q5, 0, none⟩ = some (.slice ga m.length gc) ∧ MatAt w' ga GA GC m ∧ w'.cell? ⟨q7, 0, none⟩ = some (.slice a7 m.length c7) ∧ MatAt w' a7 A7 C7 G ∧ w'.cell? ⟨v5.heap.size, 0, none⟩ = some (.slice a9 m.length c9) ∧ MatAt w' a9 A9 C9 G ∧ True) := fun w' hx' => ⟨(HALL.out w' ((HX.out.trans hxb).trans hx')).1, (HALL.out w' ((HX.out.trans hxb).trans hx')).2.1, (HALL.out w' ((HX.out.trans hxb).trans hx')).2.2.1, (HALL.out w' ((HX.out.trans hxb).trans hx')).2.2.2.1, hx'.cell c9x_, HO9.out.ext (hxb.trans hx'), trivial⟩
  have HWB_ := Lib.hid (HWB.out.trans (HX.out.trans hxb))
  have HX_ : Hid (b5.Ext b5) := .refl _
  clear hxb c9x_ HWB HX HALL
  have HALL := HALL_
  have HWB := HWB_
  have HX := HX_
  clear HALL_ HWB_ HX_
  go_upto_region 7 with fail
  rw [← hb5]
  clear hb5
  generalize v5.heap.size = q9 at *
  have c5 := (HALL.out b5 HX.out).1
  have lc5 := World.block_lt_of_cell? _ _ c5
  go_wp2_with fail
  refine (HMX.out b5 (HALL.out b5 HX.out).2.1).mono ?_
  rintro e v6 ⟨a11, c11, rfl, hx, ho⟩
  clear lc5 c5
  have HX_ := Lib.hid (HX.out.trans hx)
  clear HX
  have HX := HX_
  clear HX_
  have HO11 := Lib.hid ho.row
  clear ho
  clear hx
  rw [HXL.out]
  obtain ⟨b6, hb6⟩ : ∃ b6, b6 = v6.alloc (.cells #[.slice a11 m.length c11] 26) := ⟨_, rfl⟩
  have hxb : v6.Ext b6 := by rw [hb6]; repeat (first | exact World.Ext.refl _ | exact ⟨_, rfl⟩ | assumption | refine World.Ext.over ?_ _ | refine World.Ext.drewN ?_ _ | refine World.Ext.drew ?_ | refine World.Ext.alloc ?_ _ | refine World.Ext.setCell ?_ (by simp) _)
  have c11x_ : b6.cell? ⟨v6.heap.size, 0, none⟩ = some (.slice a11 m.length c11) := by rw [hb6]; simp [go_sem]
  have HALL_ : Hid (∀ w', b6.Ext w' → w'.cell? ⟨q5, 0, none⟩ = some (.slice ga m.length gc) ∧ MatAt w' ga GA GC m ∧ w'.cell? ⟨q7, 0, none⟩ = some (.slice a7 m.length c7) ∧ MatAt w' a7 A7 C7 G ∧ w'.cell? ⟨q9, 0, none⟩ = some (.slice a9 m.length c9) ∧ MatAt w' a9 A9 C9 G ∧ w'.cell? ⟨v6.heap.size, 0, none⟩ = some (.slice a11 m.length c11) ∧ RowS w' a11 X ∧ True) := fun w' hx' => ⟨(HALL.out w' ((HX.out.trans hxb).trans hx')).1, (HALL.out w' ((HX.out.trans hxb).trans hx')).2.1, (HALL.out w' ((HX.out.trans hxb).trans hx')).2.2.1, (HALL.out w' ((HX.out.trans hxb).trans hx')).2.2.2.1, (HALL.out w' ((HX.out.trans hxb).trans hx')).2.2.2.2.1, (HALL.out w' ((HX.out.trans hxb).trans hx')).2.2.2.2.2.1, hx'.cell c11x_, RowOf.ext HO11.out (hxb.trans hx'), trivial⟩
  have HWB_ := Lib.hid (HWB.out.trans (HX.out.trans hxb))
  have HX_ : Hid (b6.Ext b6) := .refl _
  clear hxb c11x_ HWB HX HALL
  have HALL := HALL_
  have HWB := HWB_
  have HX := HX_
  clear HALL_ HWB_ HX_
  go_upto_region 8 with fail
  rw [← hb6]
  clear hb6
  generalize v6.heap.size = q11 at *
  have c11x := (HALL.out b6 HX.out).2.2.2.2.2.2.1
  have lc11x := World.block_lt_of_cell? _ _ c11x
  go_wp2_with fail
  refine (HCB.out b6 a11 c11 (HALL.out b6 HX.out).2.2.2.2.2.2.2.1).mono ?_
  rintro e v7 ⟨rfl, hx⟩
  clear lc11x c11x
  have HX_ := Lib.hid (HX.out.trans hx)
  clear HX
  have HX := HX_
  clear HX_
  clear hx
  have hnb1 : decide (nb < 1) = false := decide_eq_false (by omega)
  have hnb2 : nb ≠ 0 := by omega
  have c9x := (HALL.out v7 HX.out).2.2.2.2.1
  have lc9x := World.block_lt_of_cell? _ _ c9x
  have c7x := (HALL.out v7 HX.out).2.2.1
  have lc7x := World.block_lt_of_cell? _ _ c7x
  go_wp2_with fail
  refine (HTB.out v7 a9 a7 c9 c7 A9 A7 C9 C7 (HALL.out v7 HX.out).2.2.2.2.2.1 (HALL.out v7 HX.out).2.2.2.1).mono ?_
  rintro e v8 ⟨rfl, hx⟩
  clear lc9x c9x lc7x c7x
  have HX_ := Lib.hid (HX.out.trans hx)
  clear HX
  have HX := HX_
  clear HX_
  clear hx
  have c7x := (HALL.out v8 HX.out).2.2.1
  have lc7x := World.block_lt_of_cell? _ _ c7x
  have c5 := (HALL.out v8 HX.out).1
  have lc5 := World.block_lt_of_cell? _ _ c5
  go_wp2_with fail
  refine (HSH.out v8 a7 c7 A7 C7 (HALL.out v8 HX.out).2.2.2.1 (HALL.out v8 HX.out).2.1).mono ?_
  rintro e v9 ⟨rfl, hx⟩
  clear lc7x c7x lc5 c5
  have HX_ := Lib.hid (HX.out.trans hx)
  clear HX
  have HX := HX_
  clear HX_
  clear hx
  clear HCU HRC HMX HCB HTB HSH HO7 HO9 HO11 HROW HGT
  obtain ⟨⟨gb, go, rfl, -⟩, -⟩ := ((HALL.out v9 HX.out).2.1) 0 hmp
  obtain ⟨⟨hb, ho, rfl, -⟩, -⟩ := ((HALL.out v9 HX.out).2.2.2.1) 0 (by rw [HGL2.out]; exact hmp)
  obtain ⟨W, hW⟩ : ∃ W, W = (m.getD 0 []).length := ⟨_, rfl⟩
  rw [← hW] at HBK HNB HCL HRL HGR2 hwl HVB
  clear hW
  go_wp2
  go_loopw [15, 16, 17] (fun i _ _ wr => ∃ y : Nat, y ≤ m.length ∧ i = .int .i64 y ∧ Hid (b6.Ext wr)) (fun i _ _ _ => m.length - (intOf i).toNat)
  case atStart => exact ⟨0, Nat.zero_le _, rfl, HX⟩
  case round =>
    clear HX
    obtain ⟨y, hy, rfl, HX⟩ := hrel
    obtain ⟨wa, rfl⟩ : ∃ wa : World, wa = wr := ⟨_, rfl⟩
    have hy0 : (0 : Int) ≤ (y : Int) := by omega
    have c5 := (HALL.out wa HX.out).1
    have lc5 := World.block_lt_of_cell? _ _ c5
    by_cases hlty : y < m.length
    · have hlty' : (y : Int) < (m.length : Int) := by omega
      go_wp2
      go_loopw [16, 17] (fun i _ wr => ∃ x : Nat, x ≤ W ∧ i = .int .i64 x ∧ Hid (b6.Ext wr)) (fun i _ _ => W - (intOf i).toNat)
      case atStart => exact ⟨0, Nat.zero_le _, rfl, HX⟩
      case round =>
        clear HX c5 lc5
        obtain ⟨x, hx, rfl, HX⟩ := hrel
        obtain ⟨wb, rfl⟩ : ∃ wb : World, wb = wr := ⟨_, rfl⟩
        have hx0 : (0 : Int) ≤ (x : Int) := by omega
        have c5 := (HALL.out wb HX.out).1
        have lc5 := World.block_lt_of_cell? _ _ c5
        have c7x := (HALL.out wb HX.out).2.2.1
        have lc7x := World.block_lt_of_cell? _ _ c7x
        have c11x := (HALL.out wb HX.out).2.2.2.2.2.2.1
        have lc11x := World.block_lt_of_cell? _ _ c11x
        obtain ⟨⟨_, _, e, hcy⟩, hry⟩ := ((HALL.out wb HX.out).2.1) y hlty
        cases e
        rw [HRL.out y hlty] at hcy
        by_cases hltx : x < W
        · have hltx' : (x : Int) < (W : Int) := by omega
          obtain ⟨yb, yo, eA, hxy⟩ := hry x (by rw [HRL.out y hlty]; exact hltx)
          rw [eA] at hcy
          obtain ⟨⟨_, _, e, hc7⟩, hr7⟩ := ((HALL.out wb HX.out).2.2.2.1) y (by rw [HGL2.out]; exact hlty)
          cases e
          rw [HGR2.out y hlty] at hc7
          obtain ⟨zb, zo, e7, hx7⟩ := hr7 x (by rw [HGR2.out y hlty]; exact hltx)
          rw [e7] at hc7
          obtain ⟨f1, f2⟩ := HCL.out x y hltx hlty
          obtain ⟨f3, f4⟩ := HVB.out x y hltx hlty
          have HNX := Lib.hid (HNB.out x y)
          have HC := Lib.hid (HBK.out wb a11 c11 x y hltx hlty ((HALL.out wb HX.out).2.2.2.2.2.2.2.1))
          generalize ml.getD (y * W + x) false = B at *
          obtain ⟨v, hv⟩ : ∃ v, v = (m.getD y []).getD x 0 := ⟨_, rfl⟩
          rw [← hv] at hxy f1 f2 f3 f4 HNX
          generalize (G.getD y []).getD x 0 = cv at *
          have g1 : decide (v < cv) = false := decide_eq_false (by omega)
          have g2 : decide (cv < v - r) = false := decide_eq_false (by omega)
          clear hv hr7 e7
          go_wp2_with fail
          refine HC.out.mono ?_
          rintro e w1 ⟨rfl, hx1⟩
          have HX1 := Lib.hid (HX.out.trans hx1)
          clear HX HC c7x lc7x c11x lc11x hc7 hx7 g1 g2 f1 f2
          cases B
          · clear hx1 HNX hry
            go_wp2
            go_roundw
            case rel => exact ⟨x + 1, by omega, by go_num, HX1⟩
            case measure => simp [intOf]; omega
        
          · as_aux_lemma =>
            have HR5 := Lib.hid ((HALL.out w1 HX1.out).2.1)
            have hcy1 := hx1.cell hcy
            have hry1 := fun i hi => hry i hi
            have c5 := (HALL.out w1 HX1.out).1
            have lc5 := World.block_lt_of_cell? _ _ c5
            rw [HRL.out y hlty] at hry1
            clear hcy hxy
            by_cases hA : 0 < x
            · have pA : (0 : Int) < (x : Int) := by omega
              obtain ⟨_, _, eL, hL⟩ := hry1 (x - 1) (by omega)
              rw [eA] at eL
              cases eL
              have hL1 := hx1.cell hL
              have gA := HNX.out (x - 1) y hltx hlty (by omega) hlty (.inr ⟨rfl, .inl (by omega)⟩) rfl
              generalize (m.getD y []).getD (x - 1) 0 = lv at *
              have iA1 : (0 : Int) ≤ (x : Int) - 1 := by omega
              have iA2 : (x : Int) - 1 < (W : Int) := by omega
              have iA3 : ((x : Int) - 1).toNat = x - 1 := by omega
              clear hL
              by_cases hB : 0 < y
              · have pB : (0 : Int) < (y : Int) := by omega
                obtain ⟨⟨_, _, eU, hcU⟩, hrU⟩ := HR5.out (y - 1) (by omega)
                cases eU
                rw [HRL.out (y - 1) (by omega)] at hcU
                obtain ⟨ub, uo, eU2, hU⟩ := hrU x (by rw [HRL.out (y - 1) (by omega)]; exact hltx)
                rw [eU2] at hcU
                have gB := HNX.out x (y - 1) hltx hlty hltx (by omega) (.inl ⟨rfl, .inl (by omega)⟩) rfl
                generalize (m.getD (y - 1) []).getD x 0 = uv at *
                have iB1 : (0 : Int) ≤ (y : Int) - 1 := by omega
                have iB2 : (y : Int) - 1 < (m.length : Int) := by omega
                have iB3 : ((y : Int) - 1).toNat = y - 1 := by omega
                clear hrU eU2
                by_cases hC : x + 1 < W
                · have pC : (x : Int) + 1 < (W : Int) := by omega
                  obtain ⟨_, _, eR, hR⟩ := hry1 (x + 1) (by omega)
                  rw [eA] at eR
                  cases eR
                  have hR1 := hx1.cell hR
                  have gC := HNX.out (x + 1) y hltx hlty (by omega) hlty (.inr ⟨rfl, .inr (by omega)⟩) rfl
                  generalize (m.getD y []).getD (x + 1) 0 = rv at *
                  have iC1 : (0 : Int) ≤ (x : Int) + 1 := by omega
                  have iC3 : ((x : Int) + 1).toNat = x + 1 := by omega
                  clear hR
                  by_cases hD : y + 1 < m.length
                  · have pD : (y : Int) + 1 < (m.length : Int) := by omega
                    obtain ⟨⟨_, _, eD, hcD⟩, hrD⟩ := HR5.out (y + 1) (by omega)
                    cases eD
                    rw [HRL.out (y + 1) (by omega)] at hcD
                    obtain ⟨db, dO, eD2, hD⟩ := hrD x (by rw [HRL.out (y + 1) (by omega)]; exact hltx)
                    rw [eD2] at hcD
                    have gD := HNX.out x (y + 1) hltx hlty hltx (by omega) (.inl ⟨rfl, .inr (by omega)⟩) rfl
                    generalize (m.getD (y + 1) []).getD x 0 = dv at *
                    have iD1 : (0 : Int) ≤ (y : Int) + 1 := by omega
                    have iD3 : ((y : Int) + 1).toNat = y + 1 := by omega
                    clear hrD eD2
                    as_aux_lemma =>
                      clear hry hry1 HNX HR5 hx1
                      go_wp2
                      go_roundw
                      case rel => exact ⟨x + 1, by omega, by go_num, HX1⟩
                      case measure => simp [intOf]; omega
                  · have pD : ¬ (y : Int) + 1 < (m.length : Int) := by omega
                    as_aux_lemma =>
                      clear hry hry1 HNX HR5 hx1
                      go_wp2
                      go_roundw
                      case rel => exact ⟨x + 1, by omega, by go_num, HX1⟩
                      case measure => simp [intOf]; omega
                · have pC : ¬ (x : Int) + 1 < (W : Int) := by omega
                  by_cases hD : y + 1 < m.length
                  · have pD : (y : Int) + 1 < (m.length : Int) := by omega
                    obtain ⟨⟨_, _, eD, hcD⟩, hrD⟩ := HR5.out (y + 1) (by omega)
                    cases eD
                    rw [HRL.out (y + 1) (by omega)] at hcD
                    obtain ⟨db, dO, eD2, hD⟩ := hrD x (by rw [HRL.out (y + 1) (by omega)]; exact hltx)
                    rw [eD2] at hcD
                    have gD := HNX.out x (y + 1) hltx hlty hltx (by omega) (.inl ⟨rfl, .inr (by omega)⟩) rfl
                    generalize (m.getD (y + 1) []).getD x 0 = dv at *
                    have iD1 : (0 : Int) ≤ (y : Int) + 1 := by omega
                    have iD3 : ((y : Int) + 1).toNat = y + 1 := by omega
                    clear hrD eD2
                    as_aux_lemma =>
                      clear hry hry1 HNX HR5 hx1
                      go_wp2
                      go_roundw
                      case rel => exact ⟨x + 1, by omega, by go_num, HX1⟩
                      case measure => simp [intOf]; omega
                  · have pD : ¬ (y : Int) + 1 < (m.length : Int) := by omega
                    as_aux_lemma =>
                      clear hry hry1 HNX HR5 hx1
                      go_wp2
                      go_roundw
                      case rel => exact ⟨x + 1, by omega, by go_num, HX1⟩
                      case measure => simp [intOf]; omega
              · have pB : ¬ (0 : Int) < (y : Int) := by omega
                by_cases hC : x + 1 < W
                · have pC : (x : Int) + 1 < (W : Int) := by omega
                  obtain ⟨_, _, eR, hR⟩ := hry1 (x + 1) (by omega)
                  rw [eA] at eR
                  cases eR
                  have hR1 := hx1.cell hR
                  have gC := HNX.out (x + 1) y hltx hlty (by omega) hlty (.inr ⟨rfl, .inr (by omega)⟩) rfl
                  generalize (m.getD y []).getD (x + 1) 0 = rv at *
                  have iC1 : (0 : Int) ≤ (x : Int) + 1 := by omega
                  have iC3 : ((x : Int) + 1).toNat = x + 1 := by omega
                  clear hR
                  by_cases hD : y + 1 < m.length
                  · have pD : (y : Int) + 1 < (m.length : Int) := by omega
                    obtain ⟨⟨_, _, eD, hcD⟩, hrD⟩ := HR5.out (y + 1) (by omega)
                    cases eD
                    rw [HRL.out (y + 1) (by omega)] at hcD
                    obtain ⟨db, dO, eD2, hD⟩ := hrD x (by rw [HRL.out (y + 1) (by omega)]; exact hltx)
                    rw [eD2] at hcD
                    have gD := HNX.out x (y + 1) hltx hlty hltx (by omega) (.inl ⟨rfl, .inr (by omega)⟩) rfl
                    generalize (m.getD (y + 1) []).getD x 0 = dv at *
                    have iD1 : (0 : Int) ≤ (y : Int) + 1 := by omega
                    have iD3 : ((y : Int) + 1).toNat = y + 1 := by omega
                    clear hrD eD2
                    as_aux_lemma =>
                      clear hry hry1 HNX HR5 hx1
                      go_wp2
                      go_roundw
                      case rel => exact ⟨x + 1, by omega, by go_num, HX1⟩
                      case measure => simp [intOf]; omega
                  · have pD : ¬ (y : Int) + 1 < (m.length : Int) := by omega
                    as_aux_lemma =>
                      clear hry hry1 HNX HR5 hx1
                      go_wp2
                      go_roundw
                      case rel => exact ⟨x + 1, by omega, by go_num, HX1⟩
                      case measure => simp [intOf]; omega
                · have pC : ¬ (x : Int) + 1 < (W : Int) := by omega
                  by_cases hD : y + 1 < m.length
                  · have pD : (y : Int) + 1 < (m.length : Int) := by omega
                    obtain ⟨⟨_, _, eD, hcD⟩, hrD⟩ := HR5.out (y + 1) (by omega)
                    cases eD
                    rw [HRL.out (y + 1) (by omega)] at hcD
                    obtain ⟨db, dO, eD2, hD⟩ := hrD x (by rw [HRL.out (y + 1) (by omega)]; exact hltx)
                    rw [eD2] at hcD
                    have gD := HNX.out x (y + 1) hltx hlty hltx (by omega) (.inl ⟨rfl, .inr (by omega)⟩) rfl
                    generalize (m.getD (y + 1) []).getD x 0 = dv at *
                    have iD1 : (0 : Int) ≤ (y : Int) + 1 := by omega
                    have iD3 : ((y : Int) + 1).toNat = y + 1 := by omega
                    clear hrD eD2
                    as_aux_lemma =>
                      clear hry hry1 HNX HR5 hx1
                      go_wp2
                      go_roundw
                      case rel => exact ⟨x + 1, by omega, by go_num, HX1⟩
                      case measure => simp [intOf]; omega
                  · have pD : ¬ (y : Int) + 1 < (m.length : Int) := by omega
                    as_aux_lemma =>
                      clear hry hry1 HNX HR5 hx1
                      go_wp2
                      go_roundw
                      case rel => exact ⟨x + 1, by omega, by go_num, HX1⟩
                      case measure => simp [intOf]; omega
            · have pA : ¬ (0 : Int) < (x : Int) := by omega
              by_cases hB : 0 < y
              · have pB : (0 : Int) < (y : Int) := by omega
                obtain ⟨⟨_, _, eU, hcU⟩, hrU⟩ := HR5.out (y - 1) (by omega)
                cases eU
                rw [HRL.out (y - 1) (by omega)] at hcU
                obtain ⟨ub, uo, eU2, hU⟩ := hrU x (by rw [HRL.out (y - 1) (by omega)]; exact hltx)
                rw [eU2] at hcU
                have gB := HNX.out x (y - 1) hltx hlty hltx (by omega) (.inl ⟨rfl, .inl (by omega)⟩) rfl
                generalize (m.getD (y - 1) []).getD x 0 = uv at *
                have iB1 : (0 : Int) ≤ (y : Int) - 1 := by omega
                have iB2 : (y : Int) - 1 < (m.length : Int) := by omega
                have iB3 : ((y : Int) - 1).toNat = y - 1 := by omega
                clear hrU eU2
                by_cases hC : x + 1 < W
                · have pC : (x : Int) + 1 < (W : Int) := by omega
                  obtain ⟨_, _, eR, hR⟩ := hry1 (x + 1) (by omega)
                  rw [eA] at eR
                  cases eR
                  have hR1 := hx1.cell hR
                  have gC := HNX.out (x + 1) y hltx hlty (by omega) hlty (.inr ⟨rfl, .inr (by omega)⟩) rfl
                  generalize (m.getD y []).getD (x + 1) 0 = rv at *
                  have iC1 : (0 : Int) ≤ (x : Int) + 1 := by omega
                  have iC3 : ((x : Int) + 1).toNat = x + 1 := by omega
                  clear hR
                  by_cases hD : y + 1 < m.length
                  · have pD : (y : Int) + 1 < (m.length : Int) := by omega
                    obtain ⟨⟨_, _, eD, hcD⟩, hrD⟩ := HR5.out (y + 1) (by omega)
                    cases eD
                    rw [HRL.out (y + 1) (by omega)] at hcD
                    obtain ⟨db, dO, eD2, hD⟩ := hrD x (by rw [HRL.out (y + 1) (by omega)]; exact hltx)
                    rw [eD2] at hcD
                    have gD := HNX.out x (y + 1) hltx hlty hltx (by omega) (.inl ⟨rfl, .inr (by omega)⟩) rfl
                    generalize (m.getD (y + 1) []).getD x 0 = dv at *
                    have iD1 : (0 : Int) ≤ (y : Int) + 1 := by omega
                    have iD3 : ((y : Int) + 1).toNat = y + 1 := by omega
                    clear hrD eD2
                    as_aux_lemma =>
                      clear hry hry1 HNX HR5 hx1
                      go_wp2
                      go_roundw
                      case rel => exact ⟨x + 1, by omega, by go_num, HX1⟩
                      case measure => simp [intOf]; omega
                  · have pD : ¬ (y : Int) + 1 < (m.length : Int) := by omega
                    as_aux_lemma =>
                      clear hry hry1 HNX HR5 hx1
                      go_wp2
                      go_roundw
                      case rel => exact ⟨x + 1, by omega, by go_num, HX1⟩
                      case measure => simp [intOf]; omega
                · have pC : ¬ (x : Int) + 1 < (W : Int) := by omega
                  by_cases hD : y + 1 < m.length
                  · have pD : (y : Int) + 1 < (m.length : Int) := by omega
                    obtain ⟨⟨_, _, eD, hcD⟩, hrD⟩ := HR5.out (y + 1) (by omega)
                    cases eD
                    rw [HRL.out (y + 1) (by omega)] at hcD
                    obtain ⟨db, dO, eD2, hD⟩ := hrD x (by rw [HRL.out (y + 1) (by omega)]; exact hltx)
                    rw [eD2] at hcD
                    have gD := HNX.out x (y + 1) hltx hlty hltx (by omega) (.inl ⟨rfl, .inr (by omega)⟩) rfl
                    generalize (m.getD (y + 1) []).getD x 0 = dv at *
                    have iD1 : (0 : Int) ≤ (y : Int) + 1 := by omega
                    have iD3 : ((y : Int) + 1).toNat = y + 1 := by omega
                    clear hrD eD2
                    as_aux_lemma =>
                      clear hry hry1 HNX HR5 hx1
                      go_wp2
                      go_roundw
                      case rel => exact ⟨x + 1, by omega, by go_num, HX1⟩
                      case measure => simp [intOf]; omega
                  · have pD : ¬ (y : Int) + 1 < (m.length : Int) := by omega
                    as_aux_lemma =>
                      clear hry hry1 HNX HR5 hx1
                      go_wp2
                      go_roundw
                      case rel => exact ⟨x + 1, by omega, by go_num, HX1⟩
                      case measure => simp [intOf]; omega
              · have pB : ¬ (0 : Int) < (y : Int) := by omega
                by_cases hC : x + 1 < W
                · have pC : (x : Int) + 1 < (W : Int) := by omega
                  obtain ⟨_, _, eR, hR⟩ := hry1 (x + 1) (by omega)
                  rw [eA] at eR
                  cases eR
                  have hR1 := hx1.cell hR
                  have gC := HNX.out (x + 1) y hltx hlty (by omega) hlty (.inr ⟨rfl, .inr (by omega)⟩) rfl
                  generalize (m.getD y []).getD (x + 1) 0 = rv at *
                  have iC1 : (0 : Int) ≤ (x : Int) + 1 := by omega
                  have iC3 : ((x : Int) + 1).toNat = x + 1 := by omega
                  clear hR
                  by_cases hD : y + 1 < m.length
                  · have pD : (y : Int) + 1 < (m.length : Int) := by omega
                    obtain ⟨⟨_, _, eD, hcD⟩, hrD⟩ := HR5.out (y + 1) (by omega)
                    cases eD
                    rw [HRL.out (y + 1) (by omega)] at hcD
                    obtain ⟨db, dO, eD2, hD⟩ := hrD x (by rw [HRL.out (y + 1) (by omega)]; exact hltx)
                    rw [eD2] at hcD
                    have gD := HNX.out x (y + 1) hltx hlty hltx (by omega) (.inl ⟨rfl, .inr (by omega)⟩) rfl
                    generalize (m.getD (y + 1) []).getD x 0 = dv at *
                    have iD1 : (0 : Int) ≤ (y : Int) + 1 := by omega
                    have iD3 : ((y : Int) + 1).toNat = y + 1 := by omega
                    clear hrD eD2
                    as_aux_lemma =>
                      clear hry hry1 HNX HR5 hx1
                      go_wp2
                      go_roundw
                      case rel => exact ⟨x + 1, by omega, by go_num, HX1⟩
                      case measure => simp [intOf]; omega
                  · have pD : ¬ (y : Int) + 1 < (m.length : Int) := by omega
                    as_aux_lemma =>
                      clear hry hry1 HNX HR5 hx1
                      go_wp2
                      go_roundw
                      case rel => exact ⟨x + 1, by omega, by go_num, HX1⟩
                      case measure => simp [intOf]; omega
                · have pC : ¬ (x : Int) + 1 < (W : Int) := by omega
                  by_cases hD : y + 1 < m.length
                  · have pD : (y : Int) + 1 < (m.length : Int) := by omega
                    obtain ⟨⟨_, _, eD, hcD⟩, hrD⟩ := HR5.out (y + 1) (by omega)
                    cases eD
                    rw [HRL.out (y + 1) (by omega)] at hcD
                    obtain ⟨db, dO, eD2, hD⟩ := hrD x (by rw [HRL.out (y + 1) (by omega)]; exact hltx)
                    rw [eD2] at hcD
                    have gD := HNX.out x (y + 1) hltx hlty hltx (by omega) (.inl ⟨rfl, .inr (by omega)⟩) rfl
                    generalize (m.getD (y + 1) []).getD x 0 = dv at *
                    have iD1 : (0 : Int) ≤ (y : Int) + 1 := by omega
                    have iD3 : ((y : Int) + 1).toNat = y + 1 := by omega
                    clear hrD eD2
                    as_aux_lemma =>
                      clear hry hry1 HNX HR5 hx1
                      go_wp2
                      go_roundw
                      case rel => exact ⟨x + 1, by omega, by go_num, HX1⟩
                      case measure => simp [intOf]; omega
                  · have pD : ¬ (y : Int) + 1 < (m.length : Int) := by omega
                    as_aux_lemma =>
                      clear hry hry1 HNX HR5 hx1
                      go_wp2
                      go_roundw
                      case rel => exact ⟨x + 1, by omega, by go_num, HX1⟩
                      case measure => simp [intOf]; omega
        · have hltx' : ¬ (x : Int) < (W : Int) := by omega
          clear c7x lc7x c11x lc11x
          go_wp2
          go_roundw
          case rel => exact ⟨y + 1, by omega, by go_num, HX⟩
          case measure => simp [intOf]; omega
    · have hlty' : ¬ (y : Int) < (m.length : Int) := by omega
      have HXE := Lib.hid (HWB.out.trans HX.out)
      go_wp2
      go_ret
      exact ⟨rfl, HXE.out⟩
end Go.Proofs.Ythgkmaccbcpaeaa
