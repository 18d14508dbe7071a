/- FnExactThresholdGrey answers true. -/
import Derived.Test.YtfjjplllcilnaaaIGrey
import Derived.Test.YtfjjplllcilnaaaLWrap
import Derived.Deep.RegionHeld3
namespace Go.Proofs.Ytfjjplllcilnaaa
open Go.RowKit
theorem le_sum_of_mem : ∀ (l : List Nat) (x : Nat), x ∈ l → x ≤ l.sum
  | [], x, h => by cases h
  | y :: l, x, h => by
    rw [List.sum_cons]
    rcases List.mem_cons.1 h with rfl | h
    · omega
    · have := le_sum_of_mem l x h
      omega
theorem keep3 {w6 w w' : World} {a b : Addr} {v u : Value} (h : w.cell? a = some v ∧ w.cell? b = some u ∧ w6.Ext w) (hx : w.Ext w') : w'.cell? a = some v ∧ w'.cell? b = some u ∧ w6.Ext w' :=
  ⟨hx.cell h.1, hx.cell h.2.1, h.2.2.trans hx⟩
theorem ext3 {w6 w : World} (a : Addr) (v : Value) (b : Addr) (u : Value) (h : w.cell? a = some v ∧ w.cell? b = some u ∧ w6.Ext w) : w6.Ext w := h.2.2
theorem sz_bounds {m : List (List Int)} {z : Int} (h : szSS 1048576 (m.map List.length) = z) (h0 : 0 ≤ z) : m.length ≤ 1048576 ∧ (∀ r, (m.getD r []).length ≤ 1048576) ∧ offM m m.length ≤ 1048576 := by
  unfold szSS at h
  split at h
  · omega
  · have h1 := szGo_le (m.map List.length) (1048576 - ((m.map List.length).length : Int)) (by rw [h]; exact h0)
    rw [h] at h1
    have e1 : (m.map List.length).length = m.length := by simp
    rw [e1] at h1
    have e2 := offM_all m
    refine ⟨by omega, fun r => ?_, by omega⟩
    by_cases hr : r < m.length
    · have := offM_mono m 0 m.length (by omega)
      have h2 : (m.getD r []).length ≤ (m.map List.length).sum := by
        apply le_sum_of_mem
        rw [List.mem_map]
        exact ⟨m.getD r [], by rw [List.getD_eq_getElem?_getD, List.getElem?_eq_getElem hr]; exact List.getElem_mem hr, rfl⟩
      omega
    · simp [List.getD_eq_getElem?_getD, hr]
theorem thr_len (m : List (List Int)) (level : Int) (h : m.length ≤ 1048576) : (if thrOk m level then thrRows m level else []).length ≤ 1048576 := by
  split
  · unfold thrRows; rw [picRows_len]; exact h
  · simp
set_option maxRecDepth 5000 in
set_option maxHeartbeats 4000000 in
theorem thrWalk (a : Option Addr) (c : Nat) (A : Nat → Option Addr) (C : Nat → Nat) (m : List (List Int)) (level : Int) (w : World) (hm : MatAt w a A C m) (hn0 : m.length ≤ maxLen) (hr0 : ∀ r, (m.getD r []).length ≤ maxLen) :
    Calls Try.prog 7 #[.agg #[.slice a m.length c], .int .i64 level] w fun e w' => e = .returned (.bool true) ∧ w.Ext w' := by
  have HM := Lib.hid hm
  have HN0 := Lib.hid hn0
  have HR0 := Lib.hid hr0
  obtain ⟨z, hz⟩ : ∃ z, szSS 1048576 (m.map List.length) = z := ⟨_, rfl⟩
  have hsz := szGrey_any a c A C m 1048576
  rw [hz] at hsz
  have HSZ := Lib.hid hsz
  have HZ := Lib.hid hz
  clear hm hn0 hr0 hsz hz
  by_cases hz0 : z < 0
  · go_enter Try.func7, Try.ntmps7
    go_wp2_with (go_at_call 26; refine (HSZ.out _ (by omega) (by omega) HN0.out (HM.out.ext (by repeat (first | exact World.Ext.refl _ | exact ⟨_, rfl⟩ | assumption | refine World.Ext.over ?_ _ | refine World.Ext.drewN ?_ _ | refine World.Ext.drew ?_ | refine World.Ext.alloc ?_ _ | refine World.Ext.setCell ?_ (by simp) _))) HR0.out).mono ?_; rw [if_pos hz0]; rintro e w' ⟨rfl, x1, rfl⟩)
    go_ret
    refine ⟨rfl, ?_⟩
    repeat (first | exact World.Ext.refl _ | exact ⟨_, rfl⟩ | assumption | refine World.Ext.over ?_ _ | refine World.Ext.drewN ?_ _ | refine World.Ext.drew ?_ | refine World.Ext.alloc ?_ _ | refine World.Ext.setCell ?_ (by simp) _)
  · obtain ⟨hn, hr, ho⟩ := sz_bounds HZ.out (by omega)
    have hzn : 0 ≤ z := by omega
    have HN := Lib.hid hn
    have HR := Lib.hid hr
    have HO := Lib.hid ho
    have HSP := Lib.hid (fun a c A C w => specThresholdGrey_any a c A C m level w hn hr)
    have HIM := Lib.hid (fun a c A C w => implThresholdGrey_any a c A C m level w hn hr)
    have HRL := Lib.hid (thr_len m level hn)
    clear HZ
    generalize thrOk m level = ok at HSP HIM HRL
    generalize (if ok then thrRows m level else []) = R at HSP HIM HRL
    have hm2 : m.length ≤ 4611686018427387904 := by omega
    clear hn hr ho
    go_enter Try.func7, Try.ntmps7
    go_wp2_with fail
    refine (HSZ.out _ (by omega) (by omega) HN0.out (HM.out.ext (by repeat (first | exact World.Ext.refl _ | exact ⟨_, rfl⟩ | assumption | refine World.Ext.over ?_ _ | refine World.Ext.drewN ?_ _ | refine World.Ext.drew ?_ | refine World.Ext.alloc ?_ _ | refine World.Ext.setCell ?_ (by simp) _))) HR0.out).mono ?_
    rw [if_neg (by omega)]
    rintro e w1 ⟨rfl, hx1⟩
    have c2 := hx1.cell (a := ⟨w.heap.size, 0, none⟩) (v := .slice a m.length c) (by simp [go_sem])
    have X1 : Hid (w.Ext w1) := World.Ext.trans (by repeat (first | exact World.Ext.refl _ | exact ⟨_, rfl⟩ | assumption | refine World.Ext.over ?_ _ | refine World.Ext.drewN ?_ _ | refine World.Ext.drew ?_ | refine World.Ext.alloc ?_ _ | refine World.Ext.setCell ?_ (by simp) _)) hx1
    clear hx1
    go_wp2_with fail
    refine (toGrey_any a c A C m w1 HN.out HR.out (HM.out.ext X1.out)).mono ?_
    rintro e w2 ⟨g2, A2, rfl, hx2, ho2⟩
    have c2b := hx2.cell c2
    have X2 := Lib.hid (X1.out.trans hx2)
    have M2 := Lib.hid ho2.mat
    clear hx2 ho2 c2
    go_wp2_with fail
    refine (HSP.out _ _ _ _ w2 M2.out).mono ?_
    rintro e w3 ⟨aS, cS, rfl, hx3, ho3⟩
    have c2 := hx3.cell c2b
    have l2 : w.heap.size < w3.heap.size := World.block_lt_of_cell? w3 _ c2
    have X3 := Lib.hid (X2.out.trans hx3)
    have OS := Lib.hid ho3
    have ls3 := hx3.size
    clear hx3 ho3 c2b
    go_wp2_with fail
    refine (toGrey_any a c A C m _ HN.out HR.out (HM.out.ext (X3.out.trans (by repeat (first | exact World.Ext.refl _ | exact ⟨_, rfl⟩ | assumption | refine World.Ext.over ?_ _ | refine World.Ext.drewN ?_ _ | refine World.Ext.drew ?_ | refine World.Ext.alloc ?_ _ | refine World.Ext.setCell ?_ (by simp) _))))).mono ?_
    rintro e w4 ⟨g4, A4, rfl, hx4, ho4⟩
    have c2b := hx4.cell (World.Ext.cell (by repeat (first | exact World.Ext.refl _ | exact ⟨_, rfl⟩ | assumption | refine World.Ext.over ?_ _ | refine World.Ext.drewN ?_ _ | refine World.Ext.drew ?_ | refine World.Ext.alloc ?_ _ | refine World.Ext.setCell ?_ (by simp) _)) c2)
    have c6 := hx4.cell (a := ⟨w3.heap.size, 0, none⟩) (v := .slice aS R.length cS) (by simp [go_sem])
    have l6 : w3.heap.size < w4.heap.size := World.block_lt_of_cell? w4 _ c6
    have X4 : Hid (w.Ext w4) := (X3.out.trans (by repeat (first | exact World.Ext.refl _ | exact ⟨_, rfl⟩ | assumption | refine World.Ext.over ?_ _ | refine World.Ext.drewN ?_ _ | refine World.Ext.drew ?_ | refine World.Ext.alloc ?_ _ | refine World.Ext.setCell ?_ (by simp) _))).trans hx4
    have OS4 := Lib.hid ((OS.out.ext ((World.Ext.refl _).alloc (.cells #[.slice aS R.length cS] 35))).ext hx4)
    have OX := Lib.hid (ho4.mono (lo' := w3.heap.size + 1) (by simp) (Nat.le_refl _))
    clear hx4 ho4 c2 OS
    go_wp2_with fail
    refine (HIM.out _ _ _ _ _ ((OX.out.ext (by repeat (first | exact World.Ext.refl _ | exact ⟨_, rfl⟩ | assumption | refine World.Ext.over ?_ _ | refine World.Ext.drewN ?_ _ | refine World.Ext.drew ?_ | refine World.Ext.alloc ?_ _ | refine World.Ext.setCell ?_ (by simp) _))).mat)).mono ?_
    rintro e w5 ⟨aP, cP, rfl, hx5, ho5⟩
    have c2 := hx5.cell (World.Ext.cell (by repeat (first | exact World.Ext.refl _ | exact ⟨_, rfl⟩ | assumption | refine World.Ext.over ?_ _ | refine World.Ext.drewN ?_ _ | refine World.Ext.drew ?_ | refine World.Ext.alloc ?_ _ | refine World.Ext.setCell ?_ (by simp) _)) c2b)
    have c6b := hx5.cell (World.Ext.cell (by repeat (first | exact World.Ext.refl _ | exact ⟨_, rfl⟩ | assumption | refine World.Ext.over ?_ _ | refine World.Ext.drewN ?_ _ | refine World.Ext.drew ?_ | refine World.Ext.alloc ?_ _ | refine World.Ext.setCell ?_ (by simp) _)) c6)
    have c8 := hx5.cell (a := ⟨w4.heap.size, 0, none⟩) (v := .slice (some ⟨g4, 0, none⟩) m.length m.length) (by simp [go_sem])
    have l8 : w4.heap.size < w5.heap.size := World.block_lt_of_cell? w5 _ c8
    have l62 : w3.heap.size < w5.heap.size := by omega
    have l22 : w.heap.size < w5.heap.size := by omega
    have X5 : Hid (w.Ext w5) := (X4.out.trans (by repeat (first | exact World.Ext.refl _ | exact ⟨_, rfl⟩ | assumption | refine World.Ext.over ?_ _ | refine World.Ext.drewN ?_ _ | refine World.Ext.drew ?_ | refine World.Ext.alloc ?_ _ | refine World.Ext.setCell ?_ (by simp) _))).trans hx5
    have OS5 := Lib.hid ((OS4.out.ext (by repeat (first | exact World.Ext.refl _ | exact ⟨_, rfl⟩ | assumption | refine World.Ext.over ?_ _ | refine World.Ext.drewN ?_ _ | refine World.Ext.drew ?_ | refine World.Ext.alloc ?_ _ | refine World.Ext.setCell ?_ (by simp) _))).ext hx5)
    have OX5 := Lib.hid ((OX.out.ext (by repeat (first | exact World.Ext.refl _ | exact ⟨_, rfl⟩ | assumption | refine World.Ext.over ?_ _ | refine World.Ext.drewN ?_ _ | refine World.Ext.drew ?_ | refine World.Ext.alloc ?_ _ | refine World.Ext.setCell ?_ (by simp) _))).ext hx5)
    have OP := Lib.hid (ho5.mono (lo' := w4.heap.size + 1) (by simp) (Nat.le_refl _))
    clear hx5 ho5 c2b c6 OS4 OX
    go_wp2_with fail
    refine (eqPicture_any _ _ _ _ R _ (Nat.le_trans HRL.out (by unfold maxLen; omega)) (OP.out.ext (by repeat (first | exact World.Ext.refl _ | exact ⟨_, rfl⟩ | assumption | refine World.Ext.over ?_ _ | refine World.Ext.drewN ?_ _ | refine World.Ext.drew ?_ | refine World.Ext.alloc ?_ _ | refine World.Ext.setCell ?_ (by simp) _))).row (OS5.out.ext (by repeat (first | exact World.Ext.refl _ | exact ⟨_, rfl⟩ | assumption | refine World.Ext.over ?_ _ | refine World.Ext.drewN ?_ _ | refine World.Ext.drew ?_ | refine World.Ext.alloc ?_ _ | refine World.Ext.setCell ?_ (by simp) _))).row).mono ?_
    rintro e w6 ⟨rfl, hx6⟩
    have d2 := hx6.cell (World.Ext.cell (by repeat (first | exact World.Ext.refl _ | exact ⟨_, rfl⟩ | assumption | refine World.Ext.over ?_ _ | refine World.Ext.drewN ?_ _ | refine World.Ext.drew ?_ | refine World.Ext.alloc ?_ _ | refine World.Ext.setCell ?_ (by simp) _)) c2)
    have d6 := hx6.cell (World.Ext.cell (by repeat (first | exact World.Ext.refl _ | exact ⟨_, rfl⟩ | assumption | refine World.Ext.over ?_ _ | refine World.Ext.drewN ?_ _ | refine World.Ext.drew ?_ | refine World.Ext.alloc ?_ _ | refine World.Ext.setCell ?_ (by simp) _)) c6b)
    have d8 := hx6.cell (World.Ext.cell (by repeat (first | exact World.Ext.refl _ | exact ⟨_, rfl⟩ | assumption | refine World.Ext.over ?_ _ | refine World.Ext.drewN ?_ _ | refine World.Ext.drew ?_ | refine World.Ext.alloc ?_ _ | refine World.Ext.setCell ?_ (by simp) _)) c8)
    have d9 := hx6.cell (a := ⟨w5.heap.size, 0, none⟩) (v := .slice aP R.length cP) (by simp [go_sem])
    have l9 : w5.heap.size < w6.heap.size := World.block_lt_of_cell? w6 _ d9
    have X6 : Hid (w.Ext w6) := (X5.out.trans (by repeat (first | exact World.Ext.refl _ | exact ⟨_, rfl⟩ | assumption | refine World.Ext.over ?_ _ | refine World.Ext.drewN ?_ _ | refine World.Ext.drew ?_ | refine World.Ext.alloc ?_ _ | refine World.Ext.setCell ?_ (by simp) _))).trans hx6
    have OS6 := Lib.hid ((OS5.out.ext (by repeat (first | exact World.Ext.refl _ | exact ⟨_, rfl⟩ | assumption | refine World.Ext.over ?_ _ | refine World.Ext.drewN ?_ _ | refine World.Ext.drew ?_ | refine World.Ext.alloc ?_ _ | refine World.Ext.setCell ?_ (by simp) _))).ext hx6)
    have OX6 := Lib.hid ((OX5.out.ext (by repeat (first | exact World.Ext.refl _ | exact ⟨_, rfl⟩ | assumption | refine World.Ext.over ?_ _ | refine World.Ext.drewN ?_ _ | refine World.Ext.drew ?_ | refine World.Ext.alloc ?_ _ | refine World.Ext.setCell ?_ (by simp) _))).ext hx6)
    have OP6 := Lib.hid ((OP.out.ext (by repeat (first | exact World.Ext.refl _ | exact ⟨_, rfl⟩ | assumption | refine World.Ext.over ?_ _ | refine World.Ext.drewN ?_ _ | refine World.Ext.drew ?_ | refine World.Ext.alloc ?_ _ | refine World.Ext.setCell ?_ (by simp) _))).ext hx6)
    clear hx6 c2 c6b c8 OS5 OX5 OP
    go_wp2_with fail
    go_region_held3 (fun w' => w'.cell? ⟨w.heap.size, 0, none⟩ = some (.slice a m.length c) ∧ w'.cell? ⟨w4.heap.size, 0, none⟩ = some (.slice (some ⟨g4, 0, none⟩) m.length m.length) ∧ w6.Ext w')
      (first | exact ⟨(World.Ext.refl w6).drew.cell d2, (World.Ext.refl w6).drew.cell d8, (World.Ext.refl w6).drew⟩ | exact keep3 (by assumption) hx7 | exact keep3 (by assumption) hx8)
      (first | (go_at_call 28; refine (toGrey_any a c A C m _ HN.out HR.out (HM.out.ext (X6.out.trans (ext3 ⟨w.heap.size, 0, none⟩ (.slice a m.length c) ⟨w4.heap.size, 0, none⟩ (.slice (some ⟨g4, 0, none⟩) m.length m.length) (by assumption))))).mono ?_; rintro e w' ⟨g7, A7, rfl, hx7, ho7⟩; have M7 := Lib.hid ho7.mat; clear ho7)
             | (go_at_call 31; refine (eqGrey_any _ _ _ _ _ _ _ _ m _ (Nat.le_trans HN.out (by unfold maxLen; omega)) (fun r => Nat.le_trans (HR.out r) (by unfold maxLen; omega)) ((OX6.out.ext (ext3 ⟨w.heap.size, 0, none⟩ (.slice a m.length c) ⟨w4.heap.size, 0, none⟩ (.slice (some ⟨g4, 0, none⟩) m.length m.length) (by assumption))).mat) (M7.out)).mono ?_; rintro e w' ⟨rfl, hx8⟩))
    have h7 : w6.Ext w' := ext3 ⟨w.heap.size, 0, none⟩ (.slice a m.length c) ⟨w4.heap.size, 0, none⟩ (.slice (some ⟨g4, 0, none⟩) m.length m.length) (by assumption)
    have c2 := h7.cell d2
    have c6 := h7.cell d6
    have c8 := h7.cell d8
    have c9 := h7.cell d9
    have l72 := h7.size
    have X7 : Hid (w.Ext w') := X6.out.trans h7
    have OS7 := Lib.hid (OS6.out.ext h7)
    have OX7 := Lib.hid (OX6.out.ext h7)
    have OP7 := Lib.hid (OP6.out.ext h7)
    clear hx7 hx8 M7 h7 d2 d6 d8 d9 OS6 OX6 OP6
    go_wp2_with fail
    refine (markGrey_any _ _ _ _ m 1 (w3.heap.size + 1) w4.heap.size _ HN.out HR.out (by omega) (by have := HO.out; omega) OX7.out).mono ?_
    rintro e w8 ⟨rfl, hw8, hm8⟩
    have d2 := hw8.cell c2 (by dsimp only; omega)
    have d6 := hw8.cell c6 (by dsimp only; omega)
    have d9 := hw8.cell c9 (by dsimp only; omega)
    have l82 := hw8.size
    have X8 : Hid (w.Ext w8) := X7.out.wroteNew hw8 (fun k hk => by omega)
    have OS8 := Lib.hid (OS7.out.wrote hw8 (fun k h1 h2 => by omega))
    have OP8 := Lib.hid (OP7.out.wrote hw8 (fun k h1 h2 => by omega))
    clear hw8 hm8 c2 c6 c8 c9 OS7 OX7 OP7
    generalize offM m m.length = n8 at *
    go_wp2_with fail
    refine (eqPicture_any _ _ _ _ R _ (Nat.le_trans HRL.out (by unfold maxLen; omega)) OP8.out.row OS8.out.row).mono ?_
    rintro e w9 ⟨rfl, hx9⟩
    have c2 := hx9.cell d2
    have c6 := hx9.cell d6
    have c9 := hx9.cell d9
    have l92 := hx9.size
    have X9 : Hid (w.Ext w9) := X8.out.trans hx9
    have OS9 := Lib.hid (OS8.out.ext hx9)
    have OP9 := Lib.hid (OP8.out.ext hx9)
    clear hx9 d2 d6 d9 OS8 OP8
    go_wp2_with fail
    refine (markPicture_any _ _ R 1 (w4.heap.size + 1) w5.heap.size _ HRL.out (by omega) OP9.out).mono ?_
    rintro e w10 ⟨rfl, hw10, hm10⟩
    have d2 := hw10.cell c2 (by dsimp only; omega)
    have d6 := hw10.cell c6 (by dsimp only; omega)
    have d9 := hw10.cell c9 (by dsimp only; omega)
    have l102 := hw10.size
    have X10 : Hid (w.Ext w10) := X9.out.wroteNew hw10 (fun k hk => by omega)
    have OS10 := Lib.hid (OS9.out.wrote hw10 (fun k h1 h2 => by omega))
    have OP10 := Lib.hid hm10
    clear hw10 hm10 c2 c6 c9 OS9 OP9
    go_wp2_with fail
    refine (heldPicture_any _ R.length _ 1 _ HRL.out (by omega) OP10.out.row).mono ?_
    rintro e w11 ⟨rfl, hx11⟩
    have c2 := hx11.cell d2
    have c6 := hx11.cell d6
    have c9 := hx11.cell d9
    have l112 := hx11.size
    have X11 : Hid (w.Ext w11) := X10.out.trans hx11
    have OS11 := Lib.hid (OS10.out.ext hx11)
    have OP11 := Lib.hid (OP10.out.ext hx11)
    clear hx11 d2 d6 d9 OS10 OP10
    go_wp2_with fail
    refine (toGrey_any a c A C m w11 HN.out HR.out (HM.out.ext X11.out)).mono ?_
    rintro e w12 ⟨g12, A12, rfl, hx12, ho12⟩
    have d2 := hx12.cell c2
    have d6 := hx12.cell c6
    have d9 := hx12.cell c9
    have l122 := hx12.size
    have X12 : Hid (w.Ext w12) := X11.out.trans hx12
    have OS12 := Lib.hid (OS11.out.ext hx12)
    have OP12 := Lib.hid (OP11.out.ext hx12)
    have M12 := Lib.hid ho12.mat
    clear hx12 ho12 c2 c6 c9 OS11 OP11
    go_wp2_with fail
    refine (HIM.out _ _ _ _ w12 M12.out).mono ?_
    rintro e w13 ⟨a13, c13, rfl, hx13, ho13⟩
    have c6 := hx13.cell d6
    have c9 := hx13.cell d9
    have l132 := hx13.size
    have l66 : w3.heap.size < w13.heap.size := by omega
    have X13 : Hid (w.Ext w13) := X12.out.trans hx13
    have OS13 := Lib.hid (OS12.out.ext hx13)
    have OP13 := Lib.hid (OP12.out.ext hx13)
    have O13 := Lib.hid ho13
    clear hx13 ho13 d2 d6 d9 OS12 OP12
    go_wp2_with fail
    refine (eqPicture_any _ _ _ _ R _ (Nat.le_trans HRL.out (by unfold maxLen; omega)) (O13.out.ext (by repeat (first | exact World.Ext.refl _ | exact ⟨_, rfl⟩ | assumption | refine World.Ext.over ?_ _ | refine World.Ext.drewN ?_ _ | refine World.Ext.drew ?_ | refine World.Ext.alloc ?_ _ | refine World.Ext.setCell ?_ (by simp) _))).row (OS13.out.ext (by repeat (first | exact World.Ext.refl _ | exact ⟨_, rfl⟩ | assumption | refine World.Ext.over ?_ _ | refine World.Ext.drewN ?_ _ | refine World.Ext.drew ?_ | refine World.Ext.alloc ?_ _ | refine World.Ext.setCell ?_ (by simp) _))).row).mono ?_
    rintro e w14 ⟨rfl, hx14⟩
    have d9 := hx14.cell (World.Ext.cell (by repeat (first | exact World.Ext.refl _ | exact ⟨_, rfl⟩ | assumption | refine World.Ext.over ?_ _ | refine World.Ext.drewN ?_ _ | refine World.Ext.drew ?_ | refine World.Ext.alloc ?_ _ | refine World.Ext.setCell ?_ (by simp) _)) c9)
    have X14 : Hid (w.Ext w14) := (X13.out.trans (by repeat (first | exact World.Ext.refl _ | exact ⟨_, rfl⟩ | assumption | refine World.Ext.over ?_ _ | refine World.Ext.drewN ?_ _ | refine World.Ext.drew ?_ | refine World.Ext.alloc ?_ _ | refine World.Ext.setCell ?_ (by simp) _))).trans hx14
    have OP14 := Lib.hid ((OP13.out.ext (by repeat (first | exact World.Ext.refl _ | exact ⟨_, rfl⟩ | assumption | refine World.Ext.over ?_ _ | refine World.Ext.drewN ?_ _ | refine World.Ext.drew ?_ | refine World.Ext.alloc ?_ _ | refine World.Ext.setCell ?_ (by simp) _))).ext hx14)
    clear hx14 c6 c9 OS13 OP13 O13
    go_wp2_with fail
    refine (heldPicture_any _ R.length _ 1 _ HRL.out (by omega) OP14.out.row).mono ?_
    rintro e w15 ⟨rfl, hx15⟩
    have X15 : Hid (w.Ext w15) := X14.out.trans hx15
    go_wp2
    go_ret
    exact ⟨rfl, X15.out⟩
end Go.Proofs.Ytfjjplllcilnaaa
