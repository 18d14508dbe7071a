/- The walk of the law FnExactFloodMarks, over two contracts. -/
import Derived.Test.YtldbabigjfkdlaaLaws
import Derived.Test.YtldbabigjfkdlaaLMat
import Derived.Test.YtldbabigjfkdlaaLGr
import Derived.Deep.RegionHeld3
import Derived.Deep.DeepCutAuto
namespace Go.Proofs.Ytldbabigjfkdlaa
open Go.RowKit
/-- What FloodMarks returns. -/
def exactFloodMarksRet (w : World) (R0 : List (List Int)) (R1 : Bool) (e : Ending) (w' : World) : Prop := ∃ x0 y0 X0 Y0, e = .returned (.tuple #[.slice x0 R0.length y0, .bool R1]) ∧ w.Ext w' ∧ OwnMat w.heap.size w'.heap.size w' x0 X0 Y0 R0
set_option maxRecDepth 5000 in
set_option maxHeartbeats 8000000 in
theorem exactFloodMarksWalk (a0 : Option Addr) (c0 : Nat) (A0 : Nat → Option Addr) (C0 : Nat → Nat) (m0 : List (List Int)) (a1 : Option Addr) (c1 : Nat) (A1 : Nat → Option Addr) (C1 : Nat → Nat) (m1 : List (List Int)) (R0 : List (List Int)) (R1 : Bool) (HSP : MatBnd m0 → MatBnd m1 → ∀ (a0 : Option Addr) (c0 : Nat) (A0 : Nat → Option Addr) (C0 : Nat → Nat) (a1 : Option Addr) (c1 : Nat) (A1 : Nat → Option Addr) (C1 : Nat → Nat) (w : World), MatAt w a0 A0 C0 m0 → MatAt w a1 A1 C1 m1 → Calls Try.prog 33 #[.agg #[.slice a0 m0.length c0], .slice a1 m1.length c1] w (exactFloodMarksRet w R0 R1)) (HIM : MatBnd m0 → MatBnd m1 → ∀ (a0 : Option Addr) (c0 : Nat) (A0 : Nat → Option Addr) (C0 : Nat → Nat) (a1 : Option Addr) (c1 : Nat) (A1 : Nat → Option Addr) (C1 : Nat → Nat) (w : World), MatAt w a0 A0 C0 m0 → MatAt w a1 A1 C1 m1 → Calls Try.prog 36 #[.agg #[.slice a0 m0.length c0], .slice a1 m1.length c1] w (exactFloodMarksRet w R0 R1)) (hb0 : MatBnd m0 → MatBnd m1 → MatBnd R0 ∧ offM R0 R0.length ≤ 1048576) (w : World) (hm0 : MatAt w a0 A0 C0 m0) (hm1 : MatAt w a1 A1 C1 m1) (hl0 : MatLen m0) (hl1 : MatLen m1) :
    Calls Try.prog 5 #[.agg #[.slice a0 m0.length c0], .slice a1 m1.length c1] w fun e w' => e = .returned (.bool true) ∧ w.Ext w' := by
  have HM0 := Lib.hid hm0
  have HM1 := Lib.hid hm1
  have HL0 := Lib.hid hl0
  have HL1 := Lib.hid hl1
  have HSPO := Lib.hid HSP
  have HIMO := Lib.hid HIM
  have HRB0 := Lib.hid hb0
  clear HSP HIM hm0 hm1 hl0 hl1 hb0
  go_enter Try.func5, Try.ntmps5
  go_wp2_with fail
  refine (szGrey_ok _ _ _ _ m0 1048576 _ (by omega) (by omega) (HM0.out.ext (by repeat (first | exact World.Ext.refl _ | exact ⟨_, rfl⟩ | assumption | refine World.Ext.over ?_ _ | refine World.Ext.drewN ?_ _ | refine World.Ext.drew ?_ | refine World.Ext.alloc ?_ _ | refine World.Ext.setCell ?_ (by simp) _))) HL0.out).mono ?_
  rintro e v1 ⟨q1, rfl, hx, hq1, hq2⟩
  have k1_t2 := hx.cell (a := ⟨w.heap.size, 0, none⟩) (v := .slice a0 m0.length c0) (by simp [go_sem])
  have lk1_t2 := World.block_lt_of_cell? v1 _ k1_t2
  have X1 : Hid (w.Ext v1) := World.Ext.trans (by repeat (first | exact World.Ext.refl _ | exact ⟨_, rfl⟩ | assumption | refine World.Ext.over ?_ _ | refine World.Ext.drewN ?_ _ | refine World.Ext.drew ?_ | refine World.Ext.alloc ?_ _ | refine World.Ext.setCell ?_ (by simp) _)) hx
  have z1 : w.heap.size + 1 ≤ v1.heap.size := (by have h := hx.size; simp at h; omega)
  have Q1 := Lib.hid hq2
  clear hx hq2
  by_cases hz1 : q1 < 0
  · go_wp2
    go_ret
    exact ⟨rfl, X1.out⟩
  obtain ⟨hB0, hC0⟩ := Q1.out (by omega)
  have HB0 := Lib.hid hB0
  clear hB0
  go_wp2_with fail
  refine (szInt64SS_ok _ _ _ _ m1 q1 _ (by omega) (by omega) (HM1.out.ext (X1.out.trans (by repeat (first | exact World.Ext.refl _ | exact ⟨_, rfl⟩ | assumption | refine World.Ext.over ?_ _ | refine World.Ext.drewN ?_ _ | refine World.Ext.drew ?_ | refine World.Ext.alloc ?_ _ | refine World.Ext.setCell ?_ (by simp) _)))) HL1.out).mono ?_
  rintro e v2 ⟨q2, rfl, hx, hq1, hq2⟩
  have k2_t2 := hx.cell (World.Ext.cell (by repeat (first | exact World.Ext.refl _ | exact ⟨_, rfl⟩ | assumption | refine World.Ext.over ?_ _ | refine World.Ext.drewN ?_ _ | refine World.Ext.drew ?_ | refine World.Ext.alloc ?_ _ | refine World.Ext.setCell ?_ (by simp) _)) k1_t2)
  have lk2_t2 := World.block_lt_of_cell? v2 _ k2_t2
  have X2 : Hid (w.Ext v2) := (X1.out.trans (by repeat (first | exact World.Ext.refl _ | exact ⟨_, rfl⟩ | assumption | refine World.Ext.over ?_ _ | refine World.Ext.drewN ?_ _ | refine World.Ext.drew ?_ | refine World.Ext.alloc ?_ _ | refine World.Ext.setCell ?_ (by simp) _))).trans hx
  have z2 : v1.heap.size ≤ v2.heap.size := hx.size
  have Q2 := Lib.hid hq2
  clear hx hq2 k1_t2 lk1_t2 X1
  by_cases hz2 : q2 < 0
  · go_wp2
    go_ret
    exact ⟨rfl, X2.out⟩
  obtain ⟨hB1, hC1⟩ := Q2.out (by omega)
  have HB1 := Lib.hid hB1
  clear hB1
  have HRBO0 := Lib.hid (HRB0.out HB0.out HB1.out)
  have hrb0 := HRBO0.out
  obtain ⟨hrbb0, hrb0⟩ := hrb0
  clear hrbb0
  go_wp2_with fail
  refine (toGrey_ok _ _ _ _ m0 _ HB0.out (HM0.out.ext (X2.out.trans (by repeat (first | exact World.Ext.refl _ | exact ⟨_, rfl⟩ | assumption | refine World.Ext.over ?_ _ | refine World.Ext.drewN ?_ _ | refine World.Ext.drew ?_ | refine World.Ext.alloc ?_ _ | refine World.Ext.setCell ?_ (by simp) _))))).mono ?_
  rintro e v3 ⟨g3, B3, D3, rfl, hx, ho⟩
  have k3_t2 := hx.cell (World.Ext.cell (by repeat (first | exact World.Ext.refl _ | exact ⟨_, rfl⟩ | assumption | refine World.Ext.over ?_ _ | refine World.Ext.drewN ?_ _ | refine World.Ext.drew ?_ | refine World.Ext.alloc ?_ _ | refine World.Ext.setCell ?_ (by simp) _)) k2_t2)
  have lk3_t2 := World.block_lt_of_cell? v3 _ k3_t2
  have X3 : Hid (w.Ext v3) := (X2.out.trans (by repeat (first | exact World.Ext.refl _ | exact ⟨_, rfl⟩ | assumption | refine World.Ext.over ?_ _ | refine World.Ext.drewN ?_ _ | refine World.Ext.drew ?_ | refine World.Ext.alloc ?_ _ | refine World.Ext.setCell ?_ (by simp) _))).trans hx
  have z3 : v2.heap.size ≤ v3.heap.size := hx.size
  have O3_c3 := Lib.hid (ho.mono (lo' := v2.heap.size) (by simp) (Nat.le_refl _))
  clear hx ho k2_t2 lk2_t2 X2
  go_wp2_with fail
  refine (toInt64SS_ok _ _ _ _ m1 _ HB1.out (HM1.out.ext (X3.out.trans (by repeat (first | exact World.Ext.refl _ | exact ⟨_, rfl⟩ | assumption | refine World.Ext.over ?_ _ | refine World.Ext.drewN ?_ _ | refine World.Ext.drew ?_ | refine World.Ext.alloc ?_ _ | refine World.Ext.setCell ?_ (by simp) _))))).mono ?_
  rintro e v4 ⟨g4, B4, D4, rfl, hx, ho⟩
  have k4_t2 := hx.cell (World.Ext.cell (by repeat (first | exact World.Ext.refl _ | exact ⟨_, rfl⟩ | assumption | refine World.Ext.over ?_ _ | refine World.Ext.drewN ?_ _ | refine World.Ext.drew ?_ | refine World.Ext.alloc ?_ _ | refine World.Ext.setCell ?_ (by simp) _)) k3_t2)
  have lk4_t2 := World.block_lt_of_cell? v4 _ k4_t2
  have X4 : Hid (w.Ext v4) := (X3.out.trans (by repeat (first | exact World.Ext.refl _ | exact ⟨_, rfl⟩ | assumption | refine World.Ext.over ?_ _ | refine World.Ext.drewN ?_ _ | refine World.Ext.drew ?_ | refine World.Ext.alloc ?_ _ | refine World.Ext.setCell ?_ (by simp) _))).trans hx
  have z4 : v3.heap.size ≤ v4.heap.size := hx.size
  have O4_c3 := Lib.hid ((O3_c3.out.ext (by repeat (first | exact World.Ext.refl _ | exact ⟨_, rfl⟩ | assumption | refine World.Ext.over ?_ _ | refine World.Ext.drewN ?_ _ | refine World.Ext.drew ?_ | refine World.Ext.alloc ?_ _ | refine World.Ext.setCell ?_ (by simp) _))).ext hx)
  have O4_c4 := Lib.hid (ho.mono (lo' := v3.heap.size) (by simp) (Nat.le_refl _))
  clear hx ho k3_t2 lk3_t2 O3_c3 X3
  go_wp2_with fail
  refine (HSPO.out HB0.out HB1.out _ _ _ _ _ _ _ _ _ ((O4_c3.out.ext (by repeat (first | exact World.Ext.refl _ | exact ⟨_, rfl⟩ | assumption | refine World.Ext.over ?_ _ | refine World.Ext.drewN ?_ _ | refine World.Ext.drew ?_ | refine World.Ext.alloc ?_ _ | refine World.Ext.setCell ?_ (by simp) _))).mat) ((O4_c4.out.ext (by repeat (first | exact World.Ext.refl _ | exact ⟨_, rfl⟩ | assumption | refine World.Ext.over ?_ _ | refine World.Ext.drewN ?_ _ | refine World.Ext.drew ?_ | refine World.Ext.alloc ?_ _ | refine World.Ext.setCell ?_ (by simp) _))).mat)).mono ?_
  rintro e v5 ⟨p5_0, r5_0, B5_0, D5_0, rfl, hx, ho0⟩
  have k5_t2 := hx.cell (World.Ext.cell (by repeat (first | exact World.Ext.refl _ | exact ⟨_, rfl⟩ | assumption | refine World.Ext.over ?_ _ | refine World.Ext.drewN ?_ _ | refine World.Ext.drew ?_ | refine World.Ext.alloc ?_ _ | refine World.Ext.setCell ?_ (by simp) _)) k4_t2)
  have lk5_t2 := World.block_lt_of_cell? v5 _ k5_t2
  have X5 : Hid (w.Ext v5) := (X4.out.trans (by repeat (first | exact World.Ext.refl _ | exact ⟨_, rfl⟩ | assumption | refine World.Ext.over ?_ _ | refine World.Ext.drewN ?_ _ | refine World.Ext.drew ?_ | refine World.Ext.alloc ?_ _ | refine World.Ext.setCell ?_ (by simp) _))).trans hx
  have z5 : v4.heap.size ≤ v5.heap.size := hx.size
  have O5_c3 := Lib.hid ((O4_c3.out.ext (by repeat (first | exact World.Ext.refl _ | exact ⟨_, rfl⟩ | assumption | refine World.Ext.over ?_ _ | refine World.Ext.drewN ?_ _ | refine World.Ext.drew ?_ | refine World.Ext.alloc ?_ _ | refine World.Ext.setCell ?_ (by simp) _))).ext hx)
  have O5_c4 := Lib.hid ((O4_c4.out.ext (by repeat (first | exact World.Ext.refl _ | exact ⟨_, rfl⟩ | assumption | refine World.Ext.over ?_ _ | refine World.Ext.drewN ?_ _ | refine World.Ext.drew ?_ | refine World.Ext.alloc ?_ _ | refine World.Ext.setCell ?_ (by simp) _))).ext hx)
  have O5_r5_0 := Lib.hid (ho0.mono (lo' := v4.heap.size) (by simp) (Nat.le_refl _))
  clear hx ho0 k4_t2 lk4_t2 O4_c3 O4_c4 X4
  go_wp2_with fail
  refine (toGrey_ok _ _ _ _ m0 _ HB0.out (HM0.out.ext (X5.out.trans (by repeat (first | exact World.Ext.refl _ | exact ⟨_, rfl⟩ | assumption | refine World.Ext.over ?_ _ | refine World.Ext.drewN ?_ _ | refine World.Ext.drew ?_ | refine World.Ext.alloc ?_ _ | refine World.Ext.setCell ?_ (by simp) _))))).mono ?_
  rintro e v6 ⟨g6, B6, D6, rfl, hx, ho⟩
  have k6_t2 := hx.cell (World.Ext.cell (by repeat (first | exact World.Ext.refl _ | exact ⟨_, rfl⟩ | assumption | refine World.Ext.over ?_ _ | refine World.Ext.drewN ?_ _ | refine World.Ext.drew ?_ | refine World.Ext.alloc ?_ _ | refine World.Ext.setCell ?_ (by simp) _)) k5_t2)
  have lk6_t2 := World.block_lt_of_cell? v6 _ k6_t2
  have X6 : Hid (w.Ext v6) := (X5.out.trans (by repeat (first | exact World.Ext.refl _ | exact ⟨_, rfl⟩ | assumption | refine World.Ext.over ?_ _ | refine World.Ext.drewN ?_ _ | refine World.Ext.drew ?_ | refine World.Ext.alloc ?_ _ | refine World.Ext.setCell ?_ (by simp) _))).trans hx
  have z6 : v5.heap.size ≤ v6.heap.size := hx.size
  have O6_c3 := Lib.hid ((O5_c3.out.ext (by repeat (first | exact World.Ext.refl _ | exact ⟨_, rfl⟩ | assumption | refine World.Ext.over ?_ _ | refine World.Ext.drewN ?_ _ | refine World.Ext.drew ?_ | refine World.Ext.alloc ?_ _ | refine World.Ext.setCell ?_ (by simp) _))).ext hx)
  have O6_c4 := Lib.hid ((O5_c4.out.ext (by repeat (first | exact World.Ext.refl _ | exact ⟨_, rfl⟩ | assumption | refine World.Ext.over ?_ _ | refine World.Ext.drewN ?_ _ | refine World.Ext.drew ?_ | refine World.Ext.alloc ?_ _ | refine World.Ext.setCell ?_ (by simp) _))).ext hx)
  have O6_r5_0 := Lib.hid ((O5_r5_0.out.ext (by repeat (first | exact World.Ext.refl _ | exact ⟨_, rfl⟩ | assumption | refine World.Ext.over ?_ _ | refine World.Ext.drewN ?_ _ | refine World.Ext.drew ?_ | refine World.Ext.alloc ?_ _ | refine World.Ext.setCell ?_ (by simp) _))).ext hx)
  have O6_c6 := Lib.hid (ho.mono (lo' := v5.heap.size) (by simp) (Nat.le_refl _))
  clear hx ho k5_t2 lk5_t2 O5_c3 O5_c4 O5_r5_0 X5
  go_wp2_with fail
  refine (toInt64SS_ok _ _ _ _ m1 _ HB1.out (HM1.out.ext (X6.out.trans (by repeat (first | exact World.Ext.refl _ | exact ⟨_, rfl⟩ | assumption | refine World.Ext.over ?_ _ | refine World.Ext.drewN ?_ _ | refine World.Ext.drew ?_ | refine World.Ext.alloc ?_ _ | refine World.Ext.setCell ?_ (by simp) _))))).mono ?_
  rintro e v7 ⟨g7, B7, D7, rfl, hx, ho⟩
  have k7_t2 := hx.cell (World.Ext.cell (by repeat (first | exact World.Ext.refl _ | exact ⟨_, rfl⟩ | assumption | refine World.Ext.over ?_ _ | refine World.Ext.drewN ?_ _ | refine World.Ext.drew ?_ | refine World.Ext.alloc ?_ _ | refine World.Ext.setCell ?_ (by simp) _)) k6_t2)
  have lk7_t2 := World.block_lt_of_cell? v7 _ k7_t2
  have k7_t8 := hx.cell (a := ⟨v6.heap.size, 0, none⟩) (v := .slice (some ⟨g6, 0, none⟩) m0.length m0.length) (by simp [go_sem])
  have lk7_t8 := World.block_lt_of_cell? v7 _ k7_t8
  have X7 : Hid (w.Ext v7) := (X6.out.trans (by repeat (first | exact World.Ext.refl _ | exact ⟨_, rfl⟩ | assumption | refine World.Ext.over ?_ _ | refine World.Ext.drewN ?_ _ | refine World.Ext.drew ?_ | refine World.Ext.alloc ?_ _ | refine World.Ext.setCell ?_ (by simp) _))).trans hx
  have z7 : v6.heap.size + 1 ≤ v7.heap.size := (by have h := hx.size; simp at h; omega)
  have O7_c3 := Lib.hid ((O6_c3.out.ext (by repeat (first | exact World.Ext.refl _ | exact ⟨_, rfl⟩ | assumption | refine World.Ext.over ?_ _ | refine World.Ext.drewN ?_ _ | refine World.Ext.drew ?_ | refine World.Ext.alloc ?_ _ | refine World.Ext.setCell ?_ (by simp) _))).ext hx)
  have O7_c4 := Lib.hid ((O6_c4.out.ext (by repeat (first | exact World.Ext.refl _ | exact ⟨_, rfl⟩ | assumption | refine World.Ext.over ?_ _ | refine World.Ext.drewN ?_ _ | refine World.Ext.drew ?_ | refine World.Ext.alloc ?_ _ | refine World.Ext.setCell ?_ (by simp) _))).ext hx)
  have O7_r5_0 := Lib.hid ((O6_r5_0.out.ext (by repeat (first | exact World.Ext.refl _ | exact ⟨_, rfl⟩ | assumption | refine World.Ext.over ?_ _ | refine World.Ext.drewN ?_ _ | refine World.Ext.drew ?_ | refine World.Ext.alloc ?_ _ | refine World.Ext.setCell ?_ (by simp) _))).ext hx)
  have O7_c6 := Lib.hid ((O6_c6.out.ext (by repeat (first | exact World.Ext.refl _ | exact ⟨_, rfl⟩ | assumption | refine World.Ext.over ?_ _ | refine World.Ext.drewN ?_ _ | refine World.Ext.drew ?_ | refine World.Ext.alloc ?_ _ | refine World.Ext.setCell ?_ (by simp) _))).ext hx)
  have O7_c7 := Lib.hid (ho.mono (lo' := v6.heap.size + 1) (by simp) (Nat.le_refl _))
  clear hx ho k6_t2 lk6_t2 O6_c3 O6_c4 O6_r5_0 O6_c6 X6
  go_wp2_with fail
  refine (HIMO.out HB0.out HB1.out _ _ _ _ _ _ _ _ _ ((O7_c6.out.ext (by repeat (first | exact World.Ext.refl _ | exact ⟨_, rfl⟩ | assumption | refine World.Ext.over ?_ _ | refine World.Ext.drewN ?_ _ | refine World.Ext.drew ?_ | refine World.Ext.alloc ?_ _ | refine World.Ext.setCell ?_ (by simp) _))).mat) ((O7_c7.out.ext (by repeat (first | exact World.Ext.refl _ | exact ⟨_, rfl⟩ | assumption | refine World.Ext.over ?_ _ | refine World.Ext.drewN ?_ _ | refine World.Ext.drew ?_ | refine World.Ext.alloc ?_ _ | refine World.Ext.setCell ?_ (by simp) _))).mat)).mono ?_
  rintro e v8 ⟨p8_0, r8_0, B8_0, D8_0, rfl, hx, ho0⟩
  have k8_t2 := hx.cell (World.Ext.cell (by repeat (first | exact World.Ext.refl _ | exact ⟨_, rfl⟩ | assumption | refine World.Ext.over ?_ _ | refine World.Ext.drewN ?_ _ | refine World.Ext.drew ?_ | refine World.Ext.alloc ?_ _ | refine World.Ext.setCell ?_ (by simp) _)) k7_t2)
  have lk8_t2 := World.block_lt_of_cell? v8 _ k8_t2
  have k8_t8 := hx.cell (World.Ext.cell (by repeat (first | exact World.Ext.refl _ | exact ⟨_, rfl⟩ | assumption | refine World.Ext.over ?_ _ | refine World.Ext.drewN ?_ _ | refine World.Ext.drew ?_ | refine World.Ext.alloc ?_ _ | refine World.Ext.setCell ?_ (by simp) _)) k7_t8)
  have lk8_t8 := World.block_lt_of_cell? v8 _ k8_t8
  have X8 : Hid (w.Ext v8) := (X7.out.trans (by repeat (first | exact World.Ext.refl _ | exact ⟨_, rfl⟩ | assumption | refine World.Ext.over ?_ _ | refine World.Ext.drewN ?_ _ | refine World.Ext.drew ?_ | refine World.Ext.alloc ?_ _ | refine World.Ext.setCell ?_ (by simp) _))).trans hx
  have z8 : v7.heap.size ≤ v8.heap.size := hx.size
  have O8_c3 := Lib.hid ((O7_c3.out.ext (by repeat (first | exact World.Ext.refl _ | exact ⟨_, rfl⟩ | assumption | refine World.Ext.over ?_ _ | refine World.Ext.drewN ?_ _ | refine World.Ext.drew ?_ | refine World.Ext.alloc ?_ _ | refine World.Ext.setCell ?_ (by simp) _))).ext hx)
  have O8_c4 := Lib.hid ((O7_c4.out.ext (by repeat (first | exact World.Ext.refl _ | exact ⟨_, rfl⟩ | assumption | refine World.Ext.over ?_ _ | refine World.Ext.drewN ?_ _ | refine World.Ext.drew ?_ | refine World.Ext.alloc ?_ _ | refine World.Ext.setCell ?_ (by simp) _))).ext hx)
  have O8_r5_0 := Lib.hid ((O7_r5_0.out.ext (by repeat (first | exact World.Ext.refl _ | exact ⟨_, rfl⟩ | assumption | refine World.Ext.over ?_ _ | refine World.Ext.drewN ?_ _ | refine World.Ext.drew ?_ | refine World.Ext.alloc ?_ _ | refine World.Ext.setCell ?_ (by simp) _))).ext hx)
  have O8_c6 := Lib.hid ((O7_c6.out.ext (by repeat (first | exact World.Ext.refl _ | exact ⟨_, rfl⟩ | assumption | refine World.Ext.over ?_ _ | refine World.Ext.drewN ?_ _ | refine World.Ext.drew ?_ | refine World.Ext.alloc ?_ _ | refine World.Ext.setCell ?_ (by simp) _))).ext hx)
  have O8_c7 := Lib.hid ((O7_c7.out.ext (by repeat (first | exact World.Ext.refl _ | exact ⟨_, rfl⟩ | assumption | refine World.Ext.over ?_ _ | refine World.Ext.drewN ?_ _ | refine World.Ext.drew ?_ | refine World.Ext.alloc ?_ _ | refine World.Ext.setCell ?_ (by simp) _))).ext hx)
  have O8_r8_0 := Lib.hid (ho0.mono (lo' := v7.heap.size) (by simp) (Nat.le_refl _))
  clear hx ho0 k7_t2 lk7_t2 k7_t8 lk7_t8 O7_c3 O7_c4 O7_r5_0 O7_c6 O7_c7 X7
  go_wp2_with fail
  refine (eqInt64SS_res _ _ _ _ _ _ _ _ R0 _ HRBO0.out ((O8_r8_0.out.ext (by repeat (first | exact World.Ext.refl _ | exact ⟨_, rfl⟩ | assumption | refine World.Ext.over ?_ _ | refine World.Ext.drewN ?_ _ | refine World.Ext.drew ?_ | refine World.Ext.alloc ?_ _ | refine World.Ext.setCell ?_ (by simp) _))).mat) ((O8_r5_0.out.ext (by repeat (first | exact World.Ext.refl _ | exact ⟨_, rfl⟩ | assumption | refine World.Ext.over ?_ _ | refine World.Ext.drewN ?_ _ | refine World.Ext.drew ?_ | refine World.Ext.alloc ?_ _ | refine World.Ext.setCell ?_ (by simp) _))).mat)).mono ?_
  rintro e v9 ⟨rfl, hx⟩
  have k9_t2 := hx.cell (World.Ext.cell (by repeat (first | exact World.Ext.refl _ | exact ⟨_, rfl⟩ | assumption | refine World.Ext.over ?_ _ | refine World.Ext.drewN ?_ _ | refine World.Ext.drew ?_ | refine World.Ext.alloc ?_ _ | refine World.Ext.setCell ?_ (by simp) _)) k8_t2)
  have lk9_t2 := World.block_lt_of_cell? v9 _ k9_t2
  have k9_t8 := hx.cell (World.Ext.cell (by repeat (first | exact World.Ext.refl _ | exact ⟨_, rfl⟩ | assumption | refine World.Ext.over ?_ _ | refine World.Ext.drewN ?_ _ | refine World.Ext.drew ?_ | refine World.Ext.alloc ?_ _ | refine World.Ext.setCell ?_ (by simp) _)) k8_t8)
  have lk9_t8 := World.block_lt_of_cell? v9 _ k9_t8
  have X9 : Hid (w.Ext v9) := (X8.out.trans (by repeat (first | exact World.Ext.refl _ | exact ⟨_, rfl⟩ | assumption | refine World.Ext.over ?_ _ | refine World.Ext.drewN ?_ _ | refine World.Ext.drew ?_ | refine World.Ext.alloc ?_ _ | refine World.Ext.setCell ?_ (by simp) _))).trans hx
  have z9 : v8.heap.size ≤ v9.heap.size := hx.size
  have O9_c3 := Lib.hid ((O8_c3.out.ext (by repeat (first | exact World.Ext.refl _ | exact ⟨_, rfl⟩ | assumption | refine World.Ext.over ?_ _ | refine World.Ext.drewN ?_ _ | refine World.Ext.drew ?_ | refine World.Ext.alloc ?_ _ | refine World.Ext.setCell ?_ (by simp) _))).ext hx)
  have O9_c4 := Lib.hid ((O8_c4.out.ext (by repeat (first | exact World.Ext.refl _ | exact ⟨_, rfl⟩ | assumption | refine World.Ext.over ?_ _ | refine World.Ext.drewN ?_ _ | refine World.Ext.drew ?_ | refine World.Ext.alloc ?_ _ | refine World.Ext.setCell ?_ (by simp) _))).ext hx)
  have O9_r5_0 := Lib.hid ((O8_r5_0.out.ext (by repeat (first | exact World.Ext.refl _ | exact ⟨_, rfl⟩ | assumption | refine World.Ext.over ?_ _ | refine World.Ext.drewN ?_ _ | refine World.Ext.drew ?_ | refine World.Ext.alloc ?_ _ | refine World.Ext.setCell ?_ (by simp) _))).ext hx)
  have O9_c6 := Lib.hid ((O8_c6.out.ext (by repeat (first | exact World.Ext.refl _ | exact ⟨_, rfl⟩ | assumption | refine World.Ext.over ?_ _ | refine World.Ext.drewN ?_ _ | refine World.Ext.drew ?_ | refine World.Ext.alloc ?_ _ | refine World.Ext.setCell ?_ (by simp) _))).ext hx)
  have O9_c7 := Lib.hid ((O8_c7.out.ext (by repeat (first | exact World.Ext.refl _ | exact ⟨_, rfl⟩ | assumption | refine World.Ext.over ?_ _ | refine World.Ext.drewN ?_ _ | refine World.Ext.drew ?_ | refine World.Ext.alloc ?_ _ | refine World.Ext.setCell ?_ (by simp) _))).ext hx)
  have O9_r8_0 := Lib.hid ((O8_r8_0.out.ext (by repeat (first | exact World.Ext.refl _ | exact ⟨_, rfl⟩ | assumption | refine World.Ext.over ?_ _ | refine World.Ext.drewN ?_ _ | refine World.Ext.drew ?_ | refine World.Ext.alloc ?_ _ | refine World.Ext.setCell ?_ (by simp) _))).ext hx)
  clear hx k8_t2 lk8_t2 k8_t8 lk8_t8 O8_c3 O8_c4 O8_r5_0 O8_c6 O8_c7 O8_r8_0 X8
  go_wp2_with fail
  go_region_held3 (fun w' => w'.cell? ⟨v6.heap.size, 0, none⟩ = some (.slice (some ⟨g6, 0, none⟩) m0.length m0.length) ∧ w'.cell? ⟨w.heap.size, 0, none⟩ = some (.slice a0 m0.length c0) ∧ v9.Ext w')
    (first | (refine ⟨World.Ext.cell ?_ k11_t8, World.Ext.cell ?_ k11_t2, World.Ext.trans E11 ?_⟩ <;> ((repeat (first | exact World.Ext.refl _ | exact ⟨_, rfl⟩ | assumption | refine World.Ext.over ?_ _ | refine World.Ext.drewN ?_ _ | refine World.Ext.drew ?_ | refine World.Ext.alloc ?_ _ | refine World.Ext.setCell ?_ ?_ _ | (simp; done))); done)) | (refine ⟨World.Ext.cell ?_ k10_t8, World.Ext.cell ?_ k10_t2, World.Ext.trans E10 ?_⟩ <;> ((repeat (first | exact World.Ext.refl _ | exact ⟨_, rfl⟩ | assumption | refine World.Ext.over ?_ _ | refine World.Ext.drewN ?_ _ | refine World.Ext.drew ?_ | refine World.Ext.alloc ?_ _ | refine World.Ext.setCell ?_ ?_ _ | (simp; done))); done)) | (refine ⟨World.Ext.cell ?_ k9_t8, World.Ext.cell ?_ k9_t2, ?_⟩ <;> ((repeat (first | exact World.Ext.refl _ | exact ⟨_, rfl⟩ | assumption | refine World.Ext.over ?_ _ | refine World.Ext.drewN ?_ _ | refine World.Ext.drew ?_ | refine World.Ext.alloc ?_ _ | refine World.Ext.setCell ?_ ?_ _ | (simp; done))); done)) | (refine ⟨World.Ext.cell ?_ k9_t8, World.Ext.cell ?_ k9_t2, ?_⟩ <;> (refine World.Ext.setCell E11 ?_ _; first | exact Nat.le_refl _ | (simp; done) | (simp; omega) | omega)))
    (first | (go_at_call 34; go_loud (refine (toGrey_ok _ _ _ _ m0 _ HB0.out (HM0.out.ext (X9.out.trans (by repeat (first | exact World.Ext.refl _ | exact ⟨_, rfl⟩ | assumption | refine World.Ext.over ?_ _ | refine World.Ext.drewN ?_ _ | refine World.Ext.drew ?_ | refine World.Ext.alloc ?_ _ | refine World.Ext.setCell ?_ (by simp) _))))).mono ?_; rintro e v10 ⟨g10, B10, D10, rfl, hx, ho⟩; (have k10_t2 := hx.cell (World.Ext.cell (by repeat (first | exact World.Ext.refl _ | exact ⟨_, rfl⟩ | assumption | refine World.Ext.over ?_ _ | refine World.Ext.drewN ?_ _ | refine World.Ext.drew ?_ | refine World.Ext.alloc ?_ _ | refine World.Ext.setCell ?_ (by simp) _)) k9_t2); have lk10_t2 := World.block_lt_of_cell? v10 _ k10_t2; have k10_t8 := hx.cell (World.Ext.cell (by repeat (first | exact World.Ext.refl _ | exact ⟨_, rfl⟩ | assumption | refine World.Ext.over ?_ _ | refine World.Ext.drewN ?_ _ | refine World.Ext.drew ?_ | refine World.Ext.alloc ?_ _ | refine World.Ext.setCell ?_ (by simp) _)) k9_t8); have lk10_t8 := World.block_lt_of_cell? v10 _ k10_t8; have X10 : Hid (w.Ext v10) := (X9.out.trans (by repeat (first | exact World.Ext.refl _ | exact ⟨_, rfl⟩ | assumption | refine World.Ext.over ?_ _ | refine World.Ext.drewN ?_ _ | refine World.Ext.drew ?_ | refine World.Ext.alloc ?_ _ | refine World.Ext.setCell ?_ (by simp) _))).trans hx; have z10 : v9.heap.size ≤ v10.heap.size := Nat.le_trans (World.Ext.size (by repeat (first | exact World.Ext.refl _ | exact ⟨_, rfl⟩ | assumption | refine World.Ext.over ?_ _ | refine World.Ext.drewN ?_ _ | refine World.Ext.drew ?_ | refine World.Ext.alloc ?_ _ | refine World.Ext.setCell ?_ (by simp) _))) hx.size; have O10_c3 := Lib.hid ((O9_c3.out.ext (by repeat (first | exact World.Ext.refl _ | exact ⟨_, rfl⟩ | assumption | refine World.Ext.over ?_ _ | refine World.Ext.drewN ?_ _ | refine World.Ext.drew ?_ | refine World.Ext.alloc ?_ _ | refine World.Ext.setCell ?_ (by simp) _))).ext hx); have O10_c4 := Lib.hid ((O9_c4.out.ext (by repeat (first | exact World.Ext.refl _ | exact ⟨_, rfl⟩ | assumption | refine World.Ext.over ?_ _ | refine World.Ext.drewN ?_ _ | refine World.Ext.drew ?_ | refine World.Ext.alloc ?_ _ | refine World.Ext.setCell ?_ (by simp) _))).ext hx); have O10_r5_0 := Lib.hid ((O9_r5_0.out.ext (by repeat (first | exact World.Ext.refl _ | exact ⟨_, rfl⟩ | assumption | refine World.Ext.over ?_ _ | refine World.Ext.drewN ?_ _ | refine World.Ext.drew ?_ | refine World.Ext.alloc ?_ _ | refine World.Ext.setCell ?_ (by simp) _))).ext hx); have O10_c6 := Lib.hid ((O9_c6.out.ext (by repeat (first | exact World.Ext.refl _ | exact ⟨_, rfl⟩ | assumption | refine World.Ext.over ?_ _ | refine World.Ext.drewN ?_ _ | refine World.Ext.drew ?_ | refine World.Ext.alloc ?_ _ | refine World.Ext.setCell ?_ (by simp) _))).ext hx); have O10_c7 := Lib.hid ((O9_c7.out.ext (by repeat (first | exact World.Ext.refl _ | exact ⟨_, rfl⟩ | assumption | refine World.Ext.over ?_ _ | refine World.Ext.drewN ?_ _ | refine World.Ext.drew ?_ | refine World.Ext.alloc ?_ _ | refine World.Ext.setCell ?_ (by simp) _))).ext hx); have O10_r8_0 := Lib.hid ((O9_r8_0.out.ext (by repeat (first | exact World.Ext.refl _ | exact ⟨_, rfl⟩ | assumption | refine World.Ext.over ?_ _ | refine World.Ext.drewN ?_ _ | refine World.Ext.drew ?_ | refine World.Ext.alloc ?_ _ | refine World.Ext.setCell ?_ (by simp) _))).ext hx); have E10 : v9.Ext v10 := World.Ext.trans (by repeat (first | exact World.Ext.refl _ | exact ⟨_, rfl⟩ | assumption | refine World.Ext.over ?_ _ | refine World.Ext.drewN ?_ _ | refine World.Ext.drew ?_ | refine World.Ext.alloc ?_ _ | refine World.Ext.setCell ?_ (by simp) _)) hx; (first | have hA := oldCell1 hA hx | have hA := newCellD hx | have hA := newCell1 hx | skip); (try have hAl := World.block_lt_of_cell? v10 _ hA.1); have O10_c10 := Lib.hid (ho.mono (lo' := v9.heap.size) (by simp) (Nat.le_refl _))))) | (go_at_call 26; go_loud (refine (eqGrey_ok _ _ _ _ _ _ _ _ m0 _ HB0.out ((O10_c6.out.ext (by repeat (first | exact World.Ext.refl _ | exact ⟨_, rfl⟩ | assumption | refine World.Ext.over ?_ _ | refine World.Ext.drewN ?_ _ | refine World.Ext.drew ?_ | refine World.Ext.alloc ?_ _ | refine World.Ext.setCell ?_ (by simp) _))).mat) ((O10_c10.out.ext (by repeat (first | exact World.Ext.refl _ | exact ⟨_, rfl⟩ | assumption | refine World.Ext.over ?_ _ | refine World.Ext.drewN ?_ _ | refine World.Ext.drew ?_ | refine World.Ext.alloc ?_ _ | refine World.Ext.setCell ?_ (by simp) _))).mat)).mono ?_; rintro e v11 ⟨rfl, hx⟩; (have k11_t2 := hx.cell (World.Ext.cell (by repeat (first | exact World.Ext.refl _ | exact ⟨_, rfl⟩ | assumption | refine World.Ext.over ?_ _ | refine World.Ext.drewN ?_ _ | refine World.Ext.drew ?_ | refine World.Ext.alloc ?_ _ | refine World.Ext.setCell ?_ (by simp) _)) k10_t2); have lk11_t2 := World.block_lt_of_cell? v11 _ k11_t2; have k11_t8 := hx.cell (World.Ext.cell (by repeat (first | exact World.Ext.refl _ | exact ⟨_, rfl⟩ | assumption | refine World.Ext.over ?_ _ | refine World.Ext.drewN ?_ _ | refine World.Ext.drew ?_ | refine World.Ext.alloc ?_ _ | refine World.Ext.setCell ?_ (by simp) _)) k10_t8); have lk11_t8 := World.block_lt_of_cell? v11 _ k11_t8; have X11 : Hid (w.Ext v11) := (X10.out.trans (by repeat (first | exact World.Ext.refl _ | exact ⟨_, rfl⟩ | assumption | refine World.Ext.over ?_ _ | refine World.Ext.drewN ?_ _ | refine World.Ext.drew ?_ | refine World.Ext.alloc ?_ _ | refine World.Ext.setCell ?_ (by simp) _))).trans hx; have z11 : v10.heap.size ≤ v11.heap.size := Nat.le_trans (World.Ext.size (by repeat (first | exact World.Ext.refl _ | exact ⟨_, rfl⟩ | assumption | refine World.Ext.over ?_ _ | refine World.Ext.drewN ?_ _ | refine World.Ext.drew ?_ | refine World.Ext.alloc ?_ _ | refine World.Ext.setCell ?_ (by simp) _))) hx.size; have O11_c3 := Lib.hid ((O10_c3.out.ext (by repeat (first | exact World.Ext.refl _ | exact ⟨_, rfl⟩ | assumption | refine World.Ext.over ?_ _ | refine World.Ext.drewN ?_ _ | refine World.Ext.drew ?_ | refine World.Ext.alloc ?_ _ | refine World.Ext.setCell ?_ (by simp) _))).ext hx); have O11_c4 := Lib.hid ((O10_c4.out.ext (by repeat (first | exact World.Ext.refl _ | exact ⟨_, rfl⟩ | assumption | refine World.Ext.over ?_ _ | refine World.Ext.drewN ?_ _ | refine World.Ext.drew ?_ | refine World.Ext.alloc ?_ _ | refine World.Ext.setCell ?_ (by simp) _))).ext hx); have O11_r5_0 := Lib.hid ((O10_r5_0.out.ext (by repeat (first | exact World.Ext.refl _ | exact ⟨_, rfl⟩ | assumption | refine World.Ext.over ?_ _ | refine World.Ext.drewN ?_ _ | refine World.Ext.drew ?_ | refine World.Ext.alloc ?_ _ | refine World.Ext.setCell ?_ (by simp) _))).ext hx); have O11_c6 := Lib.hid ((O10_c6.out.ext (by repeat (first | exact World.Ext.refl _ | exact ⟨_, rfl⟩ | assumption | refine World.Ext.over ?_ _ | refine World.Ext.drewN ?_ _ | refine World.Ext.drew ?_ | refine World.Ext.alloc ?_ _ | refine World.Ext.setCell ?_ (by simp) _))).ext hx); have O11_c7 := Lib.hid ((O10_c7.out.ext (by repeat (first | exact World.Ext.refl _ | exact ⟨_, rfl⟩ | assumption | refine World.Ext.over ?_ _ | refine World.Ext.drewN ?_ _ | refine World.Ext.drew ?_ | refine World.Ext.alloc ?_ _ | refine World.Ext.setCell ?_ (by simp) _))).ext hx); have O11_r8_0 := Lib.hid ((O10_r8_0.out.ext (by repeat (first | exact World.Ext.refl _ | exact ⟨_, rfl⟩ | assumption | refine World.Ext.over ?_ _ | refine World.Ext.drewN ?_ _ | refine World.Ext.drew ?_ | refine World.Ext.alloc ?_ _ | refine World.Ext.setCell ?_ (by simp) _))).ext hx); have O11_c10 := Lib.hid ((O10_c10.out.ext (by repeat (first | exact World.Ext.refl _ | exact ⟨_, rfl⟩ | assumption | refine World.Ext.over ?_ _ | refine World.Ext.drewN ?_ _ | refine World.Ext.drew ?_ | refine World.Ext.alloc ?_ _ | refine World.Ext.setCell ?_ (by simp) _))).ext hx); have E11 : v9.Ext v11 := World.Ext.trans (World.Ext.trans E10 (by repeat (first | exact World.Ext.refl _ | exact ⟨_, rfl⟩ | assumption | refine World.Ext.over ?_ _ | refine World.Ext.drewN ?_ _ | refine World.Ext.drew ?_ | refine World.Ext.alloc ?_ _ | refine World.Ext.setCell ?_ (by simp) _))) hx; (first | have hA := oldCell1 hA hx | have hA := newCellD hx | have hA := newCell1 hx | skip); (try have hAl := World.block_lt_of_cell? v11 _ hA.1)))))
  go_wp2_with fail
  refine (toInt64SS_ok _ _ _ _ m1 _ HB1.out (HM1.out.ext (X11.out.trans (by repeat (first | exact World.Ext.refl _ | exact ⟨_, rfl⟩ | assumption | refine World.Ext.over ?_ _ | refine World.Ext.drewN ?_ _ | refine World.Ext.drew ?_ | refine World.Ext.alloc ?_ _ | refine World.Ext.setCell ?_ (by simp) _))))).mono ?_
  rintro e v12 ⟨g12, B12, D12, rfl, hx, ho⟩
  have k12_t2 := hx.cell (World.Ext.cell (by repeat (first | exact World.Ext.refl _ | exact ⟨_, rfl⟩ | assumption | refine World.Ext.over ?_ _ | refine World.Ext.drewN ?_ _ | refine World.Ext.drew ?_ | refine World.Ext.alloc ?_ _ | refine World.Ext.setCell ?_ (by simp) _)) k11_t2)
  have lk12_t2 := World.block_lt_of_cell? v12 _ k12_t2
  have k12_t8 := hx.cell (World.Ext.cell (by repeat (first | exact World.Ext.refl _ | exact ⟨_, rfl⟩ | assumption | refine World.Ext.over ?_ _ | refine World.Ext.drewN ?_ _ | refine World.Ext.drew ?_ | refine World.Ext.alloc ?_ _ | refine World.Ext.setCell ?_ (by simp) _)) k11_t8)
  have lk12_t8 := World.block_lt_of_cell? v12 _ k12_t8
  have X12 : Hid (w.Ext v12) := (X11.out.trans (by repeat (first | exact World.Ext.refl _ | exact ⟨_, rfl⟩ | assumption | refine World.Ext.over ?_ _ | refine World.Ext.drewN ?_ _ | refine World.Ext.drew ?_ | refine World.Ext.alloc ?_ _ | refine World.Ext.setCell ?_ (by simp) _))).trans hx
  have z12 : v11.heap.size ≤ v12.heap.size := hx.size
  have O12_c3 := Lib.hid ((O11_c3.out.ext (by repeat (first | exact World.Ext.refl _ | exact ⟨_, rfl⟩ | assumption | refine World.Ext.over ?_ _ | refine World.Ext.drewN ?_ _ | refine World.Ext.drew ?_ | refine World.Ext.alloc ?_ _ | refine World.Ext.setCell ?_ (by simp) _))).ext hx)
  have O12_c4 := Lib.hid ((O11_c4.out.ext (by repeat (first | exact World.Ext.refl _ | exact ⟨_, rfl⟩ | assumption | refine World.Ext.over ?_ _ | refine World.Ext.drewN ?_ _ | refine World.Ext.drew ?_ | refine World.Ext.alloc ?_ _ | refine World.Ext.setCell ?_ (by simp) _))).ext hx)
  have O12_r5_0 := Lib.hid ((O11_r5_0.out.ext (by repeat (first | exact World.Ext.refl _ | exact ⟨_, rfl⟩ | assumption | refine World.Ext.over ?_ _ | refine World.Ext.drewN ?_ _ | refine World.Ext.drew ?_ | refine World.Ext.alloc ?_ _ | refine World.Ext.setCell ?_ (by simp) _))).ext hx)
  have O12_c6 := Lib.hid ((O11_c6.out.ext (by repeat (first | exact World.Ext.refl _ | exact ⟨_, rfl⟩ | assumption | refine World.Ext.over ?_ _ | refine World.Ext.drewN ?_ _ | refine World.Ext.drew ?_ | refine World.Ext.alloc ?_ _ | refine World.Ext.setCell ?_ (by simp) _))).ext hx)
  have O12_c7 := Lib.hid ((O11_c7.out.ext (by repeat (first | exact World.Ext.refl _ | exact ⟨_, rfl⟩ | assumption | refine World.Ext.over ?_ _ | refine World.Ext.drewN ?_ _ | refine World.Ext.drew ?_ | refine World.Ext.alloc ?_ _ | refine World.Ext.setCell ?_ (by simp) _))).ext hx)
  have O12_r8_0 := Lib.hid ((O11_r8_0.out.ext (by repeat (first | exact World.Ext.refl _ | exact ⟨_, rfl⟩ | assumption | refine World.Ext.over ?_ _ | refine World.Ext.drewN ?_ _ | refine World.Ext.drew ?_ | refine World.Ext.alloc ?_ _ | refine World.Ext.setCell ?_ (by simp) _))).ext hx)
  have O12_c10 := Lib.hid ((O11_c10.out.ext (by repeat (first | exact World.Ext.refl _ | exact ⟨_, rfl⟩ | assumption | refine World.Ext.over ?_ _ | refine World.Ext.drewN ?_ _ | refine World.Ext.drew ?_ | refine World.Ext.alloc ?_ _ | refine World.Ext.setCell ?_ (by simp) _))).ext hx)
  have O12_c12 := Lib.hid (ho.mono (lo' := v11.heap.size) (by simp) (Nat.le_refl _))
  clear hx ho k11_t2 lk11_t2 k11_t8 lk11_t8 O11_c3 O11_c4 O11_r5_0 O11_c6 O11_c7 O11_r8_0 O11_c10 X11
  go_wp2_with fail
  refine (eqInt64SS_ok _ _ _ _ _ _ _ _ m1 _ HB1.out ((O12_c7.out.ext (by repeat (first | exact World.Ext.refl _ | exact ⟨_, rfl⟩ | assumption | refine World.Ext.over ?_ _ | refine World.Ext.drewN ?_ _ | refine World.Ext.drew ?_ | refine World.Ext.alloc ?_ _ | refine World.Ext.setCell ?_ (by simp) _))).mat) ((O12_c12.out.ext (by repeat (first | exact World.Ext.refl _ | exact ⟨_, rfl⟩ | assumption | refine World.Ext.over ?_ _ | refine World.Ext.drewN ?_ _ | refine World.Ext.drew ?_ | refine World.Ext.alloc ?_ _ | refine World.Ext.setCell ?_ (by simp) _))).mat)).mono ?_
  rintro e v13 ⟨rfl, hx⟩
  have k13_t2 := hx.cell (World.Ext.cell (by repeat (first | exact World.Ext.refl _ | exact ⟨_, rfl⟩ | assumption | refine World.Ext.over ?_ _ | refine World.Ext.drewN ?_ _ | refine World.Ext.drew ?_ | refine World.Ext.alloc ?_ _ | refine World.Ext.setCell ?_ (by simp) _)) k12_t2)
  have lk13_t2 := World.block_lt_of_cell? v13 _ k13_t2
  have k13_t8 := hx.cell (World.Ext.cell (by repeat (first | exact World.Ext.refl _ | exact ⟨_, rfl⟩ | assumption | refine World.Ext.over ?_ _ | refine World.Ext.drewN ?_ _ | refine World.Ext.drew ?_ | refine World.Ext.alloc ?_ _ | refine World.Ext.setCell ?_ (by simp) _)) k12_t8)
  have lk13_t8 := World.block_lt_of_cell? v13 _ k13_t8
  have X13 : Hid (w.Ext v13) := (X12.out.trans (by repeat (first | exact World.Ext.refl _ | exact ⟨_, rfl⟩ | assumption | refine World.Ext.over ?_ _ | refine World.Ext.drewN ?_ _ | refine World.Ext.drew ?_ | refine World.Ext.alloc ?_ _ | refine World.Ext.setCell ?_ (by simp) _))).trans hx
  have z13 : v12.heap.size ≤ v13.heap.size := hx.size
  have O13_c3 := Lib.hid ((O12_c3.out.ext (by repeat (first | exact World.Ext.refl _ | exact ⟨_, rfl⟩ | assumption | refine World.Ext.over ?_ _ | refine World.Ext.drewN ?_ _ | refine World.Ext.drew ?_ | refine World.Ext.alloc ?_ _ | refine World.Ext.setCell ?_ (by simp) _))).ext hx)
  have O13_c4 := Lib.hid ((O12_c4.out.ext (by repeat (first | exact World.Ext.refl _ | exact ⟨_, rfl⟩ | assumption | refine World.Ext.over ?_ _ | refine World.Ext.drewN ?_ _ | refine World.Ext.drew ?_ | refine World.Ext.alloc ?_ _ | refine World.Ext.setCell ?_ (by simp) _))).ext hx)
  have O13_r5_0 := Lib.hid ((O12_r5_0.out.ext (by repeat (first | exact World.Ext.refl _ | exact ⟨_, rfl⟩ | assumption | refine World.Ext.over ?_ _ | refine World.Ext.drewN ?_ _ | refine World.Ext.drew ?_ | refine World.Ext.alloc ?_ _ | refine World.Ext.setCell ?_ (by simp) _))).ext hx)
  have O13_c6 := Lib.hid ((O12_c6.out.ext (by repeat (first | exact World.Ext.refl _ | exact ⟨_, rfl⟩ | assumption | refine World.Ext.over ?_ _ | refine World.Ext.drewN ?_ _ | refine World.Ext.drew ?_ | refine World.Ext.alloc ?_ _ | refine World.Ext.setCell ?_ (by simp) _))).ext hx)
  have O13_c7 := Lib.hid ((O12_c7.out.ext (by repeat (first | exact World.Ext.refl _ | exact ⟨_, rfl⟩ | assumption | refine World.Ext.over ?_ _ | refine World.Ext.drewN ?_ _ | refine World.Ext.drew ?_ | refine World.Ext.alloc ?_ _ | refine World.Ext.setCell ?_ (by simp) _))).ext hx)
  have O13_r8_0 := Lib.hid ((O12_r8_0.out.ext (by repeat (first | exact World.Ext.refl _ | exact ⟨_, rfl⟩ | assumption | refine World.Ext.over ?_ _ | refine World.Ext.drewN ?_ _ | refine World.Ext.drew ?_ | refine World.Ext.alloc ?_ _ | refine World.Ext.setCell ?_ (by simp) _))).ext hx)
  have O13_c10 := Lib.hid ((O12_c10.out.ext (by repeat (first | exact World.Ext.refl _ | exact ⟨_, rfl⟩ | assumption | refine World.Ext.over ?_ _ | refine World.Ext.drewN ?_ _ | refine World.Ext.drew ?_ | refine World.Ext.alloc ?_ _ | refine World.Ext.setCell ?_ (by simp) _))).ext hx)
  have O13_c12 := Lib.hid ((O12_c12.out.ext (by repeat (first | exact World.Ext.refl _ | exact ⟨_, rfl⟩ | assumption | refine World.Ext.over ?_ _ | refine World.Ext.drewN ?_ _ | refine World.Ext.drew ?_ | refine World.Ext.alloc ?_ _ | refine World.Ext.setCell ?_ (by simp) _))).ext hx)
  clear hx k12_t2 lk12_t2 k12_t8 lk12_t8 O12_c3 O12_c4 O12_r5_0 O12_c6 O12_c7 O12_r8_0 O12_c10 O12_c12 X12
  go_wp2_with fail
  refine (markGrey_ok _ _ _ _ m0 1 v5.heap.size v6.heap.size _ HB0.out (by omega) O13_c6.out).mono ?_
  rintro e v14 ⟨rfl, hw, hn⟩
  have k14_t2 := hw.cell k13_t2 (by dsimp only; omega)
  have lk14_t2 := World.block_lt_of_cell? v14 _ k14_t2
  have k14_t8 := hw.cell k13_t8 (by dsimp only; omega)
  have lk14_t8 := World.block_lt_of_cell? v14 _ k14_t8
  have X14 : Hid (w.Ext v14) := X13.out.wroteNew hw (fun k hk => by omega)
  have z14 : v13.heap.size ≤ v14.heap.size := hw.size
  have O14_c3 := Lib.hid (O13_c3.out.wrote hw (fun k h1 h2 => by omega))
  have O14_c4 := Lib.hid (O13_c4.out.wrote hw (fun k h1 h2 => by omega))
  have O14_r5_0 := Lib.hid (O13_r5_0.out.wrote hw (fun k h1 h2 => by omega))
  have O14_c7 := Lib.hid (O13_c7.out.wrote hw (fun k h1 h2 => by omega))
  have O14_r8_0 := Lib.hid (O13_r8_0.out.wrote hw (fun k h1 h2 => by omega))
  have O14_c10 := Lib.hid (O13_c10.out.wrote hw (fun k h1 h2 => by omega))
  have O14_c12 := Lib.hid (O13_c12.out.wrote hw (fun k h1 h2 => by omega))
  clear hw hn O13_c6 k13_t2 lk13_t2 k13_t8 lk13_t8 O13_c3 O13_c4 O13_r5_0 O13_c7 O13_r8_0 O13_c10 O13_c12 X13
  go_wp2_with fail
  refine (markInt64SS_ok _ _ _ _ m1 (1 + (offM m0 m0.length)) (v6.heap.size + 1) v7.heap.size _ HB1.out (by omega) O14_c7.out).mono ?_
  rintro e v15 ⟨rfl, hw, hn⟩
  have k15_t2 := hw.cell k14_t2 (by dsimp only; omega)
  have lk15_t2 := World.block_lt_of_cell? v15 _ k15_t2
  have k15_t8 := hw.cell k14_t8 (by dsimp only; omega)
  have lk15_t8 := World.block_lt_of_cell? v15 _ k15_t8
  have X15 : Hid (w.Ext v15) := X14.out.wroteNew hw (fun k hk => by omega)
  have z15 : v14.heap.size ≤ v15.heap.size := hw.size
  have O15_c3 := Lib.hid (O14_c3.out.wrote hw (fun k h1 h2 => by omega))
  have O15_c4 := Lib.hid (O14_c4.out.wrote hw (fun k h1 h2 => by omega))
  have O15_r5_0 := Lib.hid (O14_r5_0.out.wrote hw (fun k h1 h2 => by omega))
  have O15_r8_0 := Lib.hid (O14_r8_0.out.wrote hw (fun k h1 h2 => by omega))
  have O15_c10 := Lib.hid (O14_c10.out.wrote hw (fun k h1 h2 => by omega))
  have O15_c12 := Lib.hid (O14_c12.out.wrote hw (fun k h1 h2 => by omega))
  clear hw hn O14_c7 k14_t2 lk14_t2 k14_t8 lk14_t8 O14_c3 O14_c4 O14_r5_0 O14_r8_0 O14_c10 O14_c12 X14
  go_wp2_with fail
  refine (eqInt64SS_res _ _ _ _ _ _ _ _ R0 _ HRBO0.out ((O15_r8_0.out.ext (by repeat (first | exact World.Ext.refl _ | exact ⟨_, rfl⟩ | assumption | refine World.Ext.over ?_ _ | refine World.Ext.drewN ?_ _ | refine World.Ext.drew ?_ | refine World.Ext.alloc ?_ _ | refine World.Ext.setCell ?_ (by simp) _))).mat) ((O15_r5_0.out.ext (by repeat (first | exact World.Ext.refl _ | exact ⟨_, rfl⟩ | assumption | refine World.Ext.over ?_ _ | refine World.Ext.drewN ?_ _ | refine World.Ext.drew ?_ | refine World.Ext.alloc ?_ _ | refine World.Ext.setCell ?_ (by simp) _))).mat)).mono ?_
  rintro e v16 ⟨rfl, hx⟩
  have k16_t2 := hx.cell (World.Ext.cell (by repeat (first | exact World.Ext.refl _ | exact ⟨_, rfl⟩ | assumption | refine World.Ext.over ?_ _ | refine World.Ext.drewN ?_ _ | refine World.Ext.drew ?_ | refine World.Ext.alloc ?_ _ | refine World.Ext.setCell ?_ (by simp) _)) k15_t2)
  have lk16_t2 := World.block_lt_of_cell? v16 _ k16_t2
  have k16_t8 := hx.cell (World.Ext.cell (by repeat (first | exact World.Ext.refl _ | exact ⟨_, rfl⟩ | assumption | refine World.Ext.over ?_ _ | refine World.Ext.drewN ?_ _ | refine World.Ext.drew ?_ | refine World.Ext.alloc ?_ _ | refine World.Ext.setCell ?_ (by simp) _)) k15_t8)
  have lk16_t8 := World.block_lt_of_cell? v16 _ k16_t8
  have X16 : Hid (w.Ext v16) := (X15.out.trans (by repeat (first | exact World.Ext.refl _ | exact ⟨_, rfl⟩ | assumption | refine World.Ext.over ?_ _ | refine World.Ext.drewN ?_ _ | refine World.Ext.drew ?_ | refine World.Ext.alloc ?_ _ | refine World.Ext.setCell ?_ (by simp) _))).trans hx
  have z16 : v15.heap.size ≤ v16.heap.size := hx.size
  have O16_c3 := Lib.hid ((O15_c3.out.ext (by repeat (first | exact World.Ext.refl _ | exact ⟨_, rfl⟩ | assumption | refine World.Ext.over ?_ _ | refine World.Ext.drewN ?_ _ | refine World.Ext.drew ?_ | refine World.Ext.alloc ?_ _ | refine World.Ext.setCell ?_ (by simp) _))).ext hx)
  have O16_c4 := Lib.hid ((O15_c4.out.ext (by repeat (first | exact World.Ext.refl _ | exact ⟨_, rfl⟩ | assumption | refine World.Ext.over ?_ _ | refine World.Ext.drewN ?_ _ | refine World.Ext.drew ?_ | refine World.Ext.alloc ?_ _ | refine World.Ext.setCell ?_ (by simp) _))).ext hx)
  have O16_r5_0 := Lib.hid ((O15_r5_0.out.ext (by repeat (first | exact World.Ext.refl _ | exact ⟨_, rfl⟩ | assumption | refine World.Ext.over ?_ _ | refine World.Ext.drewN ?_ _ | refine World.Ext.drew ?_ | refine World.Ext.alloc ?_ _ | refine World.Ext.setCell ?_ (by simp) _))).ext hx)
  have O16_r8_0 := Lib.hid ((O15_r8_0.out.ext (by repeat (first | exact World.Ext.refl _ | exact ⟨_, rfl⟩ | assumption | refine World.Ext.over ?_ _ | refine World.Ext.drewN ?_ _ | refine World.Ext.drew ?_ | refine World.Ext.alloc ?_ _ | refine World.Ext.setCell ?_ (by simp) _))).ext hx)
  have O16_c10 := Lib.hid ((O15_c10.out.ext (by repeat (first | exact World.Ext.refl _ | exact ⟨_, rfl⟩ | assumption | refine World.Ext.over ?_ _ | refine World.Ext.drewN ?_ _ | refine World.Ext.drew ?_ | refine World.Ext.alloc ?_ _ | refine World.Ext.setCell ?_ (by simp) _))).ext hx)
  have O16_c12 := Lib.hid ((O15_c12.out.ext (by repeat (first | exact World.Ext.refl _ | exact ⟨_, rfl⟩ | assumption | refine World.Ext.over ?_ _ | refine World.Ext.drewN ?_ _ | refine World.Ext.drew ?_ | refine World.Ext.alloc ?_ _ | refine World.Ext.setCell ?_ (by simp) _))).ext hx)
  clear hx k15_t2 lk15_t2 k15_t8 lk15_t8 O15_c3 O15_c4 O15_r5_0 O15_r8_0 O15_c10 O15_c12 X15
  go_wp2_with fail
  refine (markInt64SS_res _ _ _ _ R0 1 v7.heap.size v8.heap.size _ HRBO0.out (by omega) O16_r8_0.out).mono ?_
  rintro e v17 ⟨rfl, hw, hn⟩
  have k17_t2 := hw.cell k16_t2 (by dsimp only; omega)
  have lk17_t2 := World.block_lt_of_cell? v17 _ k17_t2
  have k17_t8 := hw.cell k16_t8 (by dsimp only; omega)
  have lk17_t8 := World.block_lt_of_cell? v17 _ k17_t8
  have X17 : Hid (w.Ext v17) := X16.out.wroteNew hw (fun k hk => by omega)
  have z17 : v16.heap.size ≤ v17.heap.size := hw.size
  have O17_c3 := Lib.hid (O16_c3.out.wrote hw (fun k h1 h2 => by omega))
  have O17_c4 := Lib.hid (O16_c4.out.wrote hw (fun k h1 h2 => by omega))
  have O17_r5_0 := Lib.hid (O16_r5_0.out.wrote hw (fun k h1 h2 => by omega))
  have O17_c10 := Lib.hid (O16_c10.out.wrote hw (fun k h1 h2 => by omega))
  have O17_c12 := Lib.hid (O16_c12.out.wrote hw (fun k h1 h2 => by omega))
  have O17_r8_0 := Lib.hid hn
  clear hw hn O16_r8_0 k16_t2 lk16_t2 k16_t8 lk16_t8 O16_c3 O16_c4 O16_r5_0 O16_c10 O16_c12 X16
  go_wp2_with fail
  refine (heldInt64SS_res _ _ _ _ R0 1 _ HRBO0.out (by omega) ((O17_r8_0.out.ext (by repeat (first | exact World.Ext.refl _ | exact ⟨_, rfl⟩ | assumption | refine World.Ext.over ?_ _ | refine World.Ext.drewN ?_ _ | refine World.Ext.drew ?_ | refine World.Ext.alloc ?_ _ | refine World.Ext.setCell ?_ (by simp) _))).mat)).mono ?_
  rintro e v18 ⟨rfl, hx⟩
  have k18_t2 := hx.cell (World.Ext.cell (by repeat (first | exact World.Ext.refl _ | exact ⟨_, rfl⟩ | assumption | refine World.Ext.over ?_ _ | refine World.Ext.drewN ?_ _ | refine World.Ext.drew ?_ | refine World.Ext.alloc ?_ _ | refine World.Ext.setCell ?_ (by simp) _)) k17_t2)
  have lk18_t2 := World.block_lt_of_cell? v18 _ k18_t2
  have k18_t8 := hx.cell (World.Ext.cell (by repeat (first | exact World.Ext.refl _ | exact ⟨_, rfl⟩ | assumption | refine World.Ext.over ?_ _ | refine World.Ext.drewN ?_ _ | refine World.Ext.drew ?_ | refine World.Ext.alloc ?_ _ | refine World.Ext.setCell ?_ (by simp) _)) k17_t8)
  have lk18_t8 := World.block_lt_of_cell? v18 _ k18_t8
  have X18 : Hid (w.Ext v18) := (X17.out.trans (by repeat (first | exact World.Ext.refl _ | exact ⟨_, rfl⟩ | assumption | refine World.Ext.over ?_ _ | refine World.Ext.drewN ?_ _ | refine World.Ext.drew ?_ | refine World.Ext.alloc ?_ _ | refine World.Ext.setCell ?_ (by simp) _))).trans hx
  have z18 : v17.heap.size ≤ v18.heap.size := hx.size
  have O18_c3 := Lib.hid ((O17_c3.out.ext (by repeat (first | exact World.Ext.refl _ | exact ⟨_, rfl⟩ | assumption | refine World.Ext.over ?_ _ | refine World.Ext.drewN ?_ _ | refine World.Ext.drew ?_ | refine World.Ext.alloc ?_ _ | refine World.Ext.setCell ?_ (by simp) _))).ext hx)
  have O18_c4 := Lib.hid ((O17_c4.out.ext (by repeat (first | exact World.Ext.refl _ | exact ⟨_, rfl⟩ | assumption | refine World.Ext.over ?_ _ | refine World.Ext.drewN ?_ _ | refine World.Ext.drew ?_ | refine World.Ext.alloc ?_ _ | refine World.Ext.setCell ?_ (by simp) _))).ext hx)
  have O18_r5_0 := Lib.hid ((O17_r5_0.out.ext (by repeat (first | exact World.Ext.refl _ | exact ⟨_, rfl⟩ | assumption | refine World.Ext.over ?_ _ | refine World.Ext.drewN ?_ _ | refine World.Ext.drew ?_ | refine World.Ext.alloc ?_ _ | refine World.Ext.setCell ?_ (by simp) _))).ext hx)
  have O18_r8_0 := Lib.hid ((O17_r8_0.out.ext (by repeat (first | exact World.Ext.refl _ | exact ⟨_, rfl⟩ | assumption | refine World.Ext.over ?_ _ | refine World.Ext.drewN ?_ _ | refine World.Ext.drew ?_ | refine World.Ext.alloc ?_ _ | refine World.Ext.setCell ?_ (by simp) _))).ext hx)
  have O18_c10 := Lib.hid ((O17_c10.out.ext (by repeat (first | exact World.Ext.refl _ | exact ⟨_, rfl⟩ | assumption | refine World.Ext.over ?_ _ | refine World.Ext.drewN ?_ _ | refine World.Ext.drew ?_ | refine World.Ext.alloc ?_ _ | refine World.Ext.setCell ?_ (by simp) _))).ext hx)
  have O18_c12 := Lib.hid ((O17_c12.out.ext (by repeat (first | exact World.Ext.refl _ | exact ⟨_, rfl⟩ | assumption | refine World.Ext.over ?_ _ | refine World.Ext.drewN ?_ _ | refine World.Ext.drew ?_ | refine World.Ext.alloc ?_ _ | refine World.Ext.setCell ?_ (by simp) _))).ext hx)
  clear hx k17_t2 lk17_t2 k17_t8 lk17_t8 O17_c3 O17_c4 O17_r5_0 O17_r8_0 O17_c10 O17_c12 X17
  go_wp2_with fail
  refine (toGrey_ok _ _ _ _ m0 _ HB0.out (HM0.out.ext (X18.out.trans (by repeat (first | exact World.Ext.refl _ | exact ⟨_, rfl⟩ | assumption | refine World.Ext.over ?_ _ | refine World.Ext.drewN ?_ _ | refine World.Ext.drew ?_ | refine World.Ext.alloc ?_ _ | refine World.Ext.setCell ?_ (by simp) _))))).mono ?_
  rintro e v19 ⟨g19, B19, D19, rfl, hx, ho⟩
  have k19_t2 := hx.cell (World.Ext.cell (by repeat (first | exact World.Ext.refl _ | exact ⟨_, rfl⟩ | assumption | refine World.Ext.over ?_ _ | refine World.Ext.drewN ?_ _ | refine World.Ext.drew ?_ | refine World.Ext.alloc ?_ _ | refine World.Ext.setCell ?_ (by simp) _)) k18_t2)
  have lk19_t2 := World.block_lt_of_cell? v19 _ k19_t2
  have k19_t8 := hx.cell (World.Ext.cell (by repeat (first | exact World.Ext.refl _ | exact ⟨_, rfl⟩ | assumption | refine World.Ext.over ?_ _ | refine World.Ext.drewN ?_ _ | refine World.Ext.drew ?_ | refine World.Ext.alloc ?_ _ | refine World.Ext.setCell ?_ (by simp) _)) k18_t8)
  have lk19_t8 := World.block_lt_of_cell? v19 _ k19_t8
  have X19 : Hid (w.Ext v19) := (X18.out.trans (by repeat (first | exact World.Ext.refl _ | exact ⟨_, rfl⟩ | assumption | refine World.Ext.over ?_ _ | refine World.Ext.drewN ?_ _ | refine World.Ext.drew ?_ | refine World.Ext.alloc ?_ _ | refine World.Ext.setCell ?_ (by simp) _))).trans hx
  have z19 : v18.heap.size ≤ v19.heap.size := hx.size
  have O19_c3 := Lib.hid ((O18_c3.out.ext (by repeat (first | exact World.Ext.refl _ | exact ⟨_, rfl⟩ | assumption | refine World.Ext.over ?_ _ | refine World.Ext.drewN ?_ _ | refine World.Ext.drew ?_ | refine World.Ext.alloc ?_ _ | refine World.Ext.setCell ?_ (by simp) _))).ext hx)
  have O19_c4 := Lib.hid ((O18_c4.out.ext (by repeat (first | exact World.Ext.refl _ | exact ⟨_, rfl⟩ | assumption | refine World.Ext.over ?_ _ | refine World.Ext.drewN ?_ _ | refine World.Ext.drew ?_ | refine World.Ext.alloc ?_ _ | refine World.Ext.setCell ?_ (by simp) _))).ext hx)
  have O19_r5_0 := Lib.hid ((O18_r5_0.out.ext (by repeat (first | exact World.Ext.refl _ | exact ⟨_, rfl⟩ | assumption | refine World.Ext.over ?_ _ | refine World.Ext.drewN ?_ _ | refine World.Ext.drew ?_ | refine World.Ext.alloc ?_ _ | refine World.Ext.setCell ?_ (by simp) _))).ext hx)
  have O19_r8_0 := Lib.hid ((O18_r8_0.out.ext (by repeat (first | exact World.Ext.refl _ | exact ⟨_, rfl⟩ | assumption | refine World.Ext.over ?_ _ | refine World.Ext.drewN ?_ _ | refine World.Ext.drew ?_ | refine World.Ext.alloc ?_ _ | refine World.Ext.setCell ?_ (by simp) _))).ext hx)
  have O19_c10 := Lib.hid ((O18_c10.out.ext (by repeat (first | exact World.Ext.refl _ | exact ⟨_, rfl⟩ | assumption | refine World.Ext.over ?_ _ | refine World.Ext.drewN ?_ _ | refine World.Ext.drew ?_ | refine World.Ext.alloc ?_ _ | refine World.Ext.setCell ?_ (by simp) _))).ext hx)
  have O19_c12 := Lib.hid ((O18_c12.out.ext (by repeat (first | exact World.Ext.refl _ | exact ⟨_, rfl⟩ | assumption | refine World.Ext.over ?_ _ | refine World.Ext.drewN ?_ _ | refine World.Ext.drew ?_ | refine World.Ext.alloc ?_ _ | refine World.Ext.setCell ?_ (by simp) _))).ext hx)
  have O19_c19 := Lib.hid (ho.mono (lo' := v18.heap.size) (by simp) (Nat.le_refl _))
  clear hx ho k18_t2 lk18_t2 k18_t8 lk18_t8 O18_c3 O18_c4 O18_r5_0 O18_r8_0 O18_c10 O18_c12 X18
  go_wp2_with fail
  refine (toInt64SS_ok _ _ _ _ m1 _ HB1.out (HM1.out.ext (X19.out.trans (by repeat (first | exact World.Ext.refl _ | exact ⟨_, rfl⟩ | assumption | refine World.Ext.over ?_ _ | refine World.Ext.drewN ?_ _ | refine World.Ext.drew ?_ | refine World.Ext.alloc ?_ _ | refine World.Ext.setCell ?_ (by simp) _))))).mono ?_
  rintro e v20 ⟨g20, B20, D20, rfl, hx, ho⟩
  have k20_t2 := hx.cell (World.Ext.cell (by repeat (first | exact World.Ext.refl _ | exact ⟨_, rfl⟩ | assumption | refine World.Ext.over ?_ _ | refine World.Ext.drewN ?_ _ | refine World.Ext.drew ?_ | refine World.Ext.alloc ?_ _ | refine World.Ext.setCell ?_ (by simp) _)) k19_t2)
  have lk20_t2 := World.block_lt_of_cell? v20 _ k20_t2
  have k20_t8 := hx.cell (World.Ext.cell (by repeat (first | exact World.Ext.refl _ | exact ⟨_, rfl⟩ | assumption | refine World.Ext.over ?_ _ | refine World.Ext.drewN ?_ _ | refine World.Ext.drew ?_ | refine World.Ext.alloc ?_ _ | refine World.Ext.setCell ?_ (by simp) _)) k19_t8)
  have lk20_t8 := World.block_lt_of_cell? v20 _ k20_t8
  have X20 : Hid (w.Ext v20) := (X19.out.trans (by repeat (first | exact World.Ext.refl _ | exact ⟨_, rfl⟩ | assumption | refine World.Ext.over ?_ _ | refine World.Ext.drewN ?_ _ | refine World.Ext.drew ?_ | refine World.Ext.alloc ?_ _ | refine World.Ext.setCell ?_ (by simp) _))).trans hx
  have z20 : v19.heap.size ≤ v20.heap.size := hx.size
  have O20_c3 := Lib.hid ((O19_c3.out.ext (by repeat (first | exact World.Ext.refl _ | exact ⟨_, rfl⟩ | assumption | refine World.Ext.over ?_ _ | refine World.Ext.drewN ?_ _ | refine World.Ext.drew ?_ | refine World.Ext.alloc ?_ _ | refine World.Ext.setCell ?_ (by simp) _))).ext hx)
  have O20_c4 := Lib.hid ((O19_c4.out.ext (by repeat (first | exact World.Ext.refl _ | exact ⟨_, rfl⟩ | assumption | refine World.Ext.over ?_ _ | refine World.Ext.drewN ?_ _ | refine World.Ext.drew ?_ | refine World.Ext.alloc ?_ _ | refine World.Ext.setCell ?_ (by simp) _))).ext hx)
  have O20_r5_0 := Lib.hid ((O19_r5_0.out.ext (by repeat (first | exact World.Ext.refl _ | exact ⟨_, rfl⟩ | assumption | refine World.Ext.over ?_ _ | refine World.Ext.drewN ?_ _ | refine World.Ext.drew ?_ | refine World.Ext.alloc ?_ _ | refine World.Ext.setCell ?_ (by simp) _))).ext hx)
  have O20_r8_0 := Lib.hid ((O19_r8_0.out.ext (by repeat (first | exact World.Ext.refl _ | exact ⟨_, rfl⟩ | assumption | refine World.Ext.over ?_ _ | refine World.Ext.drewN ?_ _ | refine World.Ext.drew ?_ | refine World.Ext.alloc ?_ _ | refine World.Ext.setCell ?_ (by simp) _))).ext hx)
  have O20_c10 := Lib.hid ((O19_c10.out.ext (by repeat (first | exact World.Ext.refl _ | exact ⟨_, rfl⟩ | assumption | refine World.Ext.over ?_ _ | refine World.Ext.drewN ?_ _ | refine World.Ext.drew ?_ | refine World.Ext.alloc ?_ _ | refine World.Ext.setCell ?_ (by simp) _))).ext hx)
  have O20_c12 := Lib.hid ((O19_c12.out.ext (by repeat (first | exact World.Ext.refl _ | exact ⟨_, rfl⟩ | assumption | refine World.Ext.over ?_ _ | refine World.Ext.drewN ?_ _ | refine World.Ext.drew ?_ | refine World.Ext.alloc ?_ _ | refine World.Ext.setCell ?_ (by simp) _))).ext hx)
  have O20_c19 := Lib.hid ((O19_c19.out.ext (by repeat (first | exact World.Ext.refl _ | exact ⟨_, rfl⟩ | assumption | refine World.Ext.over ?_ _ | refine World.Ext.drewN ?_ _ | refine World.Ext.drew ?_ | refine World.Ext.alloc ?_ _ | refine World.Ext.setCell ?_ (by simp) _))).ext hx)
  have O20_c20 := Lib.hid (ho.mono (lo' := v19.heap.size) (by simp) (Nat.le_refl _))
  clear hx ho k19_t2 lk19_t2 k19_t8 lk19_t8 O19_c3 O19_c4 O19_r5_0 O19_r8_0 O19_c10 O19_c12 O19_c19 X19
  go_wp2_with fail
  refine (HIMO.out HB0.out HB1.out _ _ _ _ _ _ _ _ _ ((O20_c19.out.ext (by repeat (first | exact World.Ext.refl _ | exact ⟨_, rfl⟩ | assumption | refine World.Ext.over ?_ _ | refine World.Ext.drewN ?_ _ | refine World.Ext.drew ?_ | refine World.Ext.alloc ?_ _ | refine World.Ext.setCell ?_ (by simp) _))).mat) ((O20_c20.out.ext (by repeat (first | exact World.Ext.refl _ | exact ⟨_, rfl⟩ | assumption | refine World.Ext.over ?_ _ | refine World.Ext.drewN ?_ _ | refine World.Ext.drew ?_ | refine World.Ext.alloc ?_ _ | refine World.Ext.setCell ?_ (by simp) _))).mat)).mono ?_
  rintro e v21 ⟨p21_0, r21_0, B21_0, D21_0, rfl, hx, ho0⟩
  have k21_t2 := hx.cell (World.Ext.cell (by repeat (first | exact World.Ext.refl _ | exact ⟨_, rfl⟩ | assumption | refine World.Ext.over ?_ _ | refine World.Ext.drewN ?_ _ | refine World.Ext.drew ?_ | refine World.Ext.alloc ?_ _ | refine World.Ext.setCell ?_ (by simp) _)) k20_t2)
  have lk21_t2 := World.block_lt_of_cell? v21 _ k21_t2
  have k21_t8 := hx.cell (World.Ext.cell (by repeat (first | exact World.Ext.refl _ | exact ⟨_, rfl⟩ | assumption | refine World.Ext.over ?_ _ | refine World.Ext.drewN ?_ _ | refine World.Ext.drew ?_ | refine World.Ext.alloc ?_ _ | refine World.Ext.setCell ?_ (by simp) _)) k20_t8)
  have lk21_t8 := World.block_lt_of_cell? v21 _ k21_t8
  have X21 : Hid (w.Ext v21) := (X20.out.trans (by repeat (first | exact World.Ext.refl _ | exact ⟨_, rfl⟩ | assumption | refine World.Ext.over ?_ _ | refine World.Ext.drewN ?_ _ | refine World.Ext.drew ?_ | refine World.Ext.alloc ?_ _ | refine World.Ext.setCell ?_ (by simp) _))).trans hx
  have z21 : v20.heap.size ≤ v21.heap.size := hx.size
  have O21_c3 := Lib.hid ((O20_c3.out.ext (by repeat (first | exact World.Ext.refl _ | exact ⟨_, rfl⟩ | assumption | refine World.Ext.over ?_ _ | refine World.Ext.drewN ?_ _ | refine World.Ext.drew ?_ | refine World.Ext.alloc ?_ _ | refine World.Ext.setCell ?_ (by simp) _))).ext hx)
  have O21_c4 := Lib.hid ((O20_c4.out.ext (by repeat (first | exact World.Ext.refl _ | exact ⟨_, rfl⟩ | assumption | refine World.Ext.over ?_ _ | refine World.Ext.drewN ?_ _ | refine World.Ext.drew ?_ | refine World.Ext.alloc ?_ _ | refine World.Ext.setCell ?_ (by simp) _))).ext hx)
  have O21_r5_0 := Lib.hid ((O20_r5_0.out.ext (by repeat (first | exact World.Ext.refl _ | exact ⟨_, rfl⟩ | assumption | refine World.Ext.over ?_ _ | refine World.Ext.drewN ?_ _ | refine World.Ext.drew ?_ | refine World.Ext.alloc ?_ _ | refine World.Ext.setCell ?_ (by simp) _))).ext hx)
  have O21_r8_0 := Lib.hid ((O20_r8_0.out.ext (by repeat (first | exact World.Ext.refl _ | exact ⟨_, rfl⟩ | assumption | refine World.Ext.over ?_ _ | refine World.Ext.drewN ?_ _ | refine World.Ext.drew ?_ | refine World.Ext.alloc ?_ _ | refine World.Ext.setCell ?_ (by simp) _))).ext hx)
  have O21_c10 := Lib.hid ((O20_c10.out.ext (by repeat (first | exact World.Ext.refl _ | exact ⟨_, rfl⟩ | assumption | refine World.Ext.over ?_ _ | refine World.Ext.drewN ?_ _ | refine World.Ext.drew ?_ | refine World.Ext.alloc ?_ _ | refine World.Ext.setCell ?_ (by simp) _))).ext hx)
  have O21_c12 := Lib.hid ((O20_c12.out.ext (by repeat (first | exact World.Ext.refl _ | exact ⟨_, rfl⟩ | assumption | refine World.Ext.over ?_ _ | refine World.Ext.drewN ?_ _ | refine World.Ext.drew ?_ | refine World.Ext.alloc ?_ _ | refine World.Ext.setCell ?_ (by simp) _))).ext hx)
  have O21_c19 := Lib.hid ((O20_c19.out.ext (by repeat (first | exact World.Ext.refl _ | exact ⟨_, rfl⟩ | assumption | refine World.Ext.over ?_ _ | refine World.Ext.drewN ?_ _ | refine World.Ext.drew ?_ | refine World.Ext.alloc ?_ _ | refine World.Ext.setCell ?_ (by simp) _))).ext hx)
  have O21_c20 := Lib.hid ((O20_c20.out.ext (by repeat (first | exact World.Ext.refl _ | exact ⟨_, rfl⟩ | assumption | refine World.Ext.over ?_ _ | refine World.Ext.drewN ?_ _ | refine World.Ext.drew ?_ | refine World.Ext.alloc ?_ _ | refine World.Ext.setCell ?_ (by simp) _))).ext hx)
  have O21_r21_0 := Lib.hid (ho0.mono (lo' := v20.heap.size) (by simp) (Nat.le_refl _))
  clear hx ho0 k20_t2 lk20_t2 k20_t8 lk20_t8 O20_c3 O20_c4 O20_r5_0 O20_r8_0 O20_c10 O20_c12 O20_c19 O20_c20 X20
  go_wp2_with fail
  refine (eqInt64SS_res _ _ _ _ _ _ _ _ R0 _ HRBO0.out ((O21_r21_0.out.ext (by repeat (first | exact World.Ext.refl _ | exact ⟨_, rfl⟩ | assumption | refine World.Ext.over ?_ _ | refine World.Ext.drewN ?_ _ | refine World.Ext.drew ?_ | refine World.Ext.alloc ?_ _ | refine World.Ext.setCell ?_ (by simp) _))).mat) ((O21_r5_0.out.ext (by repeat (first | exact World.Ext.refl _ | exact ⟨_, rfl⟩ | assumption | refine World.Ext.over ?_ _ | refine World.Ext.drewN ?_ _ | refine World.Ext.drew ?_ | refine World.Ext.alloc ?_ _ | refine World.Ext.setCell ?_ (by simp) _))).mat)).mono ?_
  rintro e v22 ⟨rfl, hx⟩
  have k22_t2 := hx.cell (World.Ext.cell (by repeat (first | exact World.Ext.refl _ | exact ⟨_, rfl⟩ | assumption | refine World.Ext.over ?_ _ | refine World.Ext.drewN ?_ _ | refine World.Ext.drew ?_ | refine World.Ext.alloc ?_ _ | refine World.Ext.setCell ?_ (by simp) _)) k21_t2)
  have lk22_t2 := World.block_lt_of_cell? v22 _ k22_t2
  have k22_t8 := hx.cell (World.Ext.cell (by repeat (first | exact World.Ext.refl _ | exact ⟨_, rfl⟩ | assumption | refine World.Ext.over ?_ _ | refine World.Ext.drewN ?_ _ | refine World.Ext.drew ?_ | refine World.Ext.alloc ?_ _ | refine World.Ext.setCell ?_ (by simp) _)) k21_t8)
  have lk22_t8 := World.block_lt_of_cell? v22 _ k22_t8
  have X22 : Hid (w.Ext v22) := (X21.out.trans (by repeat (first | exact World.Ext.refl _ | exact ⟨_, rfl⟩ | assumption | refine World.Ext.over ?_ _ | refine World.Ext.drewN ?_ _ | refine World.Ext.drew ?_ | refine World.Ext.alloc ?_ _ | refine World.Ext.setCell ?_ (by simp) _))).trans hx
  have z22 : v21.heap.size ≤ v22.heap.size := hx.size
  have O22_c3 := Lib.hid ((O21_c3.out.ext (by repeat (first | exact World.Ext.refl _ | exact ⟨_, rfl⟩ | assumption | refine World.Ext.over ?_ _ | refine World.Ext.drewN ?_ _ | refine World.Ext.drew ?_ | refine World.Ext.alloc ?_ _ | refine World.Ext.setCell ?_ (by simp) _))).ext hx)
  have O22_c4 := Lib.hid ((O21_c4.out.ext (by repeat (first | exact World.Ext.refl _ | exact ⟨_, rfl⟩ | assumption | refine World.Ext.over ?_ _ | refine World.Ext.drewN ?_ _ | refine World.Ext.drew ?_ | refine World.Ext.alloc ?_ _ | refine World.Ext.setCell ?_ (by simp) _))).ext hx)
  have O22_r5_0 := Lib.hid ((O21_r5_0.out.ext (by repeat (first | exact World.Ext.refl _ | exact ⟨_, rfl⟩ | assumption | refine World.Ext.over ?_ _ | refine World.Ext.drewN ?_ _ | refine World.Ext.drew ?_ | refine World.Ext.alloc ?_ _ | refine World.Ext.setCell ?_ (by simp) _))).ext hx)
  have O22_r8_0 := Lib.hid ((O21_r8_0.out.ext (by repeat (first | exact World.Ext.refl _ | exact ⟨_, rfl⟩ | assumption | refine World.Ext.over ?_ _ | refine World.Ext.drewN ?_ _ | refine World.Ext.drew ?_ | refine World.Ext.alloc ?_ _ | refine World.Ext.setCell ?_ (by simp) _))).ext hx)
  have O22_c10 := Lib.hid ((O21_c10.out.ext (by repeat (first | exact World.Ext.refl _ | exact ⟨_, rfl⟩ | assumption | refine World.Ext.over ?_ _ | refine World.Ext.drewN ?_ _ | refine World.Ext.drew ?_ | refine World.Ext.alloc ?_ _ | refine World.Ext.setCell ?_ (by simp) _))).ext hx)
  have O22_c12 := Lib.hid ((O21_c12.out.ext (by repeat (first | exact World.Ext.refl _ | exact ⟨_, rfl⟩ | assumption | refine World.Ext.over ?_ _ | refine World.Ext.drewN ?_ _ | refine World.Ext.drew ?_ | refine World.Ext.alloc ?_ _ | refine World.Ext.setCell ?_ (by simp) _))).ext hx)
  have O22_c19 := Lib.hid ((O21_c19.out.ext (by repeat (first | exact World.Ext.refl _ | exact ⟨_, rfl⟩ | assumption | refine World.Ext.over ?_ _ | refine World.Ext.drewN ?_ _ | refine World.Ext.drew ?_ | refine World.Ext.alloc ?_ _ | refine World.Ext.setCell ?_ (by simp) _))).ext hx)
  have O22_c20 := Lib.hid ((O21_c20.out.ext (by repeat (first | exact World.Ext.refl _ | exact ⟨_, rfl⟩ | assumption | refine World.Ext.over ?_ _ | refine World.Ext.drewN ?_ _ | refine World.Ext.drew ?_ | refine World.Ext.alloc ?_ _ | refine World.Ext.setCell ?_ (by simp) _))).ext hx)
  have O22_r21_0 := Lib.hid ((O21_r21_0.out.ext (by repeat (first | exact World.Ext.refl _ | exact ⟨_, rfl⟩ | assumption | refine World.Ext.over ?_ _ | refine World.Ext.drewN ?_ _ | refine World.Ext.drew ?_ | refine World.Ext.alloc ?_ _ | refine World.Ext.setCell ?_ (by simp) _))).ext hx)
  clear hx k21_t2 lk21_t2 k21_t8 lk21_t8 O21_c3 O21_c4 O21_r5_0 O21_r8_0 O21_c10 O21_c12 O21_c19 O21_c20 O21_r21_0 X21
  go_wp2_with fail
  refine (heldInt64SS_res _ _ _ _ R0 1 _ HRBO0.out (by omega) ((O22_r8_0.out.ext (by repeat (first | exact World.Ext.refl _ | exact ⟨_, rfl⟩ | assumption | refine World.Ext.over ?_ _ | refine World.Ext.drewN ?_ _ | refine World.Ext.drew ?_ | refine World.Ext.alloc ?_ _ | refine World.Ext.setCell ?_ (by simp) _))).mat)).mono ?_
  rintro e v23 ⟨rfl, hx⟩
  have k23_t2 := hx.cell (World.Ext.cell (by repeat (first | exact World.Ext.refl _ | exact ⟨_, rfl⟩ | assumption | refine World.Ext.over ?_ _ | refine World.Ext.drewN ?_ _ | refine World.Ext.drew ?_ | refine World.Ext.alloc ?_ _ | refine World.Ext.setCell ?_ (by simp) _)) k22_t2)
  have lk23_t2 := World.block_lt_of_cell? v23 _ k23_t2
  have k23_t8 := hx.cell (World.Ext.cell (by repeat (first | exact World.Ext.refl _ | exact ⟨_, rfl⟩ | assumption | refine World.Ext.over ?_ _ | refine World.Ext.drewN ?_ _ | refine World.Ext.drew ?_ | refine World.Ext.alloc ?_ _ | refine World.Ext.setCell ?_ (by simp) _)) k22_t8)
  have lk23_t8 := World.block_lt_of_cell? v23 _ k23_t8
  have X23 : Hid (w.Ext v23) := (X22.out.trans (by repeat (first | exact World.Ext.refl _ | exact ⟨_, rfl⟩ | assumption | refine World.Ext.over ?_ _ | refine World.Ext.drewN ?_ _ | refine World.Ext.drew ?_ | refine World.Ext.alloc ?_ _ | refine World.Ext.setCell ?_ (by simp) _))).trans hx
  have z23 : v22.heap.size ≤ v23.heap.size := hx.size
  have O23_c3 := Lib.hid ((O22_c3.out.ext (by repeat (first | exact World.Ext.refl _ | exact ⟨_, rfl⟩ | assumption | refine World.Ext.over ?_ _ | refine World.Ext.drewN ?_ _ | refine World.Ext.drew ?_ | refine World.Ext.alloc ?_ _ | refine World.Ext.setCell ?_ (by simp) _))).ext hx)
  have O23_c4 := Lib.hid ((O22_c4.out.ext (by repeat (first | exact World.Ext.refl _ | exact ⟨_, rfl⟩ | assumption | refine World.Ext.over ?_ _ | refine World.Ext.drewN ?_ _ | refine World.Ext.drew ?_ | refine World.Ext.alloc ?_ _ | refine World.Ext.setCell ?_ (by simp) _))).ext hx)
  have O23_r5_0 := Lib.hid ((O22_r5_0.out.ext (by repeat (first | exact World.Ext.refl _ | exact ⟨_, rfl⟩ | assumption | refine World.Ext.over ?_ _ | refine World.Ext.drewN ?_ _ | refine World.Ext.drew ?_ | refine World.Ext.alloc ?_ _ | refine World.Ext.setCell ?_ (by simp) _))).ext hx)
  have O23_r8_0 := Lib.hid ((O22_r8_0.out.ext (by repeat (first | exact World.Ext.refl _ | exact ⟨_, rfl⟩ | assumption | refine World.Ext.over ?_ _ | refine World.Ext.drewN ?_ _ | refine World.Ext.drew ?_ | refine World.Ext.alloc ?_ _ | refine World.Ext.setCell ?_ (by simp) _))).ext hx)
  have O23_c10 := Lib.hid ((O22_c10.out.ext (by repeat (first | exact World.Ext.refl _ | exact ⟨_, rfl⟩ | assumption | refine World.Ext.over ?_ _ | refine World.Ext.drewN ?_ _ | refine World.Ext.drew ?_ | refine World.Ext.alloc ?_ _ | refine World.Ext.setCell ?_ (by simp) _))).ext hx)
  have O23_c12 := Lib.hid ((O22_c12.out.ext (by repeat (first | exact World.Ext.refl _ | exact ⟨_, rfl⟩ | assumption | refine World.Ext.over ?_ _ | refine World.Ext.drewN ?_ _ | refine World.Ext.drew ?_ | refine World.Ext.alloc ?_ _ | refine World.Ext.setCell ?_ (by simp) _))).ext hx)
  have O23_c19 := Lib.hid ((O22_c19.out.ext (by repeat (first | exact World.Ext.refl _ | exact ⟨_, rfl⟩ | assumption | refine World.Ext.over ?_ _ | refine World.Ext.drewN ?_ _ | refine World.Ext.drew ?_ | refine World.Ext.alloc ?_ _ | refine World.Ext.setCell ?_ (by simp) _))).ext hx)
  have O23_c20 := Lib.hid ((O22_c20.out.ext (by repeat (first | exact World.Ext.refl _ | exact ⟨_, rfl⟩ | assumption | refine World.Ext.over ?_ _ | refine World.Ext.drewN ?_ _ | refine World.Ext.drew ?_ | refine World.Ext.alloc ?_ _ | refine World.Ext.setCell ?_ (by simp) _))).ext hx)
  have O23_r21_0 := Lib.hid ((O22_r21_0.out.ext (by repeat (first | exact World.Ext.refl _ | exact ⟨_, rfl⟩ | assumption | refine World.Ext.over ?_ _ | refine World.Ext.drewN ?_ _ | refine World.Ext.drew ?_ | refine World.Ext.alloc ?_ _ | refine World.Ext.setCell ?_ (by simp) _))).ext hx)
  clear hx k22_t2 lk22_t2 k22_t8 lk22_t8 O22_c3 O22_c4 O22_r5_0 O22_r8_0 O22_c10 O22_c12 O22_c19 O22_c20 O22_r21_0 X22
  go_wp2
  go_ret
  exact ⟨rfl, X23.out⟩
end Go.Proofs.Ytldbabigjfkdlaa
