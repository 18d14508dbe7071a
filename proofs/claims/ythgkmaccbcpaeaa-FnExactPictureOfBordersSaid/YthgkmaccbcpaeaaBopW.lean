/- The walk of the law FnExactPictureOfBorders, over two contracts. -/
import Derived.Test.YthgkmaccbcpaeaaLaws
import Derived.Test.YthgkmaccbcpaeaaLMat
import Derived.Test.YthgkmaccbcpaeaaLBa
import Derived.Deep.RegionHeld3
import Derived.Deep.DeepCutAuto
namespace Go.Proofs.Ythgkmaccbcpaeaa
open Go.RowKit
/-- What PictureOfBorders returns. -/
def exactPictureOfBordersRet (w : World) (R0 : List ByteArray) (R1 : Bool) (e : Ending) (w' : World) : Prop := ∃ x0 y0, e = .returned (.tuple #[.agg #[.slice x0 R0.length y0], .bool R1]) ∧ w.Ext w' ∧ OwnOf Value.string ByteArray.empty w.heap.size w'.heap.size w' x0 R0
set_option maxRecDepth 5000 in
set_option maxHeartbeats 8000000 in
theorem exactPictureOfBordersWalk (i0 : Int) (i1 : Int) (a2 : Option Addr) (c2 : Nat) (s2 : List Bord) (R0 : List ByteArray) (R1 : Bool) (HSP : BdBnd s2 → ∀ (a2 : Option Addr) (c2 : Nat) (w : World), RowBd w a2 s2 → Calls Try.prog 50 #[.int .i64 i0, .int .i64 i1, .slice a2 s2.length c2] w (exactPictureOfBordersRet w R0 R1)) (HIM : BdBnd s2 → ∀ (a2 : Option Addr) (c2 : Nat) (w : World), RowBd w a2 s2 → Calls Try.prog 31 #[.int .i64 i0, .int .i64 i1, .slice a2 s2.length c2] w (exactPictureOfBordersRet w R0 R1)) (hb0 : BdBnd s2 → R0.length ≤ 1048576) (w : World) (hm2 : RowBd w a2 s2) (hl2 : BdLen s2) :
    Calls Try.prog 7 #[.int .i64 i0, .int .i64 i1, .slice a2 s2.length c2] w fun e w' => e = .returned (.bool true) ∧ w.Ext w' := by
  have HM2 := Lib.hid hm2
  have HL2 := Lib.hid hl2
  have HSPO := Lib.hid HSP
  have HIMO := Lib.hid HIM
  have HRB0 := Lib.hid hb0
  clear HSP HIM hm2 hl2 hb0
  go_enter Try.func7, Try.ntmps7
  go_wp2_with fail
  refine (szBorderS_ok _ _ s2 1048576 _ (by omega) (by omega) (HM2.out.ext (by repeat (first | exact World.Ext.refl _ | exact ⟨_, rfl⟩ | assumption | refine World.Ext.over ?_ _ | refine World.Ext.drewN ?_ _ | refine World.Ext.drew ?_ | refine World.Ext.alloc ?_ _ | refine World.Ext.setCell ?_ (by simp) _))) HL2.out).mono ?_
  rintro e v1 ⟨q1, rfl, hx, hq1, hq2⟩
  have X1 : Hid (w.Ext v1) := World.Ext.trans (by repeat (first | exact World.Ext.refl _ | exact ⟨_, rfl⟩ | assumption | refine World.Ext.over ?_ _ | refine World.Ext.drewN ?_ _ | refine World.Ext.drew ?_ | refine World.Ext.alloc ?_ _ | refine World.Ext.setCell ?_ (by simp) _)) hx
  have z1 : w.heap.size ≤ v1.heap.size := hx.size
  have Q1 := Lib.hid hq2
  clear hx hq2
  by_cases hz1 : q1 < 0
  · go_wp2
    go_ret
    exact ⟨rfl, X1.out⟩
  obtain ⟨hB2, hC2⟩ := Q1.out (by omega)
  have HB2 := Lib.hid hB2
  clear hB2
  have HRBO0 := Lib.hid (HRB0.out HB2.out)
  have hrb0 := HRBO0.out
  go_wp2_with fail
  refine (toBorderS_ok _ _ s2 _ HB2.out (HM2.out.ext (X1.out.trans (by repeat (first | exact World.Ext.refl _ | exact ⟨_, rfl⟩ | assumption | refine World.Ext.over ?_ _ | refine World.Ext.drewN ?_ _ | refine World.Ext.drew ?_ | refine World.Ext.alloc ?_ _ | refine World.Ext.setCell ?_ (by simp) _))))).mono ?_
  rintro e v2 ⟨g2, rfl, hx, ho⟩
  have X2 : Hid (w.Ext v2) := (X1.out.trans (by repeat (first | exact World.Ext.refl _ | exact ⟨_, rfl⟩ | assumption | refine World.Ext.over ?_ _ | refine World.Ext.drewN ?_ _ | refine World.Ext.drew ?_ | refine World.Ext.alloc ?_ _ | refine World.Ext.setCell ?_ (by simp) _))).trans hx
  have z2 : v1.heap.size ≤ v2.heap.size := hx.size
  have O2_c2 := Lib.hid (ho.mono (lo' := v1.heap.size) (by simp) (Nat.le_refl _))
  clear hx ho X1
  go_wp2_with fail
  refine (HSPO.out HB2.out _ _ _ ((O2_c2.out.ext (by repeat (first | exact World.Ext.refl _ | exact ⟨_, rfl⟩ | assumption | refine World.Ext.over ?_ _ | refine World.Ext.drewN ?_ _ | refine World.Ext.drew ?_ | refine World.Ext.alloc ?_ _ | refine World.Ext.setCell ?_ (by simp) _))).row)).mono ?_
  rintro e v3 ⟨p3_0, r3_0, rfl, hx, ho0⟩
  have X3 : Hid (w.Ext v3) := (X2.out.trans (by repeat (first | exact World.Ext.refl _ | exact ⟨_, rfl⟩ | assumption | refine World.Ext.over ?_ _ | refine World.Ext.drewN ?_ _ | refine World.Ext.drew ?_ | refine World.Ext.alloc ?_ _ | refine World.Ext.setCell ?_ (by simp) _))).trans hx
  have z3 : v2.heap.size ≤ v3.heap.size := hx.size
  have O3_c2 := Lib.hid ((O2_c2.out.ext (by repeat (first | exact World.Ext.refl _ | exact ⟨_, rfl⟩ | assumption | refine World.Ext.over ?_ _ | refine World.Ext.drewN ?_ _ | refine World.Ext.drew ?_ | refine World.Ext.alloc ?_ _ | refine World.Ext.setCell ?_ (by simp) _))).ext hx)
  have O3_r3_0 := Lib.hid (ho0.mono (lo' := v2.heap.size) (by simp) (Nat.le_refl _))
  clear hx ho0 O2_c2 X2
  go_wp2_with fail
  refine (toBorderS_ok _ _ s2 _ HB2.out (HM2.out.ext (X3.out.trans (by repeat (first | exact World.Ext.refl _ | exact ⟨_, rfl⟩ | assumption | refine World.Ext.over ?_ _ | refine World.Ext.drewN ?_ _ | refine World.Ext.drew ?_ | refine World.Ext.alloc ?_ _ | refine World.Ext.setCell ?_ (by simp) _))))).mono ?_
  rintro e v4 ⟨g4, rfl, hx, ho⟩
  have k4_t8 := hx.cell (a := ⟨v3.heap.size, 0, none⟩) (v := .slice p3_0 R0.length r3_0) (by simp [go_sem])
  have lk4_t8 := World.block_lt_of_cell? v4 _ k4_t8
  have X4 : Hid (w.Ext v4) := (X3.out.trans (by repeat (first | exact World.Ext.refl _ | exact ⟨_, rfl⟩ | assumption | refine World.Ext.over ?_ _ | refine World.Ext.drewN ?_ _ | refine World.Ext.drew ?_ | refine World.Ext.alloc ?_ _ | refine World.Ext.setCell ?_ (by simp) _))).trans hx
  have z4 : v3.heap.size + 1 ≤ v4.heap.size := (by have h := hx.size; simp at h; omega)
  have O4_c2 := Lib.hid ((O3_c2.out.ext (by repeat (first | exact World.Ext.refl _ | exact ⟨_, rfl⟩ | assumption | refine World.Ext.over ?_ _ | refine World.Ext.drewN ?_ _ | refine World.Ext.drew ?_ | refine World.Ext.alloc ?_ _ | refine World.Ext.setCell ?_ (by simp) _))).ext hx)
  have O4_r3_0 := Lib.hid ((O3_r3_0.out.ext (by repeat (first | exact World.Ext.refl _ | exact ⟨_, rfl⟩ | assumption | refine World.Ext.over ?_ _ | refine World.Ext.drewN ?_ _ | refine World.Ext.drew ?_ | refine World.Ext.alloc ?_ _ | refine World.Ext.setCell ?_ (by simp) _))).ext hx)
  have O4_c4 := Lib.hid (ho.mono (lo' := v3.heap.size + 1) (by simp) (Nat.le_refl _))
  clear hx ho O3_c2 O3_r3_0 X3
  go_wp2_with fail
  refine (HIMO.out HB2.out _ _ _ ((O4_c4.out.ext (by repeat (first | exact World.Ext.refl _ | exact ⟨_, rfl⟩ | assumption | refine World.Ext.over ?_ _ | refine World.Ext.drewN ?_ _ | refine World.Ext.drew ?_ | refine World.Ext.alloc ?_ _ | refine World.Ext.setCell ?_ (by simp) _))).row)).mono ?_
  rintro e v5 ⟨p5_0, r5_0, rfl, hx, ho0⟩
  have k5_t8 := hx.cell (World.Ext.cell (by repeat (first | exact World.Ext.refl _ | exact ⟨_, rfl⟩ | assumption | refine World.Ext.over ?_ _ | refine World.Ext.drewN ?_ _ | refine World.Ext.drew ?_ | refine World.Ext.alloc ?_ _ | refine World.Ext.setCell ?_ (by simp) _)) k4_t8)
  have lk5_t8 := World.block_lt_of_cell? v5 _ k5_t8
  have X5 : Hid (w.Ext v5) := (X4.out.trans (by repeat (first | exact World.Ext.refl _ | exact ⟨_, rfl⟩ | assumption | refine World.Ext.over ?_ _ | refine World.Ext.drewN ?_ _ | refine World.Ext.drew ?_ | refine World.Ext.alloc ?_ _ | refine World.Ext.setCell ?_ (by simp) _))).trans hx
  have z5 : v4.heap.size ≤ v5.heap.size := hx.size
  have O5_c2 := Lib.hid ((O4_c2.out.ext (by repeat (first | exact World.Ext.refl _ | exact ⟨_, rfl⟩ | assumption | refine World.Ext.over ?_ _ | refine World.Ext.drewN ?_ _ | refine World.Ext.drew ?_ | refine World.Ext.alloc ?_ _ | refine World.Ext.setCell ?_ (by simp) _))).ext hx)
  have O5_r3_0 := Lib.hid ((O4_r3_0.out.ext (by repeat (first | exact World.Ext.refl _ | exact ⟨_, rfl⟩ | assumption | refine World.Ext.over ?_ _ | refine World.Ext.drewN ?_ _ | refine World.Ext.drew ?_ | refine World.Ext.alloc ?_ _ | refine World.Ext.setCell ?_ (by simp) _))).ext hx)
  have O5_c4 := Lib.hid ((O4_c4.out.ext (by repeat (first | exact World.Ext.refl _ | exact ⟨_, rfl⟩ | assumption | refine World.Ext.over ?_ _ | refine World.Ext.drewN ?_ _ | refine World.Ext.drew ?_ | refine World.Ext.alloc ?_ _ | refine World.Ext.setCell ?_ (by simp) _))).ext hx)
  have O5_r5_0 := Lib.hid (ho0.mono (lo' := v4.heap.size) (by simp) (Nat.le_refl _))
  clear hx ho0 k4_t8 lk4_t8 O4_c2 O4_r3_0 O4_c4 X4
  go_wp2_with fail
  refine (eqPicture_res _ _ _ _ R0 _ HRBO0.out ((O5_r5_0.out.ext (by repeat (first | exact World.Ext.refl _ | exact ⟨_, rfl⟩ | assumption | refine World.Ext.over ?_ _ | refine World.Ext.drewN ?_ _ | refine World.Ext.drew ?_ | refine World.Ext.alloc ?_ _ | refine World.Ext.setCell ?_ (by simp) _))).row) ((O5_r3_0.out.ext (by repeat (first | exact World.Ext.refl _ | exact ⟨_, rfl⟩ | assumption | refine World.Ext.over ?_ _ | refine World.Ext.drewN ?_ _ | refine World.Ext.drew ?_ | refine World.Ext.alloc ?_ _ | refine World.Ext.setCell ?_ (by simp) _))).row)).mono ?_
  rintro e v6 ⟨rfl, hx⟩
  have k6_t8 := hx.cell (World.Ext.cell (by repeat (first | exact World.Ext.refl _ | exact ⟨_, rfl⟩ | assumption | refine World.Ext.over ?_ _ | refine World.Ext.drewN ?_ _ | refine World.Ext.drew ?_ | refine World.Ext.alloc ?_ _ | refine World.Ext.setCell ?_ (by simp) _)) k5_t8)
  have lk6_t8 := World.block_lt_of_cell? v6 _ k6_t8
  have k6_t11 := hx.cell (a := ⟨v5.heap.size, 0, none⟩) (v := .slice p5_0 R0.length r5_0) (by simp [go_sem])
  have lk6_t11 := World.block_lt_of_cell? v6 _ k6_t11
  have X6 : Hid (w.Ext v6) := (X5.out.trans (by repeat (first | exact World.Ext.refl _ | exact ⟨_, rfl⟩ | assumption | refine World.Ext.over ?_ _ | refine World.Ext.drewN ?_ _ | refine World.Ext.drew ?_ | refine World.Ext.alloc ?_ _ | refine World.Ext.setCell ?_ (by simp) _))).trans hx
  have z6 : v5.heap.size + 1 ≤ v6.heap.size := (by have h := hx.size; simp at h; omega)
  have O6_c2 := Lib.hid ((O5_c2.out.ext (by repeat (first | exact World.Ext.refl _ | exact ⟨_, rfl⟩ | assumption | refine World.Ext.over ?_ _ | refine World.Ext.drewN ?_ _ | refine World.Ext.drew ?_ | refine World.Ext.alloc ?_ _ | refine World.Ext.setCell ?_ (by simp) _))).ext hx)
  have O6_r3_0 := Lib.hid ((O5_r3_0.out.ext (by repeat (first | exact World.Ext.refl _ | exact ⟨_, rfl⟩ | assumption | refine World.Ext.over ?_ _ | refine World.Ext.drewN ?_ _ | refine World.Ext.drew ?_ | refine World.Ext.alloc ?_ _ | refine World.Ext.setCell ?_ (by simp) _))).ext hx)
  have O6_c4 := Lib.hid ((O5_c4.out.ext (by repeat (first | exact World.Ext.refl _ | exact ⟨_, rfl⟩ | assumption | refine World.Ext.over ?_ _ | refine World.Ext.drewN ?_ _ | refine World.Ext.drew ?_ | refine World.Ext.alloc ?_ _ | refine World.Ext.setCell ?_ (by simp) _))).ext hx)
  have O6_r5_0 := Lib.hid ((O5_r5_0.out.ext (by repeat (first | exact World.Ext.refl _ | exact ⟨_, rfl⟩ | assumption | refine World.Ext.over ?_ _ | refine World.Ext.drewN ?_ _ | refine World.Ext.drew ?_ | refine World.Ext.alloc ?_ _ | refine World.Ext.setCell ?_ (by simp) _))).ext hx)
  clear hx k5_t8 lk5_t8 O5_c2 O5_r3_0 O5_c4 O5_r5_0 X5
  go_wp2_with fail
  refine (toBorderS_ok _ _ s2 _ HB2.out (HM2.out.ext (X6.out.trans (by repeat (first | exact World.Ext.refl _ | exact ⟨_, rfl⟩ | assumption | refine World.Ext.over ?_ _ | refine World.Ext.drewN ?_ _ | refine World.Ext.drew ?_ | refine World.Ext.alloc ?_ _ | refine World.Ext.setCell ?_ (by simp) _))))).mono ?_
  rintro e v7 ⟨g7, rfl, hx, ho⟩
  have k7_t8 := hx.cell (World.Ext.cell (by repeat (first | exact World.Ext.refl _ | exact ⟨_, rfl⟩ | assumption | refine World.Ext.over ?_ _ | refine World.Ext.drewN ?_ _ | refine World.Ext.drew ?_ | refine World.Ext.alloc ?_ _ | refine World.Ext.setCell ?_ (by simp) _)) k6_t8)
  have lk7_t8 := World.block_lt_of_cell? v7 _ k7_t8
  have k7_t11 := hx.cell (World.Ext.cell (by repeat (first | exact World.Ext.refl _ | exact ⟨_, rfl⟩ | assumption | refine World.Ext.over ?_ _ | refine World.Ext.drewN ?_ _ | refine World.Ext.drew ?_ | refine World.Ext.alloc ?_ _ | refine World.Ext.setCell ?_ (by simp) _)) k6_t11)
  have lk7_t11 := World.block_lt_of_cell? v7 _ k7_t11
  have X7 : Hid (w.Ext v7) := (X6.out.trans (by repeat (first | exact World.Ext.refl _ | exact ⟨_, rfl⟩ | assumption | refine World.Ext.over ?_ _ | refine World.Ext.drewN ?_ _ | refine World.Ext.drew ?_ | refine World.Ext.alloc ?_ _ | refine World.Ext.setCell ?_ (by simp) _))).trans hx
  have z7 : v6.heap.size ≤ v7.heap.size := hx.size
  have O7_c2 := Lib.hid ((O6_c2.out.ext (by repeat (first | exact World.Ext.refl _ | exact ⟨_, rfl⟩ | assumption | refine World.Ext.over ?_ _ | refine World.Ext.drewN ?_ _ | refine World.Ext.drew ?_ | refine World.Ext.alloc ?_ _ | refine World.Ext.setCell ?_ (by simp) _))).ext hx)
  have O7_r3_0 := Lib.hid ((O6_r3_0.out.ext (by repeat (first | exact World.Ext.refl _ | exact ⟨_, rfl⟩ | assumption | refine World.Ext.over ?_ _ | refine World.Ext.drewN ?_ _ | refine World.Ext.drew ?_ | refine World.Ext.alloc ?_ _ | refine World.Ext.setCell ?_ (by simp) _))).ext hx)
  have O7_c4 := Lib.hid ((O6_c4.out.ext (by repeat (first | exact World.Ext.refl _ | exact ⟨_, rfl⟩ | assumption | refine World.Ext.over ?_ _ | refine World.Ext.drewN ?_ _ | refine World.Ext.drew ?_ | refine World.Ext.alloc ?_ _ | refine World.Ext.setCell ?_ (by simp) _))).ext hx)
  have O7_r5_0 := Lib.hid ((O6_r5_0.out.ext (by repeat (first | exact World.Ext.refl _ | exact ⟨_, rfl⟩ | assumption | refine World.Ext.over ?_ _ | refine World.Ext.drewN ?_ _ | refine World.Ext.drew ?_ | refine World.Ext.alloc ?_ _ | refine World.Ext.setCell ?_ (by simp) _))).ext hx)
  have O7_c7 := Lib.hid (ho.mono (lo' := v6.heap.size) (by simp) (Nat.le_refl _))
  clear hx ho k6_t8 lk6_t8 k6_t11 lk6_t11 O6_c2 O6_r3_0 O6_c4 O6_r5_0 X6
  go_wp2_with fail
  refine (eqBorderS_ok _ _ _ _ s2 _ HB2.out ((O7_c4.out.ext (by repeat (first | exact World.Ext.refl _ | exact ⟨_, rfl⟩ | assumption | refine World.Ext.over ?_ _ | refine World.Ext.drewN ?_ _ | refine World.Ext.drew ?_ | refine World.Ext.alloc ?_ _ | refine World.Ext.setCell ?_ (by simp) _))).row) ((O7_c7.out.ext (by repeat (first | exact World.Ext.refl _ | exact ⟨_, rfl⟩ | assumption | refine World.Ext.over ?_ _ | refine World.Ext.drewN ?_ _ | refine World.Ext.drew ?_ | refine World.Ext.alloc ?_ _ | refine World.Ext.setCell ?_ (by simp) _))).row)).mono ?_
  rintro e v8 ⟨rfl, hx⟩
  have k8_t8 := hx.cell (World.Ext.cell (by repeat (first | exact World.Ext.refl _ | exact ⟨_, rfl⟩ | assumption | refine World.Ext.over ?_ _ | refine World.Ext.drewN ?_ _ | refine World.Ext.drew ?_ | refine World.Ext.alloc ?_ _ | refine World.Ext.setCell ?_ (by simp) _)) k7_t8)
  have lk8_t8 := World.block_lt_of_cell? v8 _ k8_t8
  have k8_t11 := hx.cell (World.Ext.cell (by repeat (first | exact World.Ext.refl _ | exact ⟨_, rfl⟩ | assumption | refine World.Ext.over ?_ _ | refine World.Ext.drewN ?_ _ | refine World.Ext.drew ?_ | refine World.Ext.alloc ?_ _ | refine World.Ext.setCell ?_ (by simp) _)) k7_t11)
  have lk8_t11 := World.block_lt_of_cell? v8 _ k8_t11
  have X8 : Hid (w.Ext v8) := (X7.out.trans (by repeat (first | exact World.Ext.refl _ | exact ⟨_, rfl⟩ | assumption | refine World.Ext.over ?_ _ | refine World.Ext.drewN ?_ _ | refine World.Ext.drew ?_ | refine World.Ext.alloc ?_ _ | refine World.Ext.setCell ?_ (by simp) _))).trans hx
  have z8 : v7.heap.size ≤ v8.heap.size := hx.size
  have O8_c2 := Lib.hid ((O7_c2.out.ext (by repeat (first | exact World.Ext.refl _ | exact ⟨_, rfl⟩ | assumption | refine World.Ext.over ?_ _ | refine World.Ext.drewN ?_ _ | refine World.Ext.drew ?_ | refine World.Ext.alloc ?_ _ | refine World.Ext.setCell ?_ (by simp) _))).ext hx)
  have O8_r3_0 := Lib.hid ((O7_r3_0.out.ext (by repeat (first | exact World.Ext.refl _ | exact ⟨_, rfl⟩ | assumption | refine World.Ext.over ?_ _ | refine World.Ext.drewN ?_ _ | refine World.Ext.drew ?_ | refine World.Ext.alloc ?_ _ | refine World.Ext.setCell ?_ (by simp) _))).ext hx)
  have O8_c4 := Lib.hid ((O7_c4.out.ext (by repeat (first | exact World.Ext.refl _ | exact ⟨_, rfl⟩ | assumption | refine World.Ext.over ?_ _ | refine World.Ext.drewN ?_ _ | refine World.Ext.drew ?_ | refine World.Ext.alloc ?_ _ | refine World.Ext.setCell ?_ (by simp) _))).ext hx)
  have O8_r5_0 := Lib.hid ((O7_r5_0.out.ext (by repeat (first | exact World.Ext.refl _ | exact ⟨_, rfl⟩ | assumption | refine World.Ext.over ?_ _ | refine World.Ext.drewN ?_ _ | refine World.Ext.drew ?_ | refine World.Ext.alloc ?_ _ | refine World.Ext.setCell ?_ (by simp) _))).ext hx)
  have O8_c7 := Lib.hid ((O7_c7.out.ext (by repeat (first | exact World.Ext.refl _ | exact ⟨_, rfl⟩ | assumption | refine World.Ext.over ?_ _ | refine World.Ext.drewN ?_ _ | refine World.Ext.drew ?_ | refine World.Ext.alloc ?_ _ | refine World.Ext.setCell ?_ (by simp) _))).ext hx)
  clear hx k7_t8 lk7_t8 k7_t11 lk7_t11 O7_c2 O7_r3_0 O7_c4 O7_r5_0 O7_c7 X7
  go_wp2_with fail
  refine (markBorderS_ok _ _ s2 1 (v3.heap.size + 1) v4.heap.size _ HB2.out (by omega) O8_c4.out).mono ?_
  rintro e v9 ⟨rfl, hw, hn⟩
  have k9_t8 := hw.cell k8_t8 (by dsimp only; omega)
  have lk9_t8 := World.block_lt_of_cell? v9 _ k9_t8
  have k9_t11 := hw.cell k8_t11 (by dsimp only; omega)
  have lk9_t11 := World.block_lt_of_cell? v9 _ k9_t11
  have X9 : Hid (w.Ext v9) := X8.out.wroteNew hw (fun k hk => by omega)
  have z9 : v8.heap.size ≤ v9.heap.size := hw.size
  have O9_c2 := Lib.hid (O8_c2.out.wrote hw (fun k h1 h2 => by omega))
  have O9_r3_0 := Lib.hid (O8_r3_0.out.wrote hw (fun k h1 h2 => by omega))
  have O9_r5_0 := Lib.hid (O8_r5_0.out.wrote hw (fun k h1 h2 => by omega))
  have O9_c7 := Lib.hid (O8_c7.out.wrote hw (fun k h1 h2 => by omega))
  clear hw hn O8_c4 k8_t8 lk8_t8 k8_t11 lk8_t11 O8_c2 O8_r3_0 O8_r5_0 O8_c7 X8
  go_wp2_with fail
  refine (eqPicture_res _ _ _ _ R0 _ HRBO0.out ((O9_r5_0.out.ext (by repeat (first | exact World.Ext.refl _ | exact ⟨_, rfl⟩ | assumption | refine World.Ext.over ?_ _ | refine World.Ext.drewN ?_ _ | refine World.Ext.drew ?_ | refine World.Ext.alloc ?_ _ | refine World.Ext.setCell ?_ (by simp) _))).row) ((O9_r3_0.out.ext (by repeat (first | exact World.Ext.refl _ | exact ⟨_, rfl⟩ | assumption | refine World.Ext.over ?_ _ | refine World.Ext.drewN ?_ _ | refine World.Ext.drew ?_ | refine World.Ext.alloc ?_ _ | refine World.Ext.setCell ?_ (by simp) _))).row)).mono ?_
  rintro e v10 ⟨rfl, hx⟩
  have k10_t8 := hx.cell (World.Ext.cell (by repeat (first | exact World.Ext.refl _ | exact ⟨_, rfl⟩ | assumption | refine World.Ext.over ?_ _ | refine World.Ext.drewN ?_ _ | refine World.Ext.drew ?_ | refine World.Ext.alloc ?_ _ | refine World.Ext.setCell ?_ (by simp) _)) k9_t8)
  have lk10_t8 := World.block_lt_of_cell? v10 _ k10_t8
  have k10_t11 := hx.cell (World.Ext.cell (by repeat (first | exact World.Ext.refl _ | exact ⟨_, rfl⟩ | assumption | refine World.Ext.over ?_ _ | refine World.Ext.drewN ?_ _ | refine World.Ext.drew ?_ | refine World.Ext.alloc ?_ _ | refine World.Ext.setCell ?_ (by simp) _)) k9_t11)
  have lk10_t11 := World.block_lt_of_cell? v10 _ k10_t11
  have X10 : Hid (w.Ext v10) := (X9.out.trans (by repeat (first | exact World.Ext.refl _ | exact ⟨_, rfl⟩ | assumption | refine World.Ext.over ?_ _ | refine World.Ext.drewN ?_ _ | refine World.Ext.drew ?_ | refine World.Ext.alloc ?_ _ | refine World.Ext.setCell ?_ (by simp) _))).trans hx
  have z10 : v9.heap.size ≤ v10.heap.size := hx.size
  have O10_c2 := Lib.hid ((O9_c2.out.ext (by repeat (first | exact World.Ext.refl _ | exact ⟨_, rfl⟩ | assumption | refine World.Ext.over ?_ _ | refine World.Ext.drewN ?_ _ | refine World.Ext.drew ?_ | refine World.Ext.alloc ?_ _ | refine World.Ext.setCell ?_ (by simp) _))).ext hx)
  have O10_r3_0 := Lib.hid ((O9_r3_0.out.ext (by repeat (first | exact World.Ext.refl _ | exact ⟨_, rfl⟩ | assumption | refine World.Ext.over ?_ _ | refine World.Ext.drewN ?_ _ | refine World.Ext.drew ?_ | refine World.Ext.alloc ?_ _ | refine World.Ext.setCell ?_ (by simp) _))).ext hx)
  have O10_r5_0 := Lib.hid ((O9_r5_0.out.ext (by repeat (first | exact World.Ext.refl _ | exact ⟨_, rfl⟩ | assumption | refine World.Ext.over ?_ _ | refine World.Ext.drewN ?_ _ | refine World.Ext.drew ?_ | refine World.Ext.alloc ?_ _ | refine World.Ext.setCell ?_ (by simp) _))).ext hx)
  have O10_c7 := Lib.hid ((O9_c7.out.ext (by repeat (first | exact World.Ext.refl _ | exact ⟨_, rfl⟩ | assumption | refine World.Ext.over ?_ _ | refine World.Ext.drewN ?_ _ | refine World.Ext.drew ?_ | refine World.Ext.alloc ?_ _ | refine World.Ext.setCell ?_ (by simp) _))).ext hx)
  clear hx k9_t8 lk9_t8 k9_t11 lk9_t11 O9_c2 O9_r3_0 O9_r5_0 O9_c7 X9
  go_wp2_with fail
  refine (markPicture_res _ _ R0 1 v4.heap.size v5.heap.size _ HRBO0.out (by omega) O10_r5_0.out).mono ?_
  rintro e v11 ⟨rfl, hw, hn⟩
  have k11_t8 := hw.cell k10_t8 (by dsimp only; omega)
  have lk11_t8 := World.block_lt_of_cell? v11 _ k11_t8
  have k11_t11 := hw.cell k10_t11 (by dsimp only; omega)
  have lk11_t11 := World.block_lt_of_cell? v11 _ k11_t11
  have X11 : Hid (w.Ext v11) := X10.out.wroteNew hw (fun k hk => by omega)
  have z11 : v10.heap.size ≤ v11.heap.size := hw.size
  have O11_c2 := Lib.hid (O10_c2.out.wrote hw (fun k h1 h2 => by omega))
  have O11_r3_0 := Lib.hid (O10_r3_0.out.wrote hw (fun k h1 h2 => by omega))
  have O11_c7 := Lib.hid (O10_c7.out.wrote hw (fun k h1 h2 => by omega))
  have O11_r5_0 := Lib.hid hn
  clear hw hn O10_r5_0 k10_t8 lk10_t8 k10_t11 lk10_t11 O10_c2 O10_r3_0 O10_c7 X10
  go_wp2_with fail
  refine (heldPicture_res _ _ R0 1 _ HRBO0.out (by omega) ((O11_r5_0.out.ext (by repeat (first | exact World.Ext.refl _ | exact ⟨_, rfl⟩ | assumption | refine World.Ext.over ?_ _ | refine World.Ext.drewN ?_ _ | refine World.Ext.drew ?_ | refine World.Ext.alloc ?_ _ | refine World.Ext.setCell ?_ (by simp) _))).row)).mono ?_
  rintro e v12 ⟨rfl, hx⟩
  have k12_t8 := hx.cell (World.Ext.cell (by repeat (first | exact World.Ext.refl _ | exact ⟨_, rfl⟩ | assumption | refine World.Ext.over ?_ _ | refine World.Ext.drewN ?_ _ | refine World.Ext.drew ?_ | refine World.Ext.alloc ?_ _ | refine World.Ext.setCell ?_ (by simp) _)) k11_t8)
  have lk12_t8 := World.block_lt_of_cell? v12 _ k12_t8
  have k12_t11 := hx.cell (World.Ext.cell (by repeat (first | exact World.Ext.refl _ | exact ⟨_, rfl⟩ | assumption | refine World.Ext.over ?_ _ | refine World.Ext.drewN ?_ _ | refine World.Ext.drew ?_ | refine World.Ext.alloc ?_ _ | refine World.Ext.setCell ?_ (by simp) _)) k11_t11)
  have lk12_t11 := World.block_lt_of_cell? v12 _ k12_t11
  have X12 : Hid (w.Ext v12) := (X11.out.trans (by repeat (first | exact World.Ext.refl _ | exact ⟨_, rfl⟩ | assumption | refine World.Ext.over ?_ _ | refine World.Ext.drewN ?_ _ | refine World.Ext.drew ?_ | refine World.Ext.alloc ?_ _ | refine World.Ext.setCell ?_ (by simp) _))).trans hx
  have z12 : v11.heap.size ≤ v12.heap.size := hx.size
  have O12_c2 := Lib.hid ((O11_c2.out.ext (by repeat (first | exact World.Ext.refl _ | exact ⟨_, rfl⟩ | assumption | refine World.Ext.over ?_ _ | refine World.Ext.drewN ?_ _ | refine World.Ext.drew ?_ | refine World.Ext.alloc ?_ _ | refine World.Ext.setCell ?_ (by simp) _))).ext hx)
  have O12_r3_0 := Lib.hid ((O11_r3_0.out.ext (by repeat (first | exact World.Ext.refl _ | exact ⟨_, rfl⟩ | assumption | refine World.Ext.over ?_ _ | refine World.Ext.drewN ?_ _ | refine World.Ext.drew ?_ | refine World.Ext.alloc ?_ _ | refine World.Ext.setCell ?_ (by simp) _))).ext hx)
  have O12_r5_0 := Lib.hid ((O11_r5_0.out.ext (by repeat (first | exact World.Ext.refl _ | exact ⟨_, rfl⟩ | assumption | refine World.Ext.over ?_ _ | refine World.Ext.drewN ?_ _ | refine World.Ext.drew ?_ | refine World.Ext.alloc ?_ _ | refine World.Ext.setCell ?_ (by simp) _))).ext hx)
  have O12_c7 := Lib.hid ((O11_c7.out.ext (by repeat (first | exact World.Ext.refl _ | exact ⟨_, rfl⟩ | assumption | refine World.Ext.over ?_ _ | refine World.Ext.drewN ?_ _ | refine World.Ext.drew ?_ | refine World.Ext.alloc ?_ _ | refine World.Ext.setCell ?_ (by simp) _))).ext hx)
  clear hx k11_t8 lk11_t8 k11_t11 lk11_t11 O11_c2 O11_r3_0 O11_r5_0 O11_c7 X11
  go_wp2_with fail
  refine (toBorderS_ok _ _ s2 _ HB2.out (HM2.out.ext (X12.out.trans (by repeat (first | exact World.Ext.refl _ | exact ⟨_, rfl⟩ | assumption | refine World.Ext.over ?_ _ | refine World.Ext.drewN ?_ _ | refine World.Ext.drew ?_ | refine World.Ext.alloc ?_ _ | refine World.Ext.setCell ?_ (by simp) _))))).mono ?_
  rintro e v13 ⟨g13, rfl, hx, ho⟩
  have k13_t8 := hx.cell (World.Ext.cell (by repeat (first | exact World.Ext.refl _ | exact ⟨_, rfl⟩ | assumption | refine World.Ext.over ?_ _ | refine World.Ext.drewN ?_ _ | refine World.Ext.drew ?_ | refine World.Ext.alloc ?_ _ | refine World.Ext.setCell ?_ (by simp) _)) k12_t8)
  have lk13_t8 := World.block_lt_of_cell? v13 _ k13_t8
  have k13_t11 := hx.cell (World.Ext.cell (by repeat (first | exact World.Ext.refl _ | exact ⟨_, rfl⟩ | assumption | refine World.Ext.over ?_ _ | refine World.Ext.drewN ?_ _ | refine World.Ext.drew ?_ | refine World.Ext.alloc ?_ _ | refine World.Ext.setCell ?_ (by simp) _)) k12_t11)
  have lk13_t11 := World.block_lt_of_cell? v13 _ k13_t11
  have X13 : Hid (w.Ext v13) := (X12.out.trans (by repeat (first | exact World.Ext.refl _ | exact ⟨_, rfl⟩ | assumption | refine World.Ext.over ?_ _ | refine World.Ext.drewN ?_ _ | refine World.Ext.drew ?_ | refine World.Ext.alloc ?_ _ | refine World.Ext.setCell ?_ (by simp) _))).trans hx
  have z13 : v12.heap.size ≤ v13.heap.size := hx.size
  have O13_c2 := Lib.hid ((O12_c2.out.ext (by repeat (first | exact World.Ext.refl _ | exact ⟨_, rfl⟩ | assumption | refine World.Ext.over ?_ _ | refine World.Ext.drewN ?_ _ | refine World.Ext.drew ?_ | refine World.Ext.alloc ?_ _ | refine World.Ext.setCell ?_ (by simp) _))).ext hx)
  have O13_r3_0 := Lib.hid ((O12_r3_0.out.ext (by repeat (first | exact World.Ext.refl _ | exact ⟨_, rfl⟩ | assumption | refine World.Ext.over ?_ _ | refine World.Ext.drewN ?_ _ | refine World.Ext.drew ?_ | refine World.Ext.alloc ?_ _ | refine World.Ext.setCell ?_ (by simp) _))).ext hx)
  have O13_r5_0 := Lib.hid ((O12_r5_0.out.ext (by repeat (first | exact World.Ext.refl _ | exact ⟨_, rfl⟩ | assumption | refine World.Ext.over ?_ _ | refine World.Ext.drewN ?_ _ | refine World.Ext.drew ?_ | refine World.Ext.alloc ?_ _ | refine World.Ext.setCell ?_ (by simp) _))).ext hx)
  have O13_c7 := Lib.hid ((O12_c7.out.ext (by repeat (first | exact World.Ext.refl _ | exact ⟨_, rfl⟩ | assumption | refine World.Ext.over ?_ _ | refine World.Ext.drewN ?_ _ | refine World.Ext.drew ?_ | refine World.Ext.alloc ?_ _ | refine World.Ext.setCell ?_ (by simp) _))).ext hx)
  have O13_c13 := Lib.hid (ho.mono (lo' := v12.heap.size) (by simp) (Nat.le_refl _))
  clear hx ho k12_t8 lk12_t8 k12_t11 lk12_t11 O12_c2 O12_r3_0 O12_r5_0 O12_c7 X12
  go_wp2_with fail
  refine (HIMO.out HB2.out _ _ _ ((O13_c13.out.ext (by repeat (first | exact World.Ext.refl _ | exact ⟨_, rfl⟩ | assumption | refine World.Ext.over ?_ _ | refine World.Ext.drewN ?_ _ | refine World.Ext.drew ?_ | refine World.Ext.alloc ?_ _ | refine World.Ext.setCell ?_ (by simp) _))).row)).mono ?_
  rintro e v14 ⟨p14_0, r14_0, rfl, hx, ho0⟩
  have k14_t8 := hx.cell (World.Ext.cell (by repeat (first | exact World.Ext.refl _ | exact ⟨_, rfl⟩ | assumption | refine World.Ext.over ?_ _ | refine World.Ext.drewN ?_ _ | refine World.Ext.drew ?_ | refine World.Ext.alloc ?_ _ | refine World.Ext.setCell ?_ (by simp) _)) k13_t8)
  have lk14_t8 := World.block_lt_of_cell? v14 _ k14_t8
  have k14_t11 := hx.cell (World.Ext.cell (by repeat (first | exact World.Ext.refl _ | exact ⟨_, rfl⟩ | assumption | refine World.Ext.over ?_ _ | refine World.Ext.drewN ?_ _ | refine World.Ext.drew ?_ | refine World.Ext.alloc ?_ _ | refine World.Ext.setCell ?_ (by simp) _)) k13_t11)
  have lk14_t11 := World.block_lt_of_cell? v14 _ k14_t11
  have X14 : Hid (w.Ext v14) := (X13.out.trans (by repeat (first | exact World.Ext.refl _ | exact ⟨_, rfl⟩ | assumption | refine World.Ext.over ?_ _ | refine World.Ext.drewN ?_ _ | refine World.Ext.drew ?_ | refine World.Ext.alloc ?_ _ | refine World.Ext.setCell ?_ (by simp) _))).trans hx
  have z14 : v13.heap.size ≤ v14.heap.size := hx.size
  have O14_c2 := Lib.hid ((O13_c2.out.ext (by repeat (first | exact World.Ext.refl _ | exact ⟨_, rfl⟩ | assumption | refine World.Ext.over ?_ _ | refine World.Ext.drewN ?_ _ | refine World.Ext.drew ?_ | refine World.Ext.alloc ?_ _ | refine World.Ext.setCell ?_ (by simp) _))).ext hx)
  have O14_r3_0 := Lib.hid ((O13_r3_0.out.ext (by repeat (first | exact World.Ext.refl _ | exact ⟨_, rfl⟩ | assumption | refine World.Ext.over ?_ _ | refine World.Ext.drewN ?_ _ | refine World.Ext.drew ?_ | refine World.Ext.alloc ?_ _ | refine World.Ext.setCell ?_ (by simp) _))).ext hx)
  have O14_r5_0 := Lib.hid ((O13_r5_0.out.ext (by repeat (first | exact World.Ext.refl _ | exact ⟨_, rfl⟩ | assumption | refine World.Ext.over ?_ _ | refine World.Ext.drewN ?_ _ | refine World.Ext.drew ?_ | refine World.Ext.alloc ?_ _ | refine World.Ext.setCell ?_ (by simp) _))).ext hx)
  have O14_c7 := Lib.hid ((O13_c7.out.ext (by repeat (first | exact World.Ext.refl _ | exact ⟨_, rfl⟩ | assumption | refine World.Ext.over ?_ _ | refine World.Ext.drewN ?_ _ | refine World.Ext.drew ?_ | refine World.Ext.alloc ?_ _ | refine World.Ext.setCell ?_ (by simp) _))).ext hx)
  have O14_c13 := Lib.hid ((O13_c13.out.ext (by repeat (first | exact World.Ext.refl _ | exact ⟨_, rfl⟩ | assumption | refine World.Ext.over ?_ _ | refine World.Ext.drewN ?_ _ | refine World.Ext.drew ?_ | refine World.Ext.alloc ?_ _ | refine World.Ext.setCell ?_ (by simp) _))).ext hx)
  have O14_r14_0 := Lib.hid (ho0.mono (lo' := v13.heap.size) (by simp) (Nat.le_refl _))
  clear hx ho0 k13_t8 lk13_t8 k13_t11 lk13_t11 O13_c2 O13_r3_0 O13_r5_0 O13_c7 O13_c13 X13
  go_wp2_with fail
  refine (eqPicture_res _ _ _ _ R0 _ HRBO0.out ((O14_r14_0.out.ext (by repeat (first | exact World.Ext.refl _ | exact ⟨_, rfl⟩ | assumption | refine World.Ext.over ?_ _ | refine World.Ext.drewN ?_ _ | refine World.Ext.drew ?_ | refine World.Ext.alloc ?_ _ | refine World.Ext.setCell ?_ (by simp) _))).row) ((O14_r3_0.out.ext (by repeat (first | exact World.Ext.refl _ | exact ⟨_, rfl⟩ | assumption | refine World.Ext.over ?_ _ | refine World.Ext.drewN ?_ _ | refine World.Ext.drew ?_ | refine World.Ext.alloc ?_ _ | refine World.Ext.setCell ?_ (by simp) _))).row)).mono ?_
  rintro e v15 ⟨rfl, hx⟩
  have k15_t8 := hx.cell (World.Ext.cell (by repeat (first | exact World.Ext.refl _ | exact ⟨_, rfl⟩ | assumption | refine World.Ext.over ?_ _ | refine World.Ext.drewN ?_ _ | refine World.Ext.drew ?_ | refine World.Ext.alloc ?_ _ | refine World.Ext.setCell ?_ (by simp) _)) k14_t8)
  have lk15_t8 := World.block_lt_of_cell? v15 _ k15_t8
  have k15_t11 := hx.cell (World.Ext.cell (by repeat (first | exact World.Ext.refl _ | exact ⟨_, rfl⟩ | assumption | refine World.Ext.over ?_ _ | refine World.Ext.drewN ?_ _ | refine World.Ext.drew ?_ | refine World.Ext.alloc ?_ _ | refine World.Ext.setCell ?_ (by simp) _)) k14_t11)
  have lk15_t11 := World.block_lt_of_cell? v15 _ k15_t11
  have k15_t16 := hx.cell (a := ⟨v14.heap.size, 0, none⟩) (v := .slice p14_0 R0.length r14_0) (by simp [go_sem])
  have lk15_t16 := World.block_lt_of_cell? v15 _ k15_t16
  have X15 : Hid (w.Ext v15) := (X14.out.trans (by repeat (first | exact World.Ext.refl _ | exact ⟨_, rfl⟩ | assumption | refine World.Ext.over ?_ _ | refine World.Ext.drewN ?_ _ | refine World.Ext.drew ?_ | refine World.Ext.alloc ?_ _ | refine World.Ext.setCell ?_ (by simp) _))).trans hx
  have z15 : v14.heap.size + 1 ≤ v15.heap.size := (by have h := hx.size; simp at h; omega)
  have O15_c2 := Lib.hid ((O14_c2.out.ext (by repeat (first | exact World.Ext.refl _ | exact ⟨_, rfl⟩ | assumption | refine World.Ext.over ?_ _ | refine World.Ext.drewN ?_ _ | refine World.Ext.drew ?_ | refine World.Ext.alloc ?_ _ | refine World.Ext.setCell ?_ (by simp) _))).ext hx)
  have O15_r3_0 := Lib.hid ((O14_r3_0.out.ext (by repeat (first | exact World.Ext.refl _ | exact ⟨_, rfl⟩ | assumption | refine World.Ext.over ?_ _ | refine World.Ext.drewN ?_ _ | refine World.Ext.drew ?_ | refine World.Ext.alloc ?_ _ | refine World.Ext.setCell ?_ (by simp) _))).ext hx)
  have O15_r5_0 := Lib.hid ((O14_r5_0.out.ext (by repeat (first | exact World.Ext.refl _ | exact ⟨_, rfl⟩ | assumption | refine World.Ext.over ?_ _ | refine World.Ext.drewN ?_ _ | refine World.Ext.drew ?_ | refine World.Ext.alloc ?_ _ | refine World.Ext.setCell ?_ (by simp) _))).ext hx)
  have O15_c7 := Lib.hid ((O14_c7.out.ext (by repeat (first | exact World.Ext.refl _ | exact ⟨_, rfl⟩ | assumption | refine World.Ext.over ?_ _ | refine World.Ext.drewN ?_ _ | refine World.Ext.drew ?_ | refine World.Ext.alloc ?_ _ | refine World.Ext.setCell ?_ (by simp) _))).ext hx)
  have O15_c13 := Lib.hid ((O14_c13.out.ext (by repeat (first | exact World.Ext.refl _ | exact ⟨_, rfl⟩ | assumption | refine World.Ext.over ?_ _ | refine World.Ext.drewN ?_ _ | refine World.Ext.drew ?_ | refine World.Ext.alloc ?_ _ | refine World.Ext.setCell ?_ (by simp) _))).ext hx)
  have O15_r14_0 := Lib.hid ((O14_r14_0.out.ext (by repeat (first | exact World.Ext.refl _ | exact ⟨_, rfl⟩ | assumption | refine World.Ext.over ?_ _ | refine World.Ext.drewN ?_ _ | refine World.Ext.drew ?_ | refine World.Ext.alloc ?_ _ | refine World.Ext.setCell ?_ (by simp) _))).ext hx)
  clear hx k14_t8 lk14_t8 k14_t11 lk14_t11 O14_c2 O14_r3_0 O14_r5_0 O14_c7 O14_c13 O14_r14_0 X14
  go_wp2_with fail
  refine (heldPicture_res _ _ R0 1 _ HRBO0.out (by omega) ((O15_r5_0.out.ext (by repeat (first | exact World.Ext.refl _ | exact ⟨_, rfl⟩ | assumption | refine World.Ext.over ?_ _ | refine World.Ext.drewN ?_ _ | refine World.Ext.drew ?_ | refine World.Ext.alloc ?_ _ | refine World.Ext.setCell ?_ (by simp) _))).row)).mono ?_
  rintro e v16 ⟨rfl, hx⟩
  have k16_t8 := hx.cell (World.Ext.cell (by repeat (first | exact World.Ext.refl _ | exact ⟨_, rfl⟩ | assumption | refine World.Ext.over ?_ _ | refine World.Ext.drewN ?_ _ | refine World.Ext.drew ?_ | refine World.Ext.alloc ?_ _ | refine World.Ext.setCell ?_ (by simp) _)) k15_t8)
  have lk16_t8 := World.block_lt_of_cell? v16 _ k16_t8
  have k16_t11 := hx.cell (World.Ext.cell (by repeat (first | exact World.Ext.refl _ | exact ⟨_, rfl⟩ | assumption | refine World.Ext.over ?_ _ | refine World.Ext.drewN ?_ _ | refine World.Ext.drew ?_ | refine World.Ext.alloc ?_ _ | refine World.Ext.setCell ?_ (by simp) _)) k15_t11)
  have lk16_t11 := World.block_lt_of_cell? v16 _ k16_t11
  have k16_t16 := hx.cell (World.Ext.cell (by repeat (first | exact World.Ext.refl _ | exact ⟨_, rfl⟩ | assumption | refine World.Ext.over ?_ _ | refine World.Ext.drewN ?_ _ | refine World.Ext.drew ?_ | refine World.Ext.alloc ?_ _ | refine World.Ext.setCell ?_ (by simp) _)) k15_t16)
  have lk16_t16 := World.block_lt_of_cell? v16 _ k16_t16
  have X16 : Hid (w.Ext v16) := (X15.out.trans (by repeat (first | exact World.Ext.refl _ | exact ⟨_, rfl⟩ | assumption | refine World.Ext.over ?_ _ | refine World.Ext.drewN ?_ _ | refine World.Ext.drew ?_ | refine World.Ext.alloc ?_ _ | refine World.Ext.setCell ?_ (by simp) _))).trans hx
  have z16 : v15.heap.size ≤ v16.heap.size := hx.size
  have O16_c2 := Lib.hid ((O15_c2.out.ext (by repeat (first | exact World.Ext.refl _ | exact ⟨_, rfl⟩ | assumption | refine World.Ext.over ?_ _ | refine World.Ext.drewN ?_ _ | refine World.Ext.drew ?_ | refine World.Ext.alloc ?_ _ | refine World.Ext.setCell ?_ (by simp) _))).ext hx)
  have O16_r3_0 := Lib.hid ((O15_r3_0.out.ext (by repeat (first | exact World.Ext.refl _ | exact ⟨_, rfl⟩ | assumption | refine World.Ext.over ?_ _ | refine World.Ext.drewN ?_ _ | refine World.Ext.drew ?_ | refine World.Ext.alloc ?_ _ | refine World.Ext.setCell ?_ (by simp) _))).ext hx)
  have O16_r5_0 := Lib.hid ((O15_r5_0.out.ext (by repeat (first | exact World.Ext.refl _ | exact ⟨_, rfl⟩ | assumption | refine World.Ext.over ?_ _ | refine World.Ext.drewN ?_ _ | refine World.Ext.drew ?_ | refine World.Ext.alloc ?_ _ | refine World.Ext.setCell ?_ (by simp) _))).ext hx)
  have O16_c7 := Lib.hid ((O15_c7.out.ext (by repeat (first | exact World.Ext.refl _ | exact ⟨_, rfl⟩ | assumption | refine World.Ext.over ?_ _ | refine World.Ext.drewN ?_ _ | refine World.Ext.drew ?_ | refine World.Ext.alloc ?_ _ | refine World.Ext.setCell ?_ (by simp) _))).ext hx)
  have O16_c13 := Lib.hid ((O15_c13.out.ext (by repeat (first | exact World.Ext.refl _ | exact ⟨_, rfl⟩ | assumption | refine World.Ext.over ?_ _ | refine World.Ext.drewN ?_ _ | refine World.Ext.drew ?_ | refine World.Ext.alloc ?_ _ | refine World.Ext.setCell ?_ (by simp) _))).ext hx)
  have O16_r14_0 := Lib.hid ((O15_r14_0.out.ext (by repeat (first | exact World.Ext.refl _ | exact ⟨_, rfl⟩ | assumption | refine World.Ext.over ?_ _ | refine World.Ext.drewN ?_ _ | refine World.Ext.drew ?_ | refine World.Ext.alloc ?_ _ | refine World.Ext.setCell ?_ (by simp) _))).ext hx)
  clear hx k15_t8 lk15_t8 k15_t11 lk15_t11 k15_t16 lk15_t16 O15_c2 O15_r3_0 O15_r5_0 O15_c7 O15_c13 O15_r14_0 X15
  go_wp2
  go_ret
  exact ⟨rfl, X16.out⟩
end Go.Proofs.Ythgkmaccbcpaeaa
