/- The walk of the law FnExactTurnTree, over two contracts. -/
import Derived.Test.YtlcofjicpbbdhaaLaws
import Derived.Test.YtlcofjicpbbdhaaLMat
import Derived.Test.YtlcofjicpbbdhaaLTree
import Derived.Deep.RegionHeld3
import Derived.Deep.DeepCutAuto
namespace Go.Proofs.Ytlcofjicpbbdhaa
open Go.RowKit
/-- What TurnTree returns. -/
def exactTurnTreeRet (w : World) (R0 : Int) (T0 : ByteArray) (R1 : Bool) (e : Ending) (w' : World) : Prop := e = .returned (.tuple #[.agg #[.int .i64 R0, .string T0], .bool R1]) ∧ w.Ext w'
set_option maxRecDepth 5000 in
set_option maxHeartbeats 8000000 in
theorem exactTurnTreeWalk (i0 : Int) (s0 : ByteArray) (i1 : Int) (R0 : Int) (T0 : ByteArray) (R1 : Bool) (HSP : s0.size ≤ 1048576 → ∀ (w : World), Calls Try.prog 71 #[.agg #[.int .i64 i0, .string s0], .int .i64 i1] w (exactTurnTreeRet w R0 T0 R1)) (HIM : s0.size ≤ 1048576 → ∀ (w : World), Calls Try.prog 73 #[.agg #[.int .i64 i0, .string s0], .int .i64 i1] w (exactTurnTreeRet w R0 T0 R1)) (hb0 : s0.size ≤ 1048576 → T0.size ≤ maxLen) (w : World) (hl0 : s0.size ≤ maxLen) :
    Calls Try.prog 13 #[.agg #[.int .i64 i0, .string s0], .int .i64 i1] w fun e w' => e = .returned (.bool true) ∧ w.Ext w' := by
  have HL0 := Lib.hid hl0
  have HSPO := Lib.hid HSP
  have HIMO := Lib.hid HIM
  have HRB0 := Lib.hid hb0
  clear HSP HIM hl0 hb0
  go_enter Try.func13, Try.ntmps13
  go_wp2_with fail
  refine (szTree_ok _ s0 1048576 _ (by omega) (by omega) HL0.out).mono ?_
  rintro e v1 ⟨q1, rfl, hx, hq1, hq2⟩
  have k1_t2 := hx.cell (a := ⟨w.heap.size, 0, none⟩) (v := .int .i64 i0) (by simp [go_sem])
  have k1_t2b := hx.cell (a := ⟨w.heap.size, 1, none⟩) (v := .string s0) (by simp [go_sem])
  have lk1_t2 := World.block_lt_of_cell? v1 _ k1_t2
  have X1 : Hid (w.Ext v1) := World.Ext.trans (by repeat (first | exact World.Ext.refl _ | exact ⟨_, rfl⟩ | assumption | refine World.Ext.over ?_ _ | refine World.Ext.drewN ?_ _ | refine World.Ext.drew ?_ | refine World.Ext.alloc ?_ _ | refine World.Ext.setCell ?_ (by simp) _)) hx
  have z1 : w.heap.size + 1 ≤ v1.heap.size := (by have h := hx.size; simp at h; omega)
  have Q1 := Lib.hid hq2
  clear hx hq2
  by_cases hz1 : q1 < 0
  · go_wp2
    go_ret
    exact ⟨rfl, X1.out⟩
  obtain ⟨hB0, hC0⟩ := Q1.out (by omega)
  have HB0 := Lib.hid hB0
  clear hB0
  have HRBO0 := Lib.hid (HRB0.out HB0.out)
  have hrb0 := HRBO0.out
  go_wp2_with fail
  refine (toTree_any _ _ _).mono ?_
  rintro e v2 ⟨rfl, hx⟩
  have k2_t2 := hx.cell (World.Ext.cell (by repeat (first | exact World.Ext.refl _ | exact ⟨_, rfl⟩ | assumption | refine World.Ext.over ?_ _ | refine World.Ext.drewN ?_ _ | refine World.Ext.drew ?_ | refine World.Ext.alloc ?_ _ | refine World.Ext.setCell ?_ (by simp) _)) k1_t2)
  have k2_t2b := hx.cell (World.Ext.cell (by repeat (first | exact World.Ext.refl _ | exact ⟨_, rfl⟩ | assumption | refine World.Ext.over ?_ _ | refine World.Ext.drewN ?_ _ | refine World.Ext.drew ?_ | refine World.Ext.alloc ?_ _ | refine World.Ext.setCell ?_ (by simp) _)) k1_t2b)
  have lk2_t2 := World.block_lt_of_cell? v2 _ k2_t2
  have X2 : Hid (w.Ext v2) := (X1.out.trans (by repeat (first | exact World.Ext.refl _ | exact ⟨_, rfl⟩ | assumption | refine World.Ext.over ?_ _ | refine World.Ext.drewN ?_ _ | refine World.Ext.drew ?_ | refine World.Ext.alloc ?_ _ | refine World.Ext.setCell ?_ (by simp) _))).trans hx
  have z2 : v1.heap.size ≤ v2.heap.size := hx.size
  clear hx k1_t2b k1_t2 lk1_t2 X1
  go_wp2_with fail
  refine (HSPO.out HB0.out _).mono ?_
  rintro e v3 ⟨rfl, hx⟩
  have k3_t2 := hx.cell (World.Ext.cell (by repeat (first | exact World.Ext.refl _ | exact ⟨_, rfl⟩ | assumption | refine World.Ext.over ?_ _ | refine World.Ext.drewN ?_ _ | refine World.Ext.drew ?_ | refine World.Ext.alloc ?_ _ | refine World.Ext.setCell ?_ (by simp) _)) k2_t2)
  have k3_t2b := hx.cell (World.Ext.cell (by repeat (first | exact World.Ext.refl _ | exact ⟨_, rfl⟩ | assumption | refine World.Ext.over ?_ _ | refine World.Ext.drewN ?_ _ | refine World.Ext.drew ?_ | refine World.Ext.alloc ?_ _ | refine World.Ext.setCell ?_ (by simp) _)) k2_t2b)
  have lk3_t2 := World.block_lt_of_cell? v3 _ k3_t2
  have X3 : Hid (w.Ext v3) := (X2.out.trans (by repeat (first | exact World.Ext.refl _ | exact ⟨_, rfl⟩ | assumption | refine World.Ext.over ?_ _ | refine World.Ext.drewN ?_ _ | refine World.Ext.drew ?_ | refine World.Ext.alloc ?_ _ | refine World.Ext.setCell ?_ (by simp) _))).trans hx
  have z3 : v2.heap.size ≤ v3.heap.size := hx.size
  clear hx k2_t2b k2_t2 lk2_t2 X2
  go_wp2_with fail
  refine (toTree_any _ _ _).mono ?_
  rintro e v4 ⟨rfl, hx⟩
  have k4_t2 := hx.cell (World.Ext.cell (by repeat (first | exact World.Ext.refl _ | exact ⟨_, rfl⟩ | assumption | refine World.Ext.over ?_ _ | refine World.Ext.drewN ?_ _ | refine World.Ext.drew ?_ | refine World.Ext.alloc ?_ _ | refine World.Ext.setCell ?_ (by simp) _)) k3_t2)
  have k4_t2b := hx.cell (World.Ext.cell (by repeat (first | exact World.Ext.refl _ | exact ⟨_, rfl⟩ | assumption | refine World.Ext.over ?_ _ | refine World.Ext.drewN ?_ _ | refine World.Ext.drew ?_ | refine World.Ext.alloc ?_ _ | refine World.Ext.setCell ?_ (by simp) _)) k3_t2b)
  have lk4_t2 := World.block_lt_of_cell? v4 _ k4_t2
  have k4_t6 := hx.cell (a := ⟨v3.heap.size, 0, none⟩) (v := .int .i64 R0) (by simp [go_sem])
  have k4_t6b := hx.cell (a := ⟨v3.heap.size, 1, none⟩) (v := .string T0) (by simp [go_sem])
  have lk4_t6 := World.block_lt_of_cell? v4 _ k4_t6
  have X4 : Hid (w.Ext v4) := (X3.out.trans (by repeat (first | exact World.Ext.refl _ | exact ⟨_, rfl⟩ | assumption | refine World.Ext.over ?_ _ | refine World.Ext.drewN ?_ _ | refine World.Ext.drew ?_ | refine World.Ext.alloc ?_ _ | refine World.Ext.setCell ?_ (by simp) _))).trans hx
  have z4 : v3.heap.size + 1 ≤ v4.heap.size := (by have h := hx.size; simp at h; omega)
  clear hx k3_t2b k3_t2 lk3_t2 X3
  go_wp2_with fail
  refine (HIMO.out HB0.out _).mono ?_
  rintro e v5 ⟨rfl, hx⟩
  have k5_t2 := hx.cell (World.Ext.cell (by repeat (first | exact World.Ext.refl _ | exact ⟨_, rfl⟩ | assumption | refine World.Ext.over ?_ _ | refine World.Ext.drewN ?_ _ | refine World.Ext.drew ?_ | refine World.Ext.alloc ?_ _ | refine World.Ext.setCell ?_ (by simp) _)) k4_t2)
  have k5_t2b := hx.cell (World.Ext.cell (by repeat (first | exact World.Ext.refl _ | exact ⟨_, rfl⟩ | assumption | refine World.Ext.over ?_ _ | refine World.Ext.drewN ?_ _ | refine World.Ext.drew ?_ | refine World.Ext.alloc ?_ _ | refine World.Ext.setCell ?_ (by simp) _)) k4_t2b)
  have lk5_t2 := World.block_lt_of_cell? v5 _ k5_t2
  have k5_t6 := hx.cell (World.Ext.cell (by repeat (first | exact World.Ext.refl _ | exact ⟨_, rfl⟩ | assumption | refine World.Ext.over ?_ _ | refine World.Ext.drewN ?_ _ | refine World.Ext.drew ?_ | refine World.Ext.alloc ?_ _ | refine World.Ext.setCell ?_ (by simp) _)) k4_t6)
  have k5_t6b := hx.cell (World.Ext.cell (by repeat (first | exact World.Ext.refl _ | exact ⟨_, rfl⟩ | assumption | refine World.Ext.over ?_ _ | refine World.Ext.drewN ?_ _ | refine World.Ext.drew ?_ | refine World.Ext.alloc ?_ _ | refine World.Ext.setCell ?_ (by simp) _)) k4_t6b)
  have lk5_t6 := World.block_lt_of_cell? v5 _ k5_t6
  have X5 : Hid (w.Ext v5) := (X4.out.trans (by repeat (first | exact World.Ext.refl _ | exact ⟨_, rfl⟩ | assumption | refine World.Ext.over ?_ _ | refine World.Ext.drewN ?_ _ | refine World.Ext.drew ?_ | refine World.Ext.alloc ?_ _ | refine World.Ext.setCell ?_ (by simp) _))).trans hx
  have z5 : v4.heap.size ≤ v5.heap.size := hx.size
  clear hx k4_t2b k4_t2 lk4_t2 k4_t6b k4_t6 lk4_t6 X4
  go_wp2_with fail
  refine (eqTree_any _ _ _).mono ?_
  rintro e v6 ⟨rfl, hx⟩
  have k6_t2 := hx.cell (World.Ext.cell (by repeat (first | exact World.Ext.refl _ | exact ⟨_, rfl⟩ | assumption | refine World.Ext.over ?_ _ | refine World.Ext.drewN ?_ _ | refine World.Ext.drew ?_ | refine World.Ext.alloc ?_ _ | refine World.Ext.setCell ?_ (by simp) _)) k5_t2)
  have k6_t2b := hx.cell (World.Ext.cell (by repeat (first | exact World.Ext.refl _ | exact ⟨_, rfl⟩ | assumption | refine World.Ext.over ?_ _ | refine World.Ext.drewN ?_ _ | refine World.Ext.drew ?_ | refine World.Ext.alloc ?_ _ | refine World.Ext.setCell ?_ (by simp) _)) k5_t2b)
  have lk6_t2 := World.block_lt_of_cell? v6 _ k6_t2
  have k6_t6 := hx.cell (World.Ext.cell (by repeat (first | exact World.Ext.refl _ | exact ⟨_, rfl⟩ | assumption | refine World.Ext.over ?_ _ | refine World.Ext.drewN ?_ _ | refine World.Ext.drew ?_ | refine World.Ext.alloc ?_ _ | refine World.Ext.setCell ?_ (by simp) _)) k5_t6)
  have k6_t6b := hx.cell (World.Ext.cell (by repeat (first | exact World.Ext.refl _ | exact ⟨_, rfl⟩ | assumption | refine World.Ext.over ?_ _ | refine World.Ext.drewN ?_ _ | refine World.Ext.drew ?_ | refine World.Ext.alloc ?_ _ | refine World.Ext.setCell ?_ (by simp) _)) k5_t6b)
  have lk6_t6 := World.block_lt_of_cell? v6 _ k6_t6
  have k6_t8 := hx.cell (a := ⟨v5.heap.size, 0, none⟩) (v := .int .i64 R0) (by simp [go_sem])
  have k6_t8b := hx.cell (a := ⟨v5.heap.size, 1, none⟩) (v := .string T0) (by simp [go_sem])
  have lk6_t8 := World.block_lt_of_cell? v6 _ k6_t8
  have X6 : Hid (w.Ext v6) := (X5.out.trans (by repeat (first | exact World.Ext.refl _ | exact ⟨_, rfl⟩ | assumption | refine World.Ext.over ?_ _ | refine World.Ext.drewN ?_ _ | refine World.Ext.drew ?_ | refine World.Ext.alloc ?_ _ | refine World.Ext.setCell ?_ (by simp) _))).trans hx
  have z6 : v5.heap.size + 1 ≤ v6.heap.size := (by have h := hx.size; simp at h; omega)
  clear hx k5_t2b k5_t2 lk5_t2 k5_t6b k5_t6 lk5_t6 X5
  go_wp2
  go_ret
  exact ⟨rfl, X6.out⟩
end Go.Proofs.Ytlcofjicpbbdhaa
