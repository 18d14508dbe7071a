/- The walk of the law FnExactReadGrey, over two contracts. -/
import Derived.Test.YthgkmaccbcpaeaaDoorLaws
import Derived.Test.YthgkmaccbcpaeaaDoorLMat
import Derived.Test.YthgkmaccbcpaeaaDoorLGr
import Derived.Deep.RegionHeld3
import Derived.Deep.DeepCutAuto
namespace Go.Proofs.YthgkmaccbcpaeaaDoor
open Go.RowKit
/-- What ReadGrey returns. -/
def exactReadGreyRet (w : World) (R0 : List (List Int)) (R1 : Bool) (e : Ending) (w' : World) : Prop := ∃ x0 y0 X0 Y0, e = .returned (.tuple #[.agg #[.slice x0 R0.length y0], .bool R1]) ∧ w.Ext w' ∧ OwnMat w.heap.size w'.heap.size w' x0 X0 Y0 R0
set_option maxRecDepth 5000 in
set_option maxHeartbeats 8000000 in
theorem exactReadGreyWalk (s0 : ByteArray) (R0 : List (List Int)) (R1 : Bool) (w : World) (HSP : s0.size ≤ 1048576 → ∀ (w : World), Calls Tryd.prog 27 #[.string s0] w (exactReadGreyRet w R0 R1)) (HIM : s0.size ≤ 1048576 → ∀ (w' : World), w.Ext w' → Calls Tryd.prog 28 #[.string s0] w' (exactReadGreyRet w' R0 R1)) (hb0 : s0.size ≤ 1048576 → MatBnd R0 ∧ offM R0 R0.length ≤ 1048576) (hl0 : s0.size ≤ maxLen) :
    Calls Tryd.prog 5 #[.string s0] w fun e w' => e = .returned (.bool true) ∧ w.Ext w' := by
  have HL0 := Lib.hid hl0
  have HSPO := Lib.hid HSP
  have HIMO := Lib.hid HIM
  have HRB0 := Lib.hid hb0
  clear HSP HIM hl0 hb0
  have hlm : s0.size ≤ 9223372036854775807 := by have := HL0.out; unfold maxLen at this; omega
  by_cases hB : s0.size ≤ 1048576
  rotate_left
  · have hb1 : (1048576 : Int) < (s0.size : Int) := by omega
    clear HSPO HIMO HRB0 HL0
    go_enter Tryd.func5, Tryd.ntmps5
    go_wp2
    go_ret
    exact ⟨rfl, .refl _⟩
  have hb1 : ¬ (1048576 : Int) < (s0.size : Int) := by omega
  have HB0 : Hid (s0.size ≤ 1048576) := hB
  have HRBO0 := Lib.hid (HRB0.out hB)
  have hrb0 := HRBO0.out.2
  go_enter Tryd.func5, Tryd.ntmps5
  go_wp2_with fail
  refine (HSPO.out HB0.out _).mono ?_
  rintro e v1 ⟨p1_0, r1_0, B1_0, D1_0, rfl, hx, ho0⟩
  have X1 : Hid (w.Ext v1) := World.Ext.trans (by repeat (first | exact World.Ext.refl _ | exact ⟨_, rfl⟩ | assumption | refine World.Ext.over ?_ _ | refine World.Ext.drewN ?_ _ | refine World.Ext.drew ?_ | refine World.Ext.alloc ?_ _ | refine World.Ext.setCell ?_ (by simp) _)) hx
  have z1 : w.heap.size ≤ v1.heap.size := hx.size
  have O1_r1_0 := Lib.hid (ho0.mono (lo' := w.heap.size) (by simp) (Nat.le_refl _))
  clear hx ho0
  go_wp2_with fail
  refine (HIMO.out HB0.out _ (X1.out.trans (by repeat (first | exact World.Ext.refl _ | exact ⟨_, rfl⟩ | assumption | refine World.Ext.over ?_ _ | refine World.Ext.drewN ?_ _ | refine World.Ext.drew ?_ | refine World.Ext.alloc ?_ _ | refine World.Ext.setCell ?_ (by simp) _)))).mono ?_
  rintro e v2 ⟨p2_0, r2_0, B2_0, D2_0, rfl, hx, ho0⟩
  have k2_t3 := hx.cell (a := ⟨v1.heap.size, 0, none⟩) (v := .slice p1_0 R0.length r1_0) (by simp [go_sem])
  have lk2_t3 := World.block_lt_of_cell? v2 _ k2_t3
  have X2 : Hid (w.Ext v2) := (X1.out.trans (by repeat (first | exact World.Ext.refl _ | exact ⟨_, rfl⟩ | assumption | refine World.Ext.over ?_ _ | refine World.Ext.drewN ?_ _ | refine World.Ext.drew ?_ | refine World.Ext.alloc ?_ _ | refine World.Ext.setCell ?_ (by simp) _))).trans hx
  have z2 : v1.heap.size + 1 ≤ v2.heap.size := (by have h := hx.size; simp at h; omega)
  have O2_r1_0 := Lib.hid ((O1_r1_0.out.ext (by repeat (first | exact World.Ext.refl _ | exact ⟨_, rfl⟩ | assumption | refine World.Ext.over ?_ _ | refine World.Ext.drewN ?_ _ | refine World.Ext.drew ?_ | refine World.Ext.alloc ?_ _ | refine World.Ext.setCell ?_ (by simp) _))).ext hx)
  have O2_r2_0 := Lib.hid (ho0.mono (lo' := v1.heap.size + 1) (by simp) (Nat.le_refl _))
  clear hx ho0 O1_r1_0 X1
  go_wp2_with fail
  refine (eqGrey_res _ _ _ _ _ _ _ _ R0 _ HRBO0.out ((O2_r2_0.out.ext (by repeat (first | exact World.Ext.refl _ | exact ⟨_, rfl⟩ | assumption | refine World.Ext.over ?_ _ | refine World.Ext.drewN ?_ _ | refine World.Ext.drew ?_ | refine World.Ext.alloc ?_ _ | refine World.Ext.setCell ?_ (by simp) _))).mat) ((O2_r1_0.out.ext (by repeat (first | exact World.Ext.refl _ | exact ⟨_, rfl⟩ | assumption | refine World.Ext.over ?_ _ | refine World.Ext.drewN ?_ _ | refine World.Ext.drew ?_ | refine World.Ext.alloc ?_ _ | refine World.Ext.setCell ?_ (by simp) _))).mat)).mono ?_
  rintro e v3 ⟨rfl, hx⟩
  have k3_t3 := hx.cell (World.Ext.cell (by repeat (first | exact World.Ext.refl _ | exact ⟨_, rfl⟩ | assumption | refine World.Ext.over ?_ _ | refine World.Ext.drewN ?_ _ | refine World.Ext.drew ?_ | refine World.Ext.alloc ?_ _ | refine World.Ext.setCell ?_ (by simp) _)) k2_t3)
  have lk3_t3 := World.block_lt_of_cell? v3 _ k3_t3
  have k3_t5 := hx.cell (a := ⟨v2.heap.size, 0, none⟩) (v := .slice p2_0 R0.length r2_0) (by simp [go_sem])
  have lk3_t5 := World.block_lt_of_cell? v3 _ k3_t5
  have X3 : Hid (w.Ext v3) := (X2.out.trans (by repeat (first | exact World.Ext.refl _ | exact ⟨_, rfl⟩ | assumption | refine World.Ext.over ?_ _ | refine World.Ext.drewN ?_ _ | refine World.Ext.drew ?_ | refine World.Ext.alloc ?_ _ | refine World.Ext.setCell ?_ (by simp) _))).trans hx
  have z3 : v2.heap.size + 1 ≤ v3.heap.size := (by have h := hx.size; simp at h; omega)
  have O3_r1_0 := Lib.hid ((O2_r1_0.out.ext (by repeat (first | exact World.Ext.refl _ | exact ⟨_, rfl⟩ | assumption | refine World.Ext.over ?_ _ | refine World.Ext.drewN ?_ _ | refine World.Ext.drew ?_ | refine World.Ext.alloc ?_ _ | refine World.Ext.setCell ?_ (by simp) _))).ext hx)
  have O3_r2_0 := Lib.hid ((O2_r2_0.out.ext (by repeat (first | exact World.Ext.refl _ | exact ⟨_, rfl⟩ | assumption | refine World.Ext.over ?_ _ | refine World.Ext.drewN ?_ _ | refine World.Ext.drew ?_ | refine World.Ext.alloc ?_ _ | refine World.Ext.setCell ?_ (by simp) _))).ext hx)
  clear hx k2_t3 lk2_t3 O2_r1_0 O2_r2_0 X2
  go_wp2_with fail
  refine (markGrey_res _ _ _ _ R0 1 (v1.heap.size + 1) v2.heap.size _ HRBO0.out (by omega) O3_r2_0.out).mono ?_
  rintro e v4 ⟨rfl, hw, hn⟩
  have k4_t3 := hw.cell k3_t3 (by dsimp only; omega)
  have lk4_t3 := World.block_lt_of_cell? v4 _ k4_t3
  have k4_t5 := hw.cell k3_t5 (by dsimp only; omega)
  have lk4_t5 := World.block_lt_of_cell? v4 _ k4_t5
  have X4 : Hid (w.Ext v4) := X3.out.wroteNew hw (fun k hk => by omega)
  have z4 : v3.heap.size ≤ v4.heap.size := hw.size
  have O4_r1_0 := Lib.hid (O3_r1_0.out.wrote hw (fun k h1 h2 => by omega))
  have O4_r2_0 := Lib.hid hn
  clear hw hn O3_r2_0 k3_t3 lk3_t3 k3_t5 lk3_t5 O3_r1_0 X3
  go_wp2_with fail
  refine (heldGrey_res _ _ _ _ R0 1 _ HRBO0.out (by omega) ((O4_r2_0.out.ext (by repeat (first | exact World.Ext.refl _ | exact ⟨_, rfl⟩ | assumption | refine World.Ext.over ?_ _ | refine World.Ext.drewN ?_ _ | refine World.Ext.drew ?_ | refine World.Ext.alloc ?_ _ | refine World.Ext.setCell ?_ (by simp) _))).mat)).mono ?_
  rintro e v5 ⟨rfl, hx⟩
  have k5_t3 := hx.cell (World.Ext.cell (by repeat (first | exact World.Ext.refl _ | exact ⟨_, rfl⟩ | assumption | refine World.Ext.over ?_ _ | refine World.Ext.drewN ?_ _ | refine World.Ext.drew ?_ | refine World.Ext.alloc ?_ _ | refine World.Ext.setCell ?_ (by simp) _)) k4_t3)
  have lk5_t3 := World.block_lt_of_cell? v5 _ k5_t3
  have k5_t5 := hx.cell (World.Ext.cell (by repeat (first | exact World.Ext.refl _ | exact ⟨_, rfl⟩ | assumption | refine World.Ext.over ?_ _ | refine World.Ext.drewN ?_ _ | refine World.Ext.drew ?_ | refine World.Ext.alloc ?_ _ | refine World.Ext.setCell ?_ (by simp) _)) k4_t5)
  have lk5_t5 := World.block_lt_of_cell? v5 _ k5_t5
  have X5 : Hid (w.Ext v5) := (X4.out.trans (by repeat (first | exact World.Ext.refl _ | exact ⟨_, rfl⟩ | assumption | refine World.Ext.over ?_ _ | refine World.Ext.drewN ?_ _ | refine World.Ext.drew ?_ | refine World.Ext.alloc ?_ _ | refine World.Ext.setCell ?_ (by simp) _))).trans hx
  have z5 : v4.heap.size ≤ v5.heap.size := hx.size
  have O5_r1_0 := Lib.hid ((O4_r1_0.out.ext (by repeat (first | exact World.Ext.refl _ | exact ⟨_, rfl⟩ | assumption | refine World.Ext.over ?_ _ | refine World.Ext.drewN ?_ _ | refine World.Ext.drew ?_ | refine World.Ext.alloc ?_ _ | refine World.Ext.setCell ?_ (by simp) _))).ext hx)
  have O5_r2_0 := Lib.hid ((O4_r2_0.out.ext (by repeat (first | exact World.Ext.refl _ | exact ⟨_, rfl⟩ | assumption | refine World.Ext.over ?_ _ | refine World.Ext.drewN ?_ _ | refine World.Ext.drew ?_ | refine World.Ext.alloc ?_ _ | refine World.Ext.setCell ?_ (by simp) _))).ext hx)
  clear hx k4_t3 lk4_t3 k4_t5 lk4_t5 O4_r1_0 O4_r2_0 X4
  go_wp2_with fail
  refine (HIMO.out HB0.out _ (X5.out.trans (by repeat (first | exact World.Ext.refl _ | exact ⟨_, rfl⟩ | assumption | refine World.Ext.over ?_ _ | refine World.Ext.drewN ?_ _ | refine World.Ext.drew ?_ | refine World.Ext.alloc ?_ _ | refine World.Ext.setCell ?_ (by simp) _)))).mono ?_
  rintro e v6 ⟨p6_0, r6_0, B6_0, D6_0, rfl, hx, ho0⟩
  have k6_t3 := hx.cell (World.Ext.cell (by repeat (first | exact World.Ext.refl _ | exact ⟨_, rfl⟩ | assumption | refine World.Ext.over ?_ _ | refine World.Ext.drewN ?_ _ | refine World.Ext.drew ?_ | refine World.Ext.alloc ?_ _ | refine World.Ext.setCell ?_ (by simp) _)) k5_t3)
  have lk6_t3 := World.block_lt_of_cell? v6 _ k6_t3
  have k6_t5 := hx.cell (World.Ext.cell (by repeat (first | exact World.Ext.refl _ | exact ⟨_, rfl⟩ | assumption | refine World.Ext.over ?_ _ | refine World.Ext.drewN ?_ _ | refine World.Ext.drew ?_ | refine World.Ext.alloc ?_ _ | refine World.Ext.setCell ?_ (by simp) _)) k5_t5)
  have lk6_t5 := World.block_lt_of_cell? v6 _ k6_t5
  have X6 : Hid (w.Ext v6) := (X5.out.trans (by repeat (first | exact World.Ext.refl _ | exact ⟨_, rfl⟩ | assumption | refine World.Ext.over ?_ _ | refine World.Ext.drewN ?_ _ | refine World.Ext.drew ?_ | refine World.Ext.alloc ?_ _ | refine World.Ext.setCell ?_ (by simp) _))).trans hx
  have z6 : v5.heap.size ≤ v6.heap.size := hx.size
  have O6_r1_0 := Lib.hid ((O5_r1_0.out.ext (by repeat (first | exact World.Ext.refl _ | exact ⟨_, rfl⟩ | assumption | refine World.Ext.over ?_ _ | refine World.Ext.drewN ?_ _ | refine World.Ext.drew ?_ | refine World.Ext.alloc ?_ _ | refine World.Ext.setCell ?_ (by simp) _))).ext hx)
  have O6_r2_0 := Lib.hid ((O5_r2_0.out.ext (by repeat (first | exact World.Ext.refl _ | exact ⟨_, rfl⟩ | assumption | refine World.Ext.over ?_ _ | refine World.Ext.drewN ?_ _ | refine World.Ext.drew ?_ | refine World.Ext.alloc ?_ _ | refine World.Ext.setCell ?_ (by simp) _))).ext hx)
  have O6_r6_0 := Lib.hid (ho0.mono (lo' := v5.heap.size) (by simp) (Nat.le_refl _))
  clear hx ho0 k5_t3 lk5_t3 k5_t5 lk5_t5 O5_r1_0 O5_r2_0 X5
  go_wp2_with fail
  refine (eqGrey_res _ _ _ _ _ _ _ _ R0 _ HRBO0.out ((O6_r6_0.out.ext (by repeat (first | exact World.Ext.refl _ | exact ⟨_, rfl⟩ | assumption | refine World.Ext.over ?_ _ | refine World.Ext.drewN ?_ _ | refine World.Ext.drew ?_ | refine World.Ext.alloc ?_ _ | refine World.Ext.setCell ?_ (by simp) _))).mat) ((O6_r1_0.out.ext (by repeat (first | exact World.Ext.refl _ | exact ⟨_, rfl⟩ | assumption | refine World.Ext.over ?_ _ | refine World.Ext.drewN ?_ _ | refine World.Ext.drew ?_ | refine World.Ext.alloc ?_ _ | refine World.Ext.setCell ?_ (by simp) _))).mat)).mono ?_
  rintro e v7 ⟨rfl, hx⟩
  have k7_t3 := hx.cell (World.Ext.cell (by repeat (first | exact World.Ext.refl _ | exact ⟨_, rfl⟩ | assumption | refine World.Ext.over ?_ _ | refine World.Ext.drewN ?_ _ | refine World.Ext.drew ?_ | refine World.Ext.alloc ?_ _ | refine World.Ext.setCell ?_ (by simp) _)) k6_t3)
  have lk7_t3 := World.block_lt_of_cell? v7 _ k7_t3
  have k7_t5 := hx.cell (World.Ext.cell (by repeat (first | exact World.Ext.refl _ | exact ⟨_, rfl⟩ | assumption | refine World.Ext.over ?_ _ | refine World.Ext.drewN ?_ _ | refine World.Ext.drew ?_ | refine World.Ext.alloc ?_ _ | refine World.Ext.setCell ?_ (by simp) _)) k6_t5)
  have lk7_t5 := World.block_lt_of_cell? v7 _ k7_t5
  have k7_t9 := hx.cell (a := ⟨v6.heap.size, 0, none⟩) (v := .slice p6_0 R0.length r6_0) (by simp [go_sem])
  have lk7_t9 := World.block_lt_of_cell? v7 _ k7_t9
  have X7 : Hid (w.Ext v7) := (X6.out.trans (by repeat (first | exact World.Ext.refl _ | exact ⟨_, rfl⟩ | assumption | refine World.Ext.over ?_ _ | refine World.Ext.drewN ?_ _ | refine World.Ext.drew ?_ | refine World.Ext.alloc ?_ _ | refine World.Ext.setCell ?_ (by simp) _))).trans hx
  have z7 : v6.heap.size + 1 ≤ v7.heap.size := (by have h := hx.size; simp at h; omega)
  have O7_r1_0 := Lib.hid ((O6_r1_0.out.ext (by repeat (first | exact World.Ext.refl _ | exact ⟨_, rfl⟩ | assumption | refine World.Ext.over ?_ _ | refine World.Ext.drewN ?_ _ | refine World.Ext.drew ?_ | refine World.Ext.alloc ?_ _ | refine World.Ext.setCell ?_ (by simp) _))).ext hx)
  have O7_r2_0 := Lib.hid ((O6_r2_0.out.ext (by repeat (first | exact World.Ext.refl _ | exact ⟨_, rfl⟩ | assumption | refine World.Ext.over ?_ _ | refine World.Ext.drewN ?_ _ | refine World.Ext.drew ?_ | refine World.Ext.alloc ?_ _ | refine World.Ext.setCell ?_ (by simp) _))).ext hx)
  have O7_r6_0 := Lib.hid ((O6_r6_0.out.ext (by repeat (first | exact World.Ext.refl _ | exact ⟨_, rfl⟩ | assumption | refine World.Ext.over ?_ _ | refine World.Ext.drewN ?_ _ | refine World.Ext.drew ?_ | refine World.Ext.alloc ?_ _ | refine World.Ext.setCell ?_ (by simp) _))).ext hx)
  clear hx k6_t3 lk6_t3 k6_t5 lk6_t5 O6_r1_0 O6_r2_0 O6_r6_0 X6
  go_wp2_with fail
  refine (heldGrey_res _ _ _ _ R0 1 _ HRBO0.out (by omega) ((O7_r2_0.out.ext (by repeat (first | exact World.Ext.refl _ | exact ⟨_, rfl⟩ | assumption | refine World.Ext.over ?_ _ | refine World.Ext.drewN ?_ _ | refine World.Ext.drew ?_ | refine World.Ext.alloc ?_ _ | refine World.Ext.setCell ?_ (by simp) _))).mat)).mono ?_
  rintro e v8 ⟨rfl, hx⟩
  have k8_t3 := hx.cell (World.Ext.cell (by repeat (first | exact World.Ext.refl _ | exact ⟨_, rfl⟩ | assumption | refine World.Ext.over ?_ _ | refine World.Ext.drewN ?_ _ | refine World.Ext.drew ?_ | refine World.Ext.alloc ?_ _ | refine World.Ext.setCell ?_ (by simp) _)) k7_t3)
  have lk8_t3 := World.block_lt_of_cell? v8 _ k8_t3
  have k8_t5 := hx.cell (World.Ext.cell (by repeat (first | exact World.Ext.refl _ | exact ⟨_, rfl⟩ | assumption | refine World.Ext.over ?_ _ | refine World.Ext.drewN ?_ _ | refine World.Ext.drew ?_ | refine World.Ext.alloc ?_ _ | refine World.Ext.setCell ?_ (by simp) _)) k7_t5)
  have lk8_t5 := World.block_lt_of_cell? v8 _ k8_t5
  have k8_t9 := hx.cell (World.Ext.cell (by repeat (first | exact World.Ext.refl _ | exact ⟨_, rfl⟩ | assumption | refine World.Ext.over ?_ _ | refine World.Ext.drewN ?_ _ | refine World.Ext.drew ?_ | refine World.Ext.alloc ?_ _ | refine World.Ext.setCell ?_ (by simp) _)) k7_t9)
  have lk8_t9 := World.block_lt_of_cell? v8 _ k8_t9
  have X8 : Hid (w.Ext v8) := (X7.out.trans (by repeat (first | exact World.Ext.refl _ | exact ⟨_, rfl⟩ | assumption | refine World.Ext.over ?_ _ | refine World.Ext.drewN ?_ _ | refine World.Ext.drew ?_ | refine World.Ext.alloc ?_ _ | refine World.Ext.setCell ?_ (by simp) _))).trans hx
  have z8 : v7.heap.size ≤ v8.heap.size := hx.size
  have O8_r1_0 := Lib.hid ((O7_r1_0.out.ext (by repeat (first | exact World.Ext.refl _ | exact ⟨_, rfl⟩ | assumption | refine World.Ext.over ?_ _ | refine World.Ext.drewN ?_ _ | refine World.Ext.drew ?_ | refine World.Ext.alloc ?_ _ | refine World.Ext.setCell ?_ (by simp) _))).ext hx)
  have O8_r2_0 := Lib.hid ((O7_r2_0.out.ext (by repeat (first | exact World.Ext.refl _ | exact ⟨_, rfl⟩ | assumption | refine World.Ext.over ?_ _ | refine World.Ext.drewN ?_ _ | refine World.Ext.drew ?_ | refine World.Ext.alloc ?_ _ | refine World.Ext.setCell ?_ (by simp) _))).ext hx)
  have O8_r6_0 := Lib.hid ((O7_r6_0.out.ext (by repeat (first | exact World.Ext.refl _ | exact ⟨_, rfl⟩ | assumption | refine World.Ext.over ?_ _ | refine World.Ext.drewN ?_ _ | refine World.Ext.drew ?_ | refine World.Ext.alloc ?_ _ | refine World.Ext.setCell ?_ (by simp) _))).ext hx)
  clear hx k7_t3 lk7_t3 k7_t5 lk7_t5 k7_t9 lk7_t9 O7_r1_0 O7_r2_0 O7_r6_0 X7
  go_wp2
  go_ret
  exact ⟨rfl, X8.out⟩
end Go.Proofs.YthgkmaccbcpaeaaDoor
