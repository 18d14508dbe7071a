/- The walk of the law FnExactGreyText, over two contracts. -/
import Derived.Test.YthgkmaccbcpaeaaDoorLaws
import Derived.Test.YthgkmaccbcpaeaaDoorLMat
import Derived.Test.YthgkmaccbcpaeaaDoorLGr
import Derived.Deep.RegionHeld3
import Derived.Deep.DeepCutAuto
namespace Go.Proofs.YthgkmaccbcpaeaaDoor
open Go.RowKit
/-- What GreyText returns. -/
def exactGreyTextRet (w : World) (R0 : ByteArray) (R1 : Bool) (e : Ending) (w' : World) : Prop := e = .returned (.tuple #[.string R0, .bool R1]) ∧ w.Ext w'
set_option maxRecDepth 5000 in
set_option maxHeartbeats 8000000 in
theorem exactGreyTextWalk (a0 : Option Addr) (c0 : Nat) (A0 : Nat → Option Addr) (C0 : Nat → Nat) (m0 : List (List Int)) (R0 : ByteArray) (R1 : Bool) (HSP : MatBnd m0 → ∀ (a0 : Option Addr) (c0 : Nat) (A0 : Nat → Option Addr) (C0 : Nat → Nat) (w : World), MatAt w a0 A0 C0 m0 → Calls Tryd.prog 7 #[.agg #[.slice a0 m0.length c0]] w (exactGreyTextRet w R0 R1)) (HIM : MatBnd m0 → ∀ (a0 : Option Addr) (c0 : Nat) (A0 : Nat → Option Addr) (C0 : Nat → Nat) (w : World), MatAt w a0 A0 C0 m0 → Calls Tryd.prog 9 #[.agg #[.slice a0 m0.length c0]] w (exactGreyTextRet w R0 R1)) (hb0 : MatBnd m0 → R0.size ≤ maxLen) (w : World) (hm0 : MatAt w a0 A0 C0 m0) (hl0 : MatLen m0) :
    Calls Tryd.prog 3 #[.agg #[.slice a0 m0.length c0]] w fun e w' => e = .returned (.bool true) ∧ w.Ext w' := by
  have HM0 := Lib.hid hm0
  have HL0 := Lib.hid hl0
  have HSPO := Lib.hid HSP
  have HIMO := Lib.hid HIM
  have HRB0 := Lib.hid hb0
  clear HSP HIM hm0 hl0 hb0
  go_enter Tryd.func3, Tryd.ntmps3
  go_wp2_with fail
  refine (szGrey_ok _ _ _ _ m0 1048576 _ (by omega) (by omega) (HM0.out.ext (by repeat (first | exact World.Ext.refl _ | exact ⟨_, rfl⟩ | assumption | refine World.Ext.over ?_ _ | refine World.Ext.drewN ?_ _ | refine World.Ext.drew ?_ | refine World.Ext.alloc ?_ _ | refine World.Ext.setCell ?_ (by simp) _))) HL0.out).mono ?_
  rintro e v1 ⟨q1, rfl, hx, hq1, hq2⟩
  have k1_t1 := hx.cell (a := ⟨w.heap.size, 0, none⟩) (v := .slice a0 m0.length c0) (by simp [go_sem])
  have lk1_t1 := World.block_lt_of_cell? v1 _ k1_t1
  have X1 : Hid (w.Ext v1) := World.Ext.trans (by repeat (first | exact World.Ext.refl _ | exact ⟨_, rfl⟩ | assumption | refine World.Ext.over ?_ _ | refine World.Ext.drewN ?_ _ | refine World.Ext.drew ?_ | refine World.Ext.alloc ?_ _ | refine World.Ext.setCell ?_ (by simp) _)) hx
  have z1 : w.heap.size + 1 ≤ v1.heap.size := (by have h := hx.size; simp at h; omega)
  have Q1 := Lib.hid hq2
  clear hx hq2
  by_cases hz1 : q1 < 0
  · go_wp2
    go_ret
    exact ⟨rfl, X1.out⟩
  obtain ⟨hB0, hC0⟩ := Q1.out (by omega)
  have HB0 := Lib.hid hB0
  clear hB0
  have HRBO0 := Lib.hid (HRB0.out HB0.out)
  have hrb0 := HRBO0.out
  go_wp2_with fail
  refine (toGrey_ok _ _ _ _ m0 _ HB0.out (HM0.out.ext (X1.out.trans (by repeat (first | exact World.Ext.refl _ | exact ⟨_, rfl⟩ | assumption | refine World.Ext.over ?_ _ | refine World.Ext.drewN ?_ _ | refine World.Ext.drew ?_ | refine World.Ext.alloc ?_ _ | refine World.Ext.setCell ?_ (by simp) _))))).mono ?_
  rintro e v2 ⟨g2, B2, D2, rfl, hx, ho⟩
  have k2_t1 := hx.cell (World.Ext.cell (by repeat (first | exact World.Ext.refl _ | exact ⟨_, rfl⟩ | assumption | refine World.Ext.over ?_ _ | refine World.Ext.drewN ?_ _ | refine World.Ext.drew ?_ | refine World.Ext.alloc ?_ _ | refine World.Ext.setCell ?_ (by simp) _)) k1_t1)
  have lk2_t1 := World.block_lt_of_cell? v2 _ k2_t1
  have X2 : Hid (w.Ext v2) := (X1.out.trans (by repeat (first | exact World.Ext.refl _ | exact ⟨_, rfl⟩ | assumption | refine World.Ext.over ?_ _ | refine World.Ext.drewN ?_ _ | refine World.Ext.drew ?_ | refine World.Ext.alloc ?_ _ | refine World.Ext.setCell ?_ (by simp) _))).trans hx
  have z2 : v1.heap.size ≤ v2.heap.size := hx.size
  have O2_c2 := Lib.hid (ho.mono (lo' := v1.heap.size) (by simp) (Nat.le_refl _))
  clear hx ho k1_t1 lk1_t1 X1
  go_wp2_with fail
  refine (HSPO.out HB0.out _ _ _ _ _ ((O2_c2.out.ext (by repeat (first | exact World.Ext.refl _ | exact ⟨_, rfl⟩ | assumption | refine World.Ext.over ?_ _ | refine World.Ext.drewN ?_ _ | refine World.Ext.drew ?_ | refine World.Ext.alloc ?_ _ | refine World.Ext.setCell ?_ (by simp) _))).mat)).mono ?_
  rintro e v3 ⟨rfl, hx⟩
  have k3_t1 := hx.cell (World.Ext.cell (by repeat (first | exact World.Ext.refl _ | exact ⟨_, rfl⟩ | assumption | refine World.Ext.over ?_ _ | refine World.Ext.drewN ?_ _ | refine World.Ext.drew ?_ | refine World.Ext.alloc ?_ _ | refine World.Ext.setCell ?_ (by simp) _)) k2_t1)
  have lk3_t1 := World.block_lt_of_cell? v3 _ k3_t1
  have X3 : Hid (w.Ext v3) := (X2.out.trans (by repeat (first | exact World.Ext.refl _ | exact ⟨_, rfl⟩ | assumption | refine World.Ext.over ?_ _ | refine World.Ext.drewN ?_ _ | refine World.Ext.drew ?_ | refine World.Ext.alloc ?_ _ | refine World.Ext.setCell ?_ (by simp) _))).trans hx
  have z3 : v2.heap.size ≤ v3.heap.size := hx.size
  have O3_c2 := Lib.hid ((O2_c2.out.ext (by repeat (first | exact World.Ext.refl _ | exact ⟨_, rfl⟩ | assumption | refine World.Ext.over ?_ _ | refine World.Ext.drewN ?_ _ | refine World.Ext.drew ?_ | refine World.Ext.alloc ?_ _ | refine World.Ext.setCell ?_ (by simp) _))).ext hx)
  clear hx k2_t1 lk2_t1 O2_c2 X2
  go_wp2_with fail
  refine (toGrey_ok _ _ _ _ m0 _ HB0.out (HM0.out.ext (X3.out.trans (by repeat (first | exact World.Ext.refl _ | exact ⟨_, rfl⟩ | assumption | refine World.Ext.over ?_ _ | refine World.Ext.drewN ?_ _ | refine World.Ext.drew ?_ | refine World.Ext.alloc ?_ _ | refine World.Ext.setCell ?_ (by simp) _))))).mono ?_
  rintro e v4 ⟨g4, B4, D4, rfl, hx, ho⟩
  have k4_t1 := hx.cell (World.Ext.cell (by repeat (first | exact World.Ext.refl _ | exact ⟨_, rfl⟩ | assumption | refine World.Ext.over ?_ _ | refine World.Ext.drewN ?_ _ | refine World.Ext.drew ?_ | refine World.Ext.alloc ?_ _ | refine World.Ext.setCell ?_ (by simp) _)) k3_t1)
  have lk4_t1 := World.block_lt_of_cell? v4 _ k4_t1
  have X4 : Hid (w.Ext v4) := (X3.out.trans (by repeat (first | exact World.Ext.refl _ | exact ⟨_, rfl⟩ | assumption | refine World.Ext.over ?_ _ | refine World.Ext.drewN ?_ _ | refine World.Ext.drew ?_ | refine World.Ext.alloc ?_ _ | refine World.Ext.setCell ?_ (by simp) _))).trans hx
  have z4 : v3.heap.size ≤ v4.heap.size := hx.size
  have O4_c2 := Lib.hid ((O3_c2.out.ext (by repeat (first | exact World.Ext.refl _ | exact ⟨_, rfl⟩ | assumption | refine World.Ext.over ?_ _ | refine World.Ext.drewN ?_ _ | refine World.Ext.drew ?_ | refine World.Ext.alloc ?_ _ | refine World.Ext.setCell ?_ (by simp) _))).ext hx)
  have O4_c4 := Lib.hid (ho.mono (lo' := v3.heap.size) (by simp) (Nat.le_refl _))
  clear hx ho k3_t1 lk3_t1 O3_c2 X3
  go_wp2_with fail
  refine (HIMO.out HB0.out _ _ _ _ _ ((O4_c4.out.ext (by repeat (first | exact World.Ext.refl _ | exact ⟨_, rfl⟩ | assumption | refine World.Ext.over ?_ _ | refine World.Ext.drewN ?_ _ | refine World.Ext.drew ?_ | refine World.Ext.alloc ?_ _ | refine World.Ext.setCell ?_ (by simp) _))).mat)).mono ?_
  rintro e v5 ⟨rfl, hx⟩
  have k5_t1 := hx.cell (World.Ext.cell (by repeat (first | exact World.Ext.refl _ | exact ⟨_, rfl⟩ | assumption | refine World.Ext.over ?_ _ | refine World.Ext.drewN ?_ _ | refine World.Ext.drew ?_ | refine World.Ext.alloc ?_ _ | refine World.Ext.setCell ?_ (by simp) _)) k4_t1)
  have lk5_t1 := World.block_lt_of_cell? v5 _ k5_t1
  have k5_t6 := hx.cell (a := ⟨v4.heap.size, 0, none⟩) (v := .slice (some ⟨g4, 0, none⟩) m0.length m0.length) (by simp [go_sem])
  have lk5_t6 := World.block_lt_of_cell? v5 _ k5_t6
  have X5 : Hid (w.Ext v5) := (X4.out.trans (by repeat (first | exact World.Ext.refl _ | exact ⟨_, rfl⟩ | assumption | refine World.Ext.over ?_ _ | refine World.Ext.drewN ?_ _ | refine World.Ext.drew ?_ | refine World.Ext.alloc ?_ _ | refine World.Ext.setCell ?_ (by simp) _))).trans hx
  have z5 : v4.heap.size + 1 ≤ v5.heap.size := (by have h := hx.size; simp at h; omega)
  have O5_c2 := Lib.hid ((O4_c2.out.ext (by repeat (first | exact World.Ext.refl _ | exact ⟨_, rfl⟩ | assumption | refine World.Ext.over ?_ _ | refine World.Ext.drewN ?_ _ | refine World.Ext.drew ?_ | refine World.Ext.alloc ?_ _ | refine World.Ext.setCell ?_ (by simp) _))).ext hx)
  have O5_c4 := Lib.hid ((O4_c4.out.ext (by repeat (first | exact World.Ext.refl _ | exact ⟨_, rfl⟩ | assumption | refine World.Ext.over ?_ _ | refine World.Ext.drewN ?_ _ | refine World.Ext.drew ?_ | refine World.Ext.alloc ?_ _ | refine World.Ext.setCell ?_ (by simp) _))).ext hx)
  clear hx k4_t1 lk4_t1 O4_c2 O4_c4 X4
  go_wp2_with fail
  go_region_held3 (fun w' => w'.cell? ⟨v4.heap.size, 0, none⟩ = some (.slice (some ⟨g4, 0, none⟩) m0.length m0.length) ∧ w'.cell? ⟨w.heap.size, 0, none⟩ = some (.slice a0 m0.length c0) ∧ v5.Ext w')
    (first | (refine ⟨World.Ext.cell ?_ k7_t6, World.Ext.cell ?_ k7_t1, World.Ext.trans E7 ?_⟩ <;> ((repeat (first | exact World.Ext.refl _ | exact ⟨_, rfl⟩ | assumption | refine World.Ext.over ?_ _ | refine World.Ext.drewN ?_ _ | refine World.Ext.drew ?_ | refine World.Ext.alloc ?_ _ | refine World.Ext.setCell ?_ ?_ _ | (simp; done))); done)) | (refine ⟨World.Ext.cell ?_ k6_t6, World.Ext.cell ?_ k6_t1, World.Ext.trans E6 ?_⟩ <;> ((repeat (first | exact World.Ext.refl _ | exact ⟨_, rfl⟩ | assumption | refine World.Ext.over ?_ _ | refine World.Ext.drewN ?_ _ | refine World.Ext.drew ?_ | refine World.Ext.alloc ?_ _ | refine World.Ext.setCell ?_ ?_ _ | (simp; done))); done)) | (refine ⟨World.Ext.cell ?_ k5_t6, World.Ext.cell ?_ k5_t1, ?_⟩ <;> ((repeat (first | exact World.Ext.refl _ | exact ⟨_, rfl⟩ | assumption | refine World.Ext.over ?_ _ | refine World.Ext.drewN ?_ _ | refine World.Ext.drew ?_ | refine World.Ext.alloc ?_ _ | refine World.Ext.setCell ?_ ?_ _ | (simp; done))); done)) | (refine ⟨World.Ext.cell ?_ k5_t6, World.Ext.cell ?_ k5_t1, ?_⟩ <;> (refine World.Ext.setCell E7 ?_ _; first | exact Nat.le_refl _ | (simp; done) | (simp; omega) | omega)))
    (first | (go_at_call 8; go_loud (refine (toGrey_ok _ _ _ _ m0 _ HB0.out (HM0.out.ext (X5.out.trans (by repeat (first | exact World.Ext.refl _ | exact ⟨_, rfl⟩ | assumption | refine World.Ext.over ?_ _ | refine World.Ext.drewN ?_ _ | refine World.Ext.drew ?_ | refine World.Ext.alloc ?_ _ | refine World.Ext.setCell ?_ (by simp) _))))).mono ?_; rintro e v6 ⟨g6, B6, D6, rfl, hx, ho⟩; (have k6_t1 := hx.cell (World.Ext.cell (by repeat (first | exact World.Ext.refl _ | exact ⟨_, rfl⟩ | assumption | refine World.Ext.over ?_ _ | refine World.Ext.drewN ?_ _ | refine World.Ext.drew ?_ | refine World.Ext.alloc ?_ _ | refine World.Ext.setCell ?_ (by simp) _)) k5_t1); have lk6_t1 := World.block_lt_of_cell? v6 _ k6_t1; have k6_t6 := hx.cell (World.Ext.cell (by repeat (first | exact World.Ext.refl _ | exact ⟨_, rfl⟩ | assumption | refine World.Ext.over ?_ _ | refine World.Ext.drewN ?_ _ | refine World.Ext.drew ?_ | refine World.Ext.alloc ?_ _ | refine World.Ext.setCell ?_ (by simp) _)) k5_t6); have lk6_t6 := World.block_lt_of_cell? v6 _ k6_t6; have X6 : Hid (w.Ext v6) := (X5.out.trans (by repeat (first | exact World.Ext.refl _ | exact ⟨_, rfl⟩ | assumption | refine World.Ext.over ?_ _ | refine World.Ext.drewN ?_ _ | refine World.Ext.drew ?_ | refine World.Ext.alloc ?_ _ | refine World.Ext.setCell ?_ (by simp) _))).trans hx; have z6 : v5.heap.size ≤ v6.heap.size := Nat.le_trans (World.Ext.size (by repeat (first | exact World.Ext.refl _ | exact ⟨_, rfl⟩ | assumption | refine World.Ext.over ?_ _ | refine World.Ext.drewN ?_ _ | refine World.Ext.drew ?_ | refine World.Ext.alloc ?_ _ | refine World.Ext.setCell ?_ (by simp) _))) hx.size; have O6_c2 := Lib.hid ((O5_c2.out.ext (by repeat (first | exact World.Ext.refl _ | exact ⟨_, rfl⟩ | assumption | refine World.Ext.over ?_ _ | refine World.Ext.drewN ?_ _ | refine World.Ext.drew ?_ | refine World.Ext.alloc ?_ _ | refine World.Ext.setCell ?_ (by simp) _))).ext hx); have O6_c4 := Lib.hid ((O5_c4.out.ext (by repeat (first | exact World.Ext.refl _ | exact ⟨_, rfl⟩ | assumption | refine World.Ext.over ?_ _ | refine World.Ext.drewN ?_ _ | refine World.Ext.drew ?_ | refine World.Ext.alloc ?_ _ | refine World.Ext.setCell ?_ (by simp) _))).ext hx); have E6 : v5.Ext v6 := World.Ext.trans (by repeat (first | exact World.Ext.refl _ | exact ⟨_, rfl⟩ | assumption | refine World.Ext.over ?_ _ | refine World.Ext.drewN ?_ _ | refine World.Ext.drew ?_ | refine World.Ext.alloc ?_ _ | refine World.Ext.setCell ?_ (by simp) _)) hx; (first | have hA := oldCell1 hA hx | have hA := newCellD hx | have hA := newCell1 hx | skip); (try have hAl := World.block_lt_of_cell? v6 _ hA.1); have O6_c6 := Lib.hid (ho.mono (lo' := v5.heap.size) (by simp) (Nat.le_refl _))))) | (go_at_call 10; go_loud (refine (eqGrey_ok _ _ _ _ _ _ _ _ m0 _ HB0.out ((O6_c4.out.ext (by repeat (first | exact World.Ext.refl _ | exact ⟨_, rfl⟩ | assumption | refine World.Ext.over ?_ _ | refine World.Ext.drewN ?_ _ | refine World.Ext.drew ?_ | refine World.Ext.alloc ?_ _ | refine World.Ext.setCell ?_ (by simp) _))).mat) ((O6_c6.out.ext (by repeat (first | exact World.Ext.refl _ | exact ⟨_, rfl⟩ | assumption | refine World.Ext.over ?_ _ | refine World.Ext.drewN ?_ _ | refine World.Ext.drew ?_ | refine World.Ext.alloc ?_ _ | refine World.Ext.setCell ?_ (by simp) _))).mat)).mono ?_; rintro e v7 ⟨rfl, hx⟩; (have k7_t1 := hx.cell (World.Ext.cell (by repeat (first | exact World.Ext.refl _ | exact ⟨_, rfl⟩ | assumption | refine World.Ext.over ?_ _ | refine World.Ext.drewN ?_ _ | refine World.Ext.drew ?_ | refine World.Ext.alloc ?_ _ | refine World.Ext.setCell ?_ (by simp) _)) k6_t1); have lk7_t1 := World.block_lt_of_cell? v7 _ k7_t1; have k7_t6 := hx.cell (World.Ext.cell (by repeat (first | exact World.Ext.refl _ | exact ⟨_, rfl⟩ | assumption | refine World.Ext.over ?_ _ | refine World.Ext.drewN ?_ _ | refine World.Ext.drew ?_ | refine World.Ext.alloc ?_ _ | refine World.Ext.setCell ?_ (by simp) _)) k6_t6); have lk7_t6 := World.block_lt_of_cell? v7 _ k7_t6; have X7 : Hid (w.Ext v7) := (X6.out.trans (by repeat (first | exact World.Ext.refl _ | exact ⟨_, rfl⟩ | assumption | refine World.Ext.over ?_ _ | refine World.Ext.drewN ?_ _ | refine World.Ext.drew ?_ | refine World.Ext.alloc ?_ _ | refine World.Ext.setCell ?_ (by simp) _))).trans hx; have z7 : v6.heap.size ≤ v7.heap.size := Nat.le_trans (World.Ext.size (by repeat (first | exact World.Ext.refl _ | exact ⟨_, rfl⟩ | assumption | refine World.Ext.over ?_ _ | refine World.Ext.drewN ?_ _ | refine World.Ext.drew ?_ | refine World.Ext.alloc ?_ _ | refine World.Ext.setCell ?_ (by simp) _))) hx.size; have O7_c2 := Lib.hid ((O6_c2.out.ext (by repeat (first | exact World.Ext.refl _ | exact ⟨_, rfl⟩ | assumption | refine World.Ext.over ?_ _ | refine World.Ext.drewN ?_ _ | refine World.Ext.drew ?_ | refine World.Ext.alloc ?_ _ | refine World.Ext.setCell ?_ (by simp) _))).ext hx); have O7_c4 := Lib.hid ((O6_c4.out.ext (by repeat (first | exact World.Ext.refl _ | exact ⟨_, rfl⟩ | assumption | refine World.Ext.over ?_ _ | refine World.Ext.drewN ?_ _ | refine World.Ext.drew ?_ | refine World.Ext.alloc ?_ _ | refine World.Ext.setCell ?_ (by simp) _))).ext hx); have O7_c6 := Lib.hid ((O6_c6.out.ext (by repeat (first | exact World.Ext.refl _ | exact ⟨_, rfl⟩ | assumption | refine World.Ext.over ?_ _ | refine World.Ext.drewN ?_ _ | refine World.Ext.drew ?_ | refine World.Ext.alloc ?_ _ | refine World.Ext.setCell ?_ (by simp) _))).ext hx); have E7 : v5.Ext v7 := World.Ext.trans (World.Ext.trans E6 (by repeat (first | exact World.Ext.refl _ | exact ⟨_, rfl⟩ | assumption | refine World.Ext.over ?_ _ | refine World.Ext.drewN ?_ _ | refine World.Ext.drew ?_ | refine World.Ext.alloc ?_ _ | refine World.Ext.setCell ?_ (by simp) _))) hx; (first | have hA := oldCell1 hA hx | have hA := newCellD hx | have hA := newCell1 hx | skip); (try have hAl := World.block_lt_of_cell? v7 _ hA.1)))))
  go_wp2
  go_ret
  exact ⟨rfl, X7.out⟩
end Go.Proofs.YthgkmaccbcpaeaaDoor
