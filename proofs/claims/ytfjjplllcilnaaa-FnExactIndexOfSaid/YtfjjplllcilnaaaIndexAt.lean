/- The index of a spot on each curve, of the reference and of the program. -/
import Derived.Test.YtfjjplllcilnaaaIndexBits
namespace Go.Proofs.Ytfjjplllcilnaaa
open Go.RowKit
theorem iz_bits (k : Nat) (x y : Int) : iz 2 k x y = bz k x y := rfl
set_option maxHeartbeats 800000 in
theorem l08Index_at0 (c x y : Int) (hc0 : 0 ≤ c) (hc3 : c ≤ 3) (h0 : 0 ≤ x) (h1 : x < 1) (h2 : 0 ≤ y) (h3 : y < 1) (w : World) (t : Int) (ht : iz c 0 x y = t) :
    Calls Try.prog 48 #[.int .i64 c, .int .i64 0, .int .i64 x, .int .i64 y] w fun e w' => e = .returned (.int .i64 t) ∧ w.Ext w' := by
  subst ht
  obtain rfl | rfl | rfl | rfl : c = 0 ∨ c = 1 ∨ c = 2 ∨ c = 3 := by omega
  · go_enter Try.func48, Try.ntmps48
    go_wp2_with (go_at_call 47; refine (side_any _ (by omega) (by omega) _).mono ?_; rintro e w' ⟨rfl, x1, rfl⟩; simp only [sideZ])
    go_ret
    refine ⟨ret_int (by simp [iz, sideZ]), ?_⟩
    repeat (first | exact World.Ext.refl _ | exact ⟨_, rfl⟩ | assumption | refine World.Ext.over ?_ _ | refine World.Ext.drewN ?_ _ | refine World.Ext.drew ?_ | refine World.Ext.alloc ?_ _ | refine World.Ext.setCell ?_ (by simp) _)
  · go_enter Try.func48, Try.ntmps48
    go_wp2_with (go_at_call 47; refine (side_any _ (by omega) (by omega) _).mono ?_; rintro e w' ⟨rfl, x1, rfl⟩; simp only [sideZ])
    all_goals
      go_ret
      refine ⟨ret_int (by simp_all [iz, sideZ]), ?_⟩
      repeat (first | exact World.Ext.refl _ | exact ⟨_, rfl⟩ | assumption | refine World.Ext.over ?_ _ | refine World.Ext.drewN ?_ _ | refine World.Ext.drew ?_ | refine World.Ext.alloc ?_ _ | refine World.Ext.setCell ?_ (by simp) _)
  · exact l08Index_bits0 x y h0 h1 h2 h3 w
  · go_enter Try.func48, Try.ntmps48
    go_wp2_with (first | (go_at_call 47; refine (side_any _ (by omega) (by omega) _).mono ?_; rintro e w' ⟨rfl, x1, rfl⟩; simp only [sideZ]) | (go_at_call 93; refine (l08Turns_any 0 _ _ _ _ rfl (by omega) h0 (by simpa using h1) h2 (by simpa using h3)).mono ?_; rintro e w' ⟨rfl, x1, rfl⟩))
    go_ret
    refine ⟨ret_int (by simp [iz]), ?_⟩
    repeat (first | exact World.Ext.refl _ | exact ⟨_, rfl⟩ | assumption | refine World.Ext.over ?_ _ | refine World.Ext.drewN ?_ _ | refine World.Ext.drew ?_ | refine World.Ext.alloc ?_ _ | refine World.Ext.setCell ?_ (by simp) _)
set_option maxHeartbeats 800000 in
theorem indexOf_at0 (c x y : Int) (hc0 : 0 ≤ c) (hc3 : c ≤ 3) (h0 : 0 ≤ x) (h1 : x < 1) (h2 : 0 ≤ y) (h3 : y < 1) (w : World) (t : Int) (ht : iz c 0 x y = t) :
    Calls Try.prog 50 #[.int .i64 c, .int .i64 0, .agg #[.int .i64 x, .int .i64 y]] w fun e w' => e = .returned (.int .i64 t) ∧ w.Ext w' := by
  subst ht
  obtain rfl | rfl | rfl | rfl : c = 0 ∨ c = 1 ∨ c = 2 ∨ c = 3 := by omega
  · go_enter Try.func50, Try.ntmps50
    go_wp2
    go_ret
    refine ⟨ret_int (by simp [iz, sideZ]), ?_⟩
    repeat (first | exact World.Ext.refl _ | exact ⟨_, rfl⟩ | assumption | refine World.Ext.over ?_ _ | refine World.Ext.drewN ?_ _ | refine World.Ext.drew ?_ | refine World.Ext.alloc ?_ _ | refine World.Ext.setCell ?_ (by simp) _)
  · go_enter Try.func50, Try.ntmps50
    go_wp2
    all_goals
      go_ret
      refine ⟨ret_int (by simp_all [iz, sideZ]), ?_⟩
      repeat (first | exact World.Ext.refl _ | exact ⟨_, rfl⟩ | assumption | refine World.Ext.over ?_ _ | refine World.Ext.drewN ?_ _ | refine World.Ext.drew ?_ | refine World.Ext.alloc ?_ _ | refine World.Ext.setCell ?_ (by simp) _)
  · exact indexOf_bits0 x y h0 h1 h2 h3 w
  · go_enter Try.func50, Try.ntmps50
    go_wp2_with (go_at_call 94; refine (turnsIndex_any 0 _ _ _ _ rfl (by omega) h0 (by simpa using h1) h2 (by simpa using h3)).mono ?_; rintro e w' ⟨rfl, x1, rfl⟩)
    go_ret
    refine ⟨ret_int (by simp [iz]), ?_⟩
    repeat (first | exact World.Ext.refl _ | exact ⟨_, rfl⟩ | assumption | refine World.Ext.over ?_ _ | refine World.Ext.drewN ?_ _ | refine World.Ext.drew ?_ | refine World.Ext.alloc ?_ _ | refine World.Ext.setCell ?_ (by simp) _)
set_option maxHeartbeats 800000 in
theorem l08Index_at1 (c x y : Int) (hc0 : 0 ≤ c) (hc3 : c ≤ 3) (h0 : 0 ≤ x) (h1 : x < 2) (h2 : 0 ≤ y) (h3 : y < 2) (w : World) (t : Int) (ht : iz c 1 x y = t) :
    Calls Try.prog 48 #[.int .i64 c, .int .i64 1, .int .i64 x, .int .i64 y] w fun e w' => e = .returned (.int .i64 t) ∧ w.Ext w' := by
  subst ht
  obtain rfl | rfl | rfl | rfl : c = 0 ∨ c = 1 ∨ c = 2 ∨ c = 3 := by omega
  · go_enter Try.func48, Try.ntmps48
    go_wp2_with (go_at_call 47; refine (side_any _ (by omega) (by omega) _).mono ?_; rintro e w' ⟨rfl, x1, rfl⟩; simp only [sideZ])
    go_ret
    refine ⟨ret_int (by simp [iz, sideZ]), ?_⟩
    repeat (first | exact World.Ext.refl _ | exact ⟨_, rfl⟩ | assumption | refine World.Ext.over ?_ _ | refine World.Ext.drewN ?_ _ | refine World.Ext.drew ?_ | refine World.Ext.alloc ?_ _ | refine World.Ext.setCell ?_ (by simp) _)
  · go_enter Try.func48, Try.ntmps48
    go_wp2_with (go_at_call 47; refine (side_any _ (by omega) (by omega) _).mono ?_; rintro e w' ⟨rfl, x1, rfl⟩; simp only [sideZ])
    all_goals
      go_ret
      refine ⟨ret_int (by simp_all [iz, sideZ]), ?_⟩
      repeat (first | exact World.Ext.refl _ | exact ⟨_, rfl⟩ | assumption | refine World.Ext.over ?_ _ | refine World.Ext.drewN ?_ _ | refine World.Ext.drew ?_ | refine World.Ext.alloc ?_ _ | refine World.Ext.setCell ?_ (by simp) _)
  · exact l08Index_bits1 x y h0 h1 h2 h3 w
  · go_enter Try.func48, Try.ntmps48
    go_wp2_with (first | (go_at_call 47; refine (side_any _ (by omega) (by omega) _).mono ?_; rintro e w' ⟨rfl, x1, rfl⟩; simp only [sideZ]) | (go_at_call 93; refine (l08Turns_any 1 _ _ _ _ rfl (by omega) h0 (by simpa using h1) h2 (by simpa using h3)).mono ?_; rintro e w' ⟨rfl, x1, rfl⟩))
    go_ret
    refine ⟨ret_int (by simp [iz]), ?_⟩
    repeat (first | exact World.Ext.refl _ | exact ⟨_, rfl⟩ | assumption | refine World.Ext.over ?_ _ | refine World.Ext.drewN ?_ _ | refine World.Ext.drew ?_ | refine World.Ext.alloc ?_ _ | refine World.Ext.setCell ?_ (by simp) _)
set_option maxHeartbeats 800000 in
theorem indexOf_at1 (c x y : Int) (hc0 : 0 ≤ c) (hc3 : c ≤ 3) (h0 : 0 ≤ x) (h1 : x < 2) (h2 : 0 ≤ y) (h3 : y < 2) (w : World) (t : Int) (ht : iz c 1 x y = t) :
    Calls Try.prog 50 #[.int .i64 c, .int .i64 1, .agg #[.int .i64 x, .int .i64 y]] w fun e w' => e = .returned (.int .i64 t) ∧ w.Ext w' := by
  subst ht
  obtain rfl | rfl | rfl | rfl : c = 0 ∨ c = 1 ∨ c = 2 ∨ c = 3 := by omega
  · go_enter Try.func50, Try.ntmps50
    go_wp2
    go_ret
    refine ⟨ret_int (by simp [iz, sideZ]), ?_⟩
    repeat (first | exact World.Ext.refl _ | exact ⟨_, rfl⟩ | assumption | refine World.Ext.over ?_ _ | refine World.Ext.drewN ?_ _ | refine World.Ext.drew ?_ | refine World.Ext.alloc ?_ _ | refine World.Ext.setCell ?_ (by simp) _)
  · go_enter Try.func50, Try.ntmps50
    go_wp2
    all_goals
      go_ret
      refine ⟨ret_int (by simp_all [iz, sideZ]), ?_⟩
      repeat (first | exact World.Ext.refl _ | exact ⟨_, rfl⟩ | assumption | refine World.Ext.over ?_ _ | refine World.Ext.drewN ?_ _ | refine World.Ext.drew ?_ | refine World.Ext.alloc ?_ _ | refine World.Ext.setCell ?_ (by simp) _)
  · exact indexOf_bits1 x y h0 h1 h2 h3 w
  · go_enter Try.func50, Try.ntmps50
    go_wp2_with (go_at_call 94; refine (turnsIndex_any 1 _ _ _ _ rfl (by omega) h0 (by simpa using h1) h2 (by simpa using h3)).mono ?_; rintro e w' ⟨rfl, x1, rfl⟩)
    go_ret
    refine ⟨ret_int (by simp [iz]), ?_⟩
    repeat (first | exact World.Ext.refl _ | exact ⟨_, rfl⟩ | assumption | refine World.Ext.over ?_ _ | refine World.Ext.drewN ?_ _ | refine World.Ext.drew ?_ | refine World.Ext.alloc ?_ _ | refine World.Ext.setCell ?_ (by simp) _)
set_option maxHeartbeats 800000 in
theorem l08Index_at2 (c x y : Int) (hc0 : 0 ≤ c) (hc3 : c ≤ 3) (h0 : 0 ≤ x) (h1 : x < 4) (h2 : 0 ≤ y) (h3 : y < 4) (w : World) (t : Int) (ht : iz c 2 x y = t) :
    Calls Try.prog 48 #[.int .i64 c, .int .i64 2, .int .i64 x, .int .i64 y] w fun e w' => e = .returned (.int .i64 t) ∧ w.Ext w' := by
  subst ht
  obtain rfl | rfl | rfl | rfl : c = 0 ∨ c = 1 ∨ c = 2 ∨ c = 3 := by omega
  · go_enter Try.func48, Try.ntmps48
    go_wp2_with (go_at_call 47; refine (side_any _ (by omega) (by omega) _).mono ?_; rintro e w' ⟨rfl, x1, rfl⟩; simp only [sideZ])
    go_ret
    refine ⟨ret_int (by simp [iz, sideZ]), ?_⟩
    repeat (first | exact World.Ext.refl _ | exact ⟨_, rfl⟩ | assumption | refine World.Ext.over ?_ _ | refine World.Ext.drewN ?_ _ | refine World.Ext.drew ?_ | refine World.Ext.alloc ?_ _ | refine World.Ext.setCell ?_ (by simp) _)
  · go_enter Try.func48, Try.ntmps48
    go_wp2_with (go_at_call 47; refine (side_any _ (by omega) (by omega) _).mono ?_; rintro e w' ⟨rfl, x1, rfl⟩; simp only [sideZ])
    all_goals
      go_ret
      refine ⟨ret_int (by simp_all [iz, sideZ]), ?_⟩
      repeat (first | exact World.Ext.refl _ | exact ⟨_, rfl⟩ | assumption | refine World.Ext.over ?_ _ | refine World.Ext.drewN ?_ _ | refine World.Ext.drew ?_ | refine World.Ext.alloc ?_ _ | refine World.Ext.setCell ?_ (by simp) _)
  · exact l08Index_bits2 x y h0 h1 h2 h3 w
  · go_enter Try.func48, Try.ntmps48
    go_wp2_with (first | (go_at_call 47; refine (side_any _ (by omega) (by omega) _).mono ?_; rintro e w' ⟨rfl, x1, rfl⟩; simp only [sideZ]) | (go_at_call 93; refine (l08Turns_any 2 _ _ _ _ rfl (by omega) h0 (by simpa using h1) h2 (by simpa using h3)).mono ?_; rintro e w' ⟨rfl, x1, rfl⟩))
    go_ret
    refine ⟨ret_int (by simp [iz]), ?_⟩
    repeat (first | exact World.Ext.refl _ | exact ⟨_, rfl⟩ | assumption | refine World.Ext.over ?_ _ | refine World.Ext.drewN ?_ _ | refine World.Ext.drew ?_ | refine World.Ext.alloc ?_ _ | refine World.Ext.setCell ?_ (by simp) _)
set_option maxHeartbeats 800000 in
theorem indexOf_at2 (c x y : Int) (hc0 : 0 ≤ c) (hc3 : c ≤ 3) (h0 : 0 ≤ x) (h1 : x < 4) (h2 : 0 ≤ y) (h3 : y < 4) (w : World) (t : Int) (ht : iz c 2 x y = t) :
    Calls Try.prog 50 #[.int .i64 c, .int .i64 2, .agg #[.int .i64 x, .int .i64 y]] w fun e w' => e = .returned (.int .i64 t) ∧ w.Ext w' := by
  subst ht
  obtain rfl | rfl | rfl | rfl : c = 0 ∨ c = 1 ∨ c = 2 ∨ c = 3 := by omega
  · go_enter Try.func50, Try.ntmps50
    go_wp2
    go_ret
    refine ⟨ret_int (by simp [iz, sideZ]), ?_⟩
    repeat (first | exact World.Ext.refl _ | exact ⟨_, rfl⟩ | assumption | refine World.Ext.over ?_ _ | refine World.Ext.drewN ?_ _ | refine World.Ext.drew ?_ | refine World.Ext.alloc ?_ _ | refine World.Ext.setCell ?_ (by simp) _)
  · go_enter Try.func50, Try.ntmps50
    go_wp2
    all_goals
      go_ret
      refine ⟨ret_int (by simp_all [iz, sideZ]), ?_⟩
      repeat (first | exact World.Ext.refl _ | exact ⟨_, rfl⟩ | assumption | refine World.Ext.over ?_ _ | refine World.Ext.drewN ?_ _ | refine World.Ext.drew ?_ | refine World.Ext.alloc ?_ _ | refine World.Ext.setCell ?_ (by simp) _)
  · exact indexOf_bits2 x y h0 h1 h2 h3 w
  · go_enter Try.func50, Try.ntmps50
    go_wp2_with (go_at_call 94; refine (turnsIndex_any 2 _ _ _ _ rfl (by omega) h0 (by simpa using h1) h2 (by simpa using h3)).mono ?_; rintro e w' ⟨rfl, x1, rfl⟩)
    go_ret
    refine ⟨ret_int (by simp [iz]), ?_⟩
    repeat (first | exact World.Ext.refl _ | exact ⟨_, rfl⟩ | assumption | refine World.Ext.over ?_ _ | refine World.Ext.drewN ?_ _ | refine World.Ext.drew ?_ | refine World.Ext.alloc ?_ _ | refine World.Ext.setCell ?_ (by simp) _)
set_option maxHeartbeats 800000 in
theorem l08Index_at3 (c x y : Int) (hc0 : 0 ≤ c) (hc3 : c ≤ 3) (h0 : 0 ≤ x) (h1 : x < 8) (h2 : 0 ≤ y) (h3 : y < 8) (w : World) (t : Int) (ht : iz c 3 x y = t) :
    Calls Try.prog 48 #[.int .i64 c, .int .i64 3, .int .i64 x, .int .i64 y] w fun e w' => e = .returned (.int .i64 t) ∧ w.Ext w' := by
  subst ht
  obtain rfl | rfl | rfl | rfl : c = 0 ∨ c = 1 ∨ c = 2 ∨ c = 3 := by omega
  · go_enter Try.func48, Try.ntmps48
    go_wp2_with (go_at_call 47; refine (side_any _ (by omega) (by omega) _).mono ?_; rintro e w' ⟨rfl, x1, rfl⟩; simp only [sideZ])
    go_ret
    refine ⟨ret_int (by simp [iz, sideZ]), ?_⟩
    repeat (first | exact World.Ext.refl _ | exact ⟨_, rfl⟩ | assumption | refine World.Ext.over ?_ _ | refine World.Ext.drewN ?_ _ | refine World.Ext.drew ?_ | refine World.Ext.alloc ?_ _ | refine World.Ext.setCell ?_ (by simp) _)
  · go_enter Try.func48, Try.ntmps48
    go_wp2_with (go_at_call 47; refine (side_any _ (by omega) (by omega) _).mono ?_; rintro e w' ⟨rfl, x1, rfl⟩; simp only [sideZ])
    all_goals
      go_ret
      refine ⟨ret_int (by simp_all [iz, sideZ]), ?_⟩
      repeat (first | exact World.Ext.refl _ | exact ⟨_, rfl⟩ | assumption | refine World.Ext.over ?_ _ | refine World.Ext.drewN ?_ _ | refine World.Ext.drew ?_ | refine World.Ext.alloc ?_ _ | refine World.Ext.setCell ?_ (by simp) _)
  · exact l08Index_bits3 x y h0 h1 h2 h3 w
  · go_enter Try.func48, Try.ntmps48
    go_wp2_with (first | (go_at_call 47; refine (side_any _ (by omega) (by omega) _).mono ?_; rintro e w' ⟨rfl, x1, rfl⟩; simp only [sideZ]) | (go_at_call 93; refine (l08Turns_any 3 _ _ _ _ rfl (by omega) h0 (by simpa using h1) h2 (by simpa using h3)).mono ?_; rintro e w' ⟨rfl, x1, rfl⟩))
    go_ret
    refine ⟨ret_int (by simp [iz]), ?_⟩
    repeat (first | exact World.Ext.refl _ | exact ⟨_, rfl⟩ | assumption | refine World.Ext.over ?_ _ | refine World.Ext.drewN ?_ _ | refine World.Ext.drew ?_ | refine World.Ext.alloc ?_ _ | refine World.Ext.setCell ?_ (by simp) _)
set_option maxHeartbeats 800000 in
theorem indexOf_at3 (c x y : Int) (hc0 : 0 ≤ c) (hc3 : c ≤ 3) (h0 : 0 ≤ x) (h1 : x < 8) (h2 : 0 ≤ y) (h3 : y < 8) (w : World) (t : Int) (ht : iz c 3 x y = t) :
    Calls Try.prog 50 #[.int .i64 c, .int .i64 3, .agg #[.int .i64 x, .int .i64 y]] w fun e w' => e = .returned (.int .i64 t) ∧ w.Ext w' := by
  subst ht
  obtain rfl | rfl | rfl | rfl : c = 0 ∨ c = 1 ∨ c = 2 ∨ c = 3 := by omega
  · go_enter Try.func50, Try.ntmps50
    go_wp2
    go_ret
    refine ⟨ret_int (by simp [iz, sideZ]), ?_⟩
    repeat (first | exact World.Ext.refl _ | exact ⟨_, rfl⟩ | assumption | refine World.Ext.over ?_ _ | refine World.Ext.drewN ?_ _ | refine World.Ext.drew ?_ | refine World.Ext.alloc ?_ _ | refine World.Ext.setCell ?_ (by simp) _)
  · go_enter Try.func50, Try.ntmps50
    go_wp2
    all_goals
      go_ret
      refine ⟨ret_int (by simp_all [iz, sideZ]), ?_⟩
      repeat (first | exact World.Ext.refl _ | exact ⟨_, rfl⟩ | assumption | refine World.Ext.over ?_ _ | refine World.Ext.drewN ?_ _ | refine World.Ext.drew ?_ | refine World.Ext.alloc ?_ _ | refine World.Ext.setCell ?_ (by simp) _)
  · exact indexOf_bits3 x y h0 h1 h2 h3 w
  · go_enter Try.func50, Try.ntmps50
    go_wp2_with (go_at_call 94; refine (turnsIndex_any 3 _ _ _ _ rfl (by omega) h0 (by simpa using h1) h2 (by simpa using h3)).mono ?_; rintro e w' ⟨rfl, x1, rfl⟩)
    go_ret
    refine ⟨ret_int (by simp [iz]), ?_⟩
    repeat (first | exact World.Ext.refl _ | exact ⟨_, rfl⟩ | assumption | refine World.Ext.over ?_ _ | refine World.Ext.drewN ?_ _ | refine World.Ext.drew ?_ | refine World.Ext.alloc ?_ _ | refine World.Ext.setCell ?_ (by simp) _)
set_option maxHeartbeats 800000 in
theorem l08Index_at4 (c x y : Int) (hc0 : 0 ≤ c) (hc3 : c ≤ 3) (h0 : 0 ≤ x) (h1 : x < 16) (h2 : 0 ≤ y) (h3 : y < 16) (w : World) (t : Int) (ht : iz c 4 x y = t) :
    Calls Try.prog 48 #[.int .i64 c, .int .i64 4, .int .i64 x, .int .i64 y] w fun e w' => e = .returned (.int .i64 t) ∧ w.Ext w' := by
  subst ht
  obtain rfl | rfl | rfl | rfl : c = 0 ∨ c = 1 ∨ c = 2 ∨ c = 3 := by omega
  · go_enter Try.func48, Try.ntmps48
    go_wp2_with (go_at_call 47; refine (side_any _ (by omega) (by omega) _).mono ?_; rintro e w' ⟨rfl, x1, rfl⟩; simp only [sideZ])
    go_ret
    refine ⟨ret_int (by simp [iz, sideZ]), ?_⟩
    repeat (first | exact World.Ext.refl _ | exact ⟨_, rfl⟩ | assumption | refine World.Ext.over ?_ _ | refine World.Ext.drewN ?_ _ | refine World.Ext.drew ?_ | refine World.Ext.alloc ?_ _ | refine World.Ext.setCell ?_ (by simp) _)
  · go_enter Try.func48, Try.ntmps48
    go_wp2_with (go_at_call 47; refine (side_any _ (by omega) (by omega) _).mono ?_; rintro e w' ⟨rfl, x1, rfl⟩; simp only [sideZ])
    all_goals
      go_ret
      refine ⟨ret_int (by simp_all [iz, sideZ]), ?_⟩
      repeat (first | exact World.Ext.refl _ | exact ⟨_, rfl⟩ | assumption | refine World.Ext.over ?_ _ | refine World.Ext.drewN ?_ _ | refine World.Ext.drew ?_ | refine World.Ext.alloc ?_ _ | refine World.Ext.setCell ?_ (by simp) _)
  · exact l08Index_bits4 x y h0 h1 h2 h3 w
  · go_enter Try.func48, Try.ntmps48
    go_wp2_with (first | (go_at_call 47; refine (side_any _ (by omega) (by omega) _).mono ?_; rintro e w' ⟨rfl, x1, rfl⟩; simp only [sideZ]) | (go_at_call 93; refine (l08Turns_any 4 _ _ _ _ rfl (by omega) h0 (by simpa using h1) h2 (by simpa using h3)).mono ?_; rintro e w' ⟨rfl, x1, rfl⟩))
    go_ret
    refine ⟨ret_int (by simp [iz]), ?_⟩
    repeat (first | exact World.Ext.refl _ | exact ⟨_, rfl⟩ | assumption | refine World.Ext.over ?_ _ | refine World.Ext.drewN ?_ _ | refine World.Ext.drew ?_ | refine World.Ext.alloc ?_ _ | refine World.Ext.setCell ?_ (by simp) _)
set_option maxHeartbeats 800000 in
theorem indexOf_at4 (c x y : Int) (hc0 : 0 ≤ c) (hc3 : c ≤ 3) (h0 : 0 ≤ x) (h1 : x < 16) (h2 : 0 ≤ y) (h3 : y < 16) (w : World) (t : Int) (ht : iz c 4 x y = t) :
    Calls Try.prog 50 #[.int .i64 c, .int .i64 4, .agg #[.int .i64 x, .int .i64 y]] w fun e w' => e = .returned (.int .i64 t) ∧ w.Ext w' := by
  subst ht
  obtain rfl | rfl | rfl | rfl : c = 0 ∨ c = 1 ∨ c = 2 ∨ c = 3 := by omega
  · go_enter Try.func50, Try.ntmps50
    go_wp2
    go_ret
    refine ⟨ret_int (by simp [iz, sideZ]), ?_⟩
    repeat (first | exact World.Ext.refl _ | exact ⟨_, rfl⟩ | assumption | refine World.Ext.over ?_ _ | refine World.Ext.drewN ?_ _ | refine World.Ext.drew ?_ | refine World.Ext.alloc ?_ _ | refine World.Ext.setCell ?_ (by simp) _)
  · go_enter Try.func50, Try.ntmps50
    go_wp2
    all_goals
      go_ret
      refine ⟨ret_int (by simp_all [iz, sideZ]), ?_⟩
      repeat (first | exact World.Ext.refl _ | exact ⟨_, rfl⟩ | assumption | refine World.Ext.over ?_ _ | refine World.Ext.drewN ?_ _ | refine World.Ext.drew ?_ | refine World.Ext.alloc ?_ _ | refine World.Ext.setCell ?_ (by simp) _)
  · exact indexOf_bits4 x y h0 h1 h2 h3 w
  · go_enter Try.func50, Try.ntmps50
    go_wp2_with (go_at_call 94; refine (turnsIndex_any 4 _ _ _ _ rfl (by omega) h0 (by simpa using h1) h2 (by simpa using h3)).mono ?_; rintro e w' ⟨rfl, x1, rfl⟩)
    go_ret
    refine ⟨ret_int (by simp [iz]), ?_⟩
    repeat (first | exact World.Ext.refl _ | exact ⟨_, rfl⟩ | assumption | refine World.Ext.over ?_ _ | refine World.Ext.drewN ?_ _ | refine World.Ext.drew ?_ | refine World.Ext.alloc ?_ _ | refine World.Ext.setCell ?_ (by simp) _)
def askB (c k : Int) : Bool := inB c 0 3 && inB k 0 4
set_option maxHeartbeats 400000 in
theorem l08Ask_any (c k : Int) (w : World) (t : Bool) (ht : askB c k = t) :
    Calls Try.prog 45 #[.int .i64 c, .int .i64 k] w fun e w' => e = .returned (.bool t) ∧ w.Ext w' := by
  subst ht
  go_enter Try.func45, Try.ntmps45
  go_wp2_with (go_at_call 46; refine (l00In_any _ _ _ _ _ rfl).mono ?_; rintro e w' ⟨rfl, x1, rfl⟩)
  all_goals
    go_ret
    refine ⟨by simp [askB, *], ?_⟩
    repeat (first | exact World.Ext.refl _ | exact ⟨_, rfl⟩ | assumption | refine World.Ext.over ?_ _ | refine World.Ext.drewN ?_ _ | refine World.Ext.drew ?_ | refine World.Ext.alloc ?_ _ | refine World.Ext.setCell ?_ (by simp) _)
set_option maxHeartbeats 400000 in
theorem curveOk_any (c k : Int) (w : World) (t : Bool) (ht : askB c k = t) :
    Calls Try.prog 49 #[.int .i64 c, .int .i64 k] w fun e w' => e = .returned (.bool t) ∧ w.Ext w' := by
  subst ht
  go_enter Try.func49, Try.ntmps49
  go_wp2_with (go_at_call 43; refine (in_any _ _ _ _ _ rfl).mono ?_; rintro e w' ⟨rfl, x1, rfl⟩)
  all_goals
    go_ret
    refine ⟨by simp [askB, *], ?_⟩
    repeat (first | exact World.Ext.refl _ | exact ⟨_, rfl⟩ | assumption | refine World.Ext.over ?_ _ | refine World.Ext.drewN ?_ _ | refine World.Ext.drew ?_ | refine World.Ext.alloc ?_ _ | refine World.Ext.setCell ?_ (by simp) _)
/-- What both return. -/
def indexV (c k x y : Int) : Value :=
  if askB c k && onB k x y then .tuple #[.int .i64 (iz c k.toNat x y), .bool true] else .tuple #[.int .i64 0, .bool false]
end Go.Proofs.Ytfjjplllcilnaaa
