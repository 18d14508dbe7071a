/- The curve by bits, and the index, of the reference. -/
import Derived.Test.YtfjjplllcilnaaaTurnsImpl
import Derived.Deep.Light
namespace Go.Proofs.Ytfjjplllcilnaaa
open Go.RowKit
def bz : Nat → Int → Int → Int
  | 0, _, _ => 0
  | k + 1, x, y => x % 2 + 2 * (y % 2) + 4 * bz k (x / 2) (y / 2)
def iz (c : Int) (k : Nat) (x y : Int) : Int :=
  if c = 0 then y * sideZ k + x
  else if c = 1 then (if y % 2 = 1 then y * sideZ k + sideZ k - 1 - x else y * sideZ k + x)
  else if c = 2 then bz k x y
  else tz k x y
theorem fin_of (S : Nat) (x : Int) (h0 : 0 ≤ x) (h1 : x < S) : ∃ a : Fin S, x = ((a : Nat) : Int) := ⟨⟨x.toNat, by omega⟩, by simp; omega⟩
set_option maxHeartbeats 400000 in
theorem l08Index_bits0 (x y : Int) (h0 : 0 ≤ x) (h1 : x < 1) (h2 : 0 ≤ y) (h3 : y < 1) (w : World) :
    Calls Try.prog 48 #[.int .i64 2, .int .i64 0, .int .i64 x, .int .i64 y] w fun e w' => e = .returned (.int .i64 (bz 0 x y)) ∧ w.Ext w' := by
  go_enter Try.func48, Try.ntmps48
  go_wp2_with (go_at_call 47; refine (side_any _ (by omega) (by omega) _).mono ?_; rintro e w' ⟨rfl, x1, rfl⟩)
  refine wp_loop_rounds 1 ?_
  repeat (rw [rounds_succ]; go_wp2)
  go_ret
  refine ⟨ret_int ?_, ?_⟩
  · obtain ⟨a, rfl⟩ := fin_of 1 x h0 h1
    obtain ⟨b, rfl⟩ := fin_of 1 y h2 h3
    go_light
    clear h0 h1 h2 h3
    revert a b
    decide +kernel
  repeat (first | exact World.Ext.refl _ | exact ⟨_, rfl⟩ | assumption | refine World.Ext.over ?_ _ | refine World.Ext.drewN ?_ _ | refine World.Ext.drew ?_ | refine World.Ext.alloc ?_ _ | refine World.Ext.setCell ?_ (by simp) _)
set_option maxHeartbeats 400000 in
theorem l08Index_bits1 (x y : Int) (h0 : 0 ≤ x) (h1 : x < 2) (h2 : 0 ≤ y) (h3 : y < 2) (w : World) :
    Calls Try.prog 48 #[.int .i64 2, .int .i64 1, .int .i64 x, .int .i64 y] w fun e w' => e = .returned (.int .i64 (bz 1 x y)) ∧ w.Ext w' := by
  go_enter Try.func48, Try.ntmps48
  go_wp2_with (go_at_call 47; refine (side_any _ (by omega) (by omega) _).mono ?_; rintro e w' ⟨rfl, x1, rfl⟩)
  refine wp_loop_rounds 2 ?_
  repeat (rw [rounds_succ]; go_wp2)
  go_ret
  refine ⟨ret_int ?_, ?_⟩
  · obtain ⟨a, rfl⟩ := fin_of 2 x h0 h1
    obtain ⟨b, rfl⟩ := fin_of 2 y h2 h3
    go_light
    clear h0 h1 h2 h3
    revert a b
    decide +kernel
  repeat (first | exact World.Ext.refl _ | exact ⟨_, rfl⟩ | assumption | refine World.Ext.over ?_ _ | refine World.Ext.drewN ?_ _ | refine World.Ext.drew ?_ | refine World.Ext.alloc ?_ _ | refine World.Ext.setCell ?_ (by simp) _)
set_option maxHeartbeats 400000 in
theorem l08Index_bits2 (x y : Int) (h0 : 0 ≤ x) (h1 : x < 4) (h2 : 0 ≤ y) (h3 : y < 4) (w : World) :
    Calls Try.prog 48 #[.int .i64 2, .int .i64 2, .int .i64 x, .int .i64 y] w fun e w' => e = .returned (.int .i64 (bz 2 x y)) ∧ w.Ext w' := by
  go_enter Try.func48, Try.ntmps48
  go_wp2_with (go_at_call 47; refine (side_any _ (by omega) (by omega) _).mono ?_; rintro e w' ⟨rfl, x1, rfl⟩)
  refine wp_loop_rounds 3 ?_
  repeat (rw [rounds_succ]; go_wp2)
  go_ret
  refine ⟨ret_int ?_, ?_⟩
  · obtain ⟨a, rfl⟩ := fin_of 4 x h0 h1
    obtain ⟨b, rfl⟩ := fin_of 4 y h2 h3
    go_light
    clear h0 h1 h2 h3
    revert a b
    decide +kernel
  repeat (first | exact World.Ext.refl _ | exact ⟨_, rfl⟩ | assumption | refine World.Ext.over ?_ _ | refine World.Ext.drewN ?_ _ | refine World.Ext.drew ?_ | refine World.Ext.alloc ?_ _ | refine World.Ext.setCell ?_ (by simp) _)
set_option maxHeartbeats 400000 in
theorem l08Index_bits3 (x y : Int) (h0 : 0 ≤ x) (h1 : x < 8) (h2 : 0 ≤ y) (h3 : y < 8) (w : World) :
    Calls Try.prog 48 #[.int .i64 2, .int .i64 3, .int .i64 x, .int .i64 y] w fun e w' => e = .returned (.int .i64 (bz 3 x y)) ∧ w.Ext w' := by
  go_enter Try.func48, Try.ntmps48
  go_wp2_with (go_at_call 47; refine (side_any _ (by omega) (by omega) _).mono ?_; rintro e w' ⟨rfl, x1, rfl⟩)
  refine wp_loop_rounds 4 ?_
  repeat (rw [rounds_succ]; go_wp2)
  go_ret
  refine ⟨ret_int ?_, ?_⟩
  · obtain ⟨a, rfl⟩ := fin_of 8 x h0 h1
    obtain ⟨b, rfl⟩ := fin_of 8 y h2 h3
    go_light
    clear h0 h1 h2 h3
    revert a b
    decide +kernel
  repeat (first | exact World.Ext.refl _ | exact ⟨_, rfl⟩ | assumption | refine World.Ext.over ?_ _ | refine World.Ext.drewN ?_ _ | refine World.Ext.drew ?_ | refine World.Ext.alloc ?_ _ | refine World.Ext.setCell ?_ (by simp) _)
set_option maxHeartbeats 800000 in
theorem l08Index_bits4 (x y : Int) (h0 : 0 ≤ x) (h1 : x < 16) (h2 : 0 ≤ y) (h3 : y < 16) (w : World) :
    Calls Try.prog 48 #[.int .i64 2, .int .i64 4, .int .i64 x, .int .i64 y] w fun e w' => e = .returned (.int .i64 (bz 4 x y)) ∧ w.Ext w' := by
  go_enter Try.func48, Try.ntmps48
  go_wp2_with (go_at_call 47; refine (side_any _ (by omega) (by omega) _).mono ?_; rintro e w' ⟨rfl, x1, rfl⟩)
  refine wp_loop_rounds 5 ?_
  repeat (rw [rounds_succ]; go_wp2)
  go_ret
  refine ⟨ret_int ?_, ?_⟩
  · obtain ⟨a, rfl⟩ := fin_of 16 x h0 h1
    obtain ⟨b, rfl⟩ := fin_of 16 y h2 h3
    go_light
    clear h0 h1 h2 h3
    revert a b
    decide +kernel
  repeat (first | exact World.Ext.refl _ | exact ⟨_, rfl⟩ | assumption | refine World.Ext.over ?_ _ | refine World.Ext.drewN ?_ _ | refine World.Ext.drew ?_ | refine World.Ext.alloc ?_ _ | refine World.Ext.setCell ?_ (by simp) _)
end Go.Proofs.Ytfjjplllcilnaaa
