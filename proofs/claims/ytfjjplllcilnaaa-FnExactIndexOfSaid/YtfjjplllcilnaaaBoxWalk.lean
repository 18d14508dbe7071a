/- The walks of IsCurveBox, of the program and of the reference. -/
import Derived.Test.YtfjjplllcilnaaaProg
import Derived.Test.YtfjjplllcilnaaaOver
import Derived.WalkLawsBesides
import Derived.WalkSpells
import Derived.Lib.Hide
import Derived.Handy
namespace Go.Proofs.Ytfjjplllcilnaaa
open Go.RowKit
def inB (n lo hi : Int) : Bool := decide (lo ≤ n) && decide (n ≤ hi)
set_option maxHeartbeats 400000 in
theorem in_any (n lo hi : Int) (w : World) (t : Bool) (ht : inB n lo hi = t) :
    Calls Try.prog 43 #[.int .i64 n, .int .i64 lo, .int .i64 hi] w fun e w' => e = .returned (.bool t) ∧ w.Ext w' := by
  subst ht
  by_cases h1 : lo ≤ n <;> by_cases h2 : n ≤ hi
  all_goals
    go_enter Try.func43, Try.ntmps43
    go_wp2
    go_ret
    exact ⟨by simp [inB, h1, h2], .refl _⟩
set_option maxHeartbeats 400000 in
theorem l00In_any (n lo hi : Int) (w : World) (t : Bool) (ht : inB n lo hi = t) :
    Calls Try.prog 46 #[.int .i64 n, .int .i64 lo, .int .i64 hi] w fun e w' => e = .returned (.bool t) ∧ w.Ext w' := by
  subst ht
  by_cases h1 : lo ≤ n <;> by_cases h2 : n ≤ hi
  all_goals
    go_enter Try.func46, Try.ntmps46
    go_wp2
    go_ret
    exact ⟨by simp [inB, h1, h2], .refl _⟩
def spotV (x y : Int) : Value := .agg #[.int .i64 x, .int .i64 y]
set_option maxHeartbeats 400000 in
theorem toSpot_any (x y : Int) (w : World) :
    Calls Try.prog 11 #[.agg #[.int .i64 x, .int .i64 y]] w fun e w' => e = .returned (.agg #[.int .i64 x, .int .i64 y]) ∧ w.Ext w' := by
  go_enter Try.func11, Try.ntmps11
  go_wp2
  refine bodyPost_ret (v := .agg #[.int .i64 x, .int .i64 y]) (by simp [results, Try.results11, go_sem]) rfl ⟨rfl, ?_⟩
  repeat (first | exact World.Ext.refl _ | exact ⟨_, rfl⟩ | assumption | refine World.Ext.over ?_ _ | refine World.Ext.drewN ?_ _ | refine World.Ext.drew ?_ | refine World.Ext.alloc ?_ _ | refine World.Ext.setCell ?_ (by simp) _)
theorem shl1 (k : Int) (h0 : 0 ≤ k) (h4 : k ≤ 4) : k = 0 ∨ k = 1 ∨ k = 2 ∨ k = 3 ∨ k = 4 := by omega
def sideZ (k : Int) : Int := if k = 0 then 1 else if k = 1 then 2 else if k = 2 then 4 else if k = 3 then 8 else 16
set_option maxHeartbeats 400000 in
theorem side_any (k : Int) (h0 : 0 ≤ k) (h4 : k ≤ 4) (w : World) :
    Calls Try.prog 47 #[.int .i64 k] w fun e w' => e = .returned (.int .i64 (sideZ k)) ∧ w.Ext w' := by
  rcases shl1 k h0 h4 with rfl | rfl | rfl | rfl | rfl
  all_goals
    go_enter Try.func47, Try.ntmps47
    go_wp2
    go_ret
    exact ⟨rfl, .refl _⟩
theorem sideZ_bd (k : Int) : 1 ≤ sideZ k ∧ sideZ k ≤ 16 := by
  unfold sideZ; repeat (split <;> try omega)
def onB (k x y : Int) : Bool := inB x 0 (sideZ k - 1) && inB y 0 (sideZ k - 1)
set_option maxHeartbeats 400000 in
theorem onCurve_any (k x y : Int) (h0 : 0 ≤ k) (h4 : k ≤ 4) (w : World) (t : Bool) (ht : onB k x y = t) :
    Calls Try.prog 44 #[.int .i64 k, .agg #[.int .i64 x, .int .i64 y]] w fun e w' => e = .returned (.bool t) ∧ w.Ext w' := by
  subst ht
  rcases shl1 k h0 h4 with rfl | rfl | rfl | rfl | rfl
  all_goals
    go_enter Try.func44, Try.ntmps44
    go_wp2_with (go_at_call 43; refine (in_any _ _ _ _ _ rfl).mono ?_; rintro e w' ⟨rfl, x1, rfl⟩)
    all_goals
      go_ret
      refine ⟨by simp [onB, sideZ, *], ?_⟩
      repeat (first | exact World.Ext.refl _ | exact ⟨_, rfl⟩ | assumption | refine World.Ext.over ?_ _ | refine World.Ext.drewN ?_ _ | refine World.Ext.drew ?_ | refine World.Ext.alloc ?_ _ | refine World.Ext.setCell ?_ (by simp) _)
def boxB (k x y u v : Int) : Bool := inB k 0 4 && (onB k x y && (onB k u v && (decide (x ≤ u) && decide (y ≤ v))))
set_option maxHeartbeats 400000 in
theorem isCurveBox_any (k x y u v : Int) (w : World) :
    Calls Try.prog 12 #[.int .i64 k, .agg #[.int .i64 x, .int .i64 y], .agg #[.int .i64 u, .int .i64 v]] w fun e w' => e = .returned (.bool (boxB k x y u v)) ∧ w.Ext w' := by
  cases hk : inB k 0 4
  · go_enter Try.func12, Try.ntmps12
    go_wp2_with (go_at_call 43; refine (in_any _ _ _ _ _ rfl).mono ?_; rintro e w' ⟨rfl, x1, rfl⟩)
    go_ret
    refine ⟨by simp [boxB, hk], ?_⟩
    repeat (first | exact World.Ext.refl _ | exact ⟨_, rfl⟩ | assumption | refine World.Ext.over ?_ _ | refine World.Ext.drewN ?_ _ | refine World.Ext.drew ?_ | refine World.Ext.alloc ?_ _ | refine World.Ext.setCell ?_ (by simp) _)
  · have hk2 := hk
    simp [inB] at hk2
    have h0 := hk2.1
    have h4 := hk2.2
    clear hk2
    go_enter Try.func12, Try.ntmps12
    go_wp2_with (first | (go_at_call 43; refine (in_any _ _ _ _ _ rfl).mono ?_; rintro e w' ⟨rfl, x1, rfl⟩) | (go_at_call 44; refine (onCurve_any _ _ _ h0 h4 _ _ rfl).mono ?_; rintro e w' ⟨rfl, x1, rfl⟩))
    all_goals
      go_ret
      refine ⟨by simp [boxB, *] <;> omega, ?_⟩
      repeat (first | exact World.Ext.refl _ | exact ⟨_, rfl⟩ | assumption | refine World.Ext.over ?_ _ | refine World.Ext.drewN ?_ _ | refine World.Ext.drew ?_ | refine World.Ext.alloc ?_ _ | refine World.Ext.setCell ?_ (by simp) _)
def lboxB (k x y u v : Int) : Bool := inB k 0 4 && (inB x 0 (sideZ k - 1) && (inB y 0 (sideZ k - 1) && (inB u x (sideZ k - 1) && inB v y (sideZ k - 1))))
set_option maxHeartbeats 400000 in
theorem l08Box_any (k x y u v : Int) (w : World) :
    Calls Try.prog 42 #[.int .i64 k, .agg #[.int .i64 x, .int .i64 y], .agg #[.int .i64 u, .int .i64 v]] w fun e w' => e = .returned (.bool (lboxB k x y u v)) ∧ w.Ext w' := by
  cases hk : inB k 0 4
  · go_enter Try.func42, Try.ntmps42
    go_wp2_with (go_at_call 46; refine (l00In_any _ _ _ _ _ rfl).mono ?_; rintro e w' ⟨rfl, x1, rfl⟩)
    go_ret
    refine ⟨by simp [lboxB, hk], ?_⟩
    repeat (first | exact World.Ext.refl _ | exact ⟨_, rfl⟩ | assumption | refine World.Ext.over ?_ _ | refine World.Ext.drewN ?_ _ | refine World.Ext.drew ?_ | refine World.Ext.alloc ?_ _ | refine World.Ext.setCell ?_ (by simp) _)
  · have hk2 := hk
    simp [inB] at hk2
    have h0 := hk2.1
    have h4 := hk2.2
    clear hk2
    have hsd := sideZ_bd k
    go_enter Try.func42, Try.ntmps42
    go_wp2_with (first | (go_at_call 46; refine (l00In_any _ _ _ _ _ rfl).mono ?_; rintro e w' ⟨rfl, x1, rfl⟩) | (go_at_call 47; refine (side_any _ h0 h4 _).mono ?_; rintro e w' ⟨rfl, x1, rfl⟩))
    all_goals
      go_ret
      refine ⟨by simp [lboxB, *], ?_⟩
      repeat (first | exact World.Ext.refl _ | exact ⟨_, rfl⟩ | assumption | refine World.Ext.over ?_ _ | refine World.Ext.drewN ?_ _ | refine World.Ext.drew ?_ | refine World.Ext.alloc ?_ _ | refine World.Ext.setCell ?_ (by simp) _)
set_option maxHeartbeats 400000 in
theorem specIsCurveBox_any (k x y u v : Int) (w : World) (t : Bool) (ht : lboxB k x y u v = t) :
    Calls Try.prog 10 #[.int .i64 k, .agg #[.int .i64 x, .int .i64 y], .agg #[.int .i64 u, .int .i64 v]] w fun e w' => e = .returned (.bool t) ∧ w.Ext w' := by
  subst ht
  go_enter Try.func10, Try.ntmps10
  go_wp2_with (go_at_call 42; refine (l08Box_any _ _ _ _ _ _).mono ?_; rintro e w' ⟨rfl, x1, rfl⟩)
  go_ret
  refine ⟨rfl, ?_⟩
  repeat (first | exact World.Ext.refl _ | exact ⟨_, rfl⟩ | assumption | refine World.Ext.over ?_ _ | refine World.Ext.drewN ?_ _ | refine World.Ext.drew ?_ | refine World.Ext.alloc ?_ _ | refine World.Ext.setCell ?_ (by simp) _)
theorem box_same (k x y u v : Int) : boxB k x y u v = lboxB k x y u v := by
  rw [Bool.eq_iff_iff]
  simp [boxB, lboxB, onB, inB]
  omega
set_option maxHeartbeats 400000 in
theorem walk (k x y u v : Int) (w : World) :
    Calls Try.prog 3 #[.int .i64 k, .agg #[.int .i64 x, .int .i64 y], .agg #[.int .i64 u, .int .i64 v]] w fun e w' => e = .returned (.bool true) ∧ w.Ext w' := by
  go_enter Try.func3, Try.ntmps3
  go_wp2
  refine wp_region_over_lit (by kernel_rfl) (by kernel_rfl) ?_
  repeat (go_big_quiet_step (first | (go_at_call 11; exact Calls.over_of (toSpot_any _ _ _)) | (go_at_call 10; exact Calls.over_of (specIsCurveBox_any k x y u v _ _ rfl))))
  refine wpQuiet_nil ?_
  rintro _ ⟨x1, rfl⟩
  go_wp2
  refine wp_region_over_lit (by kernel_rfl) (by kernel_rfl) ?_
  repeat (go_big_quiet_step (first | (go_at_call 11; exact Calls.over_of (toSpot_any _ _ _)) | (go_at_call 12; exact Calls.over_of (isCurveBox_any k x y u v _))))
  refine wpQuiet_nil ?_
  rintro _ ⟨x2, rfl⟩
  go_wp2
  all_goals
    go_ret
    refine ⟨by simp [box_same] at *, ?_⟩
    repeat (first | exact World.Ext.refl _ | exact ⟨_, rfl⟩ | assumption | refine World.Ext.over ?_ _ | refine World.Ext.drewN ?_ _ | refine World.Ext.drew ?_ | refine World.Ext.alloc ?_ _ | refine World.Ext.setCell ?_ (by simp) _)
end Go.Proofs.Ytfjjplllcilnaaa
