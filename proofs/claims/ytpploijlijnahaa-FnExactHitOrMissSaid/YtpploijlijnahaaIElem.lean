/- The program's elements. -/
import Derived.Test.YtpploijlijnahaaSElem
import Derived.Test.YtpploijlijnahaaIBase
namespace Go.Proofs.Ytpploijlijnahaa
open Go.RowKit
def cmpI (x y : Int) : Int := if x < y then -1 else if y < x then 1 else 0
set_option maxHeartbeats 400000 in
theorem isNaN_any (x : Int) (w : World) : Calls Try.prog 189 #[.int .i64 x] w fun e w' => e = .returned (.bool false) ∧ w.Ext w' := by
  go_enter Try.func189, Try.ntmps189
  go_wp2
  go_ret
  exact ⟨by simp, .refl _⟩
set_option maxHeartbeats 800000 in
theorem compare_any (x y : Int) (w : World) (t : Int) (ht : cmpI x y = t) : Calls Try.prog 173 #[.int .i64 x, .int .i64 y] w fun e w' => e = .returned (.int .i64 t) ∧ w.Ext w' := by
  subst ht
  unfold cmpI
  by_cases h1 : x < y
  · rw [if_pos h1]
    go_enter Try.func173, Try.ntmps173
    go_wp2_with (go_at_call 189; refine (isNaN_any _ _).mono ?_; rintro e w' ⟨rfl, x1, rfl⟩)
    go_ret
    refine ⟨rfl, ?_⟩
    repeat (first | exact World.Ext.refl _ | exact ⟨_, rfl⟩ | assumption | refine World.Ext.over ?_ _ | refine World.Ext.drewN ?_ _ | refine World.Ext.drew ?_ | refine World.Ext.alloc ?_ _ | refine World.Ext.setCell ?_ (by simp) _)
  · rw [if_neg h1]
    by_cases h2 : y < x
    · rw [if_pos h2]
      go_enter Try.func173, Try.ntmps173
      go_wp2_with (go_at_call 189; refine (isNaN_any _ _).mono ?_; rintro e w' ⟨rfl, x1, rfl⟩)
      go_ret
      refine ⟨rfl, ?_⟩
      repeat (first | exact World.Ext.refl _ | exact ⟨_, rfl⟩ | assumption | refine World.Ext.over ?_ _ | refine World.Ext.drewN ?_ _ | refine World.Ext.drew ?_ | refine World.Ext.alloc ?_ _ | refine World.Ext.setCell ?_ (by simp) _)
    · rw [if_neg h2]
      go_enter Try.func173, Try.ntmps173
      go_wp2_with (go_at_call 189; refine (isNaN_any _ _).mono ?_; rintro e w' ⟨rfl, x1, rfl⟩)
      go_ret
      refine ⟨rfl, ?_⟩
      repeat (first | exact World.Ext.refl _ | exact ⟨_, rfl⟩ | assumption | refine World.Ext.over ?_ _ | refine World.Ext.drewN ?_ _ | refine World.Ext.drew ?_ | refine World.Ext.alloc ?_ _ | refine World.Ext.setCell ?_ (by simp) _)
end Go.Proofs.Ytpploijlijnahaa
