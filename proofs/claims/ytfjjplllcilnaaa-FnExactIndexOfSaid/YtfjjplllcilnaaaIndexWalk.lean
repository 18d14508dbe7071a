/- IndexOf, of the reference and of the program, and the walk of the law. -/
import Derived.Test.YtfjjplllcilnaaaIndexAt
namespace Go.Proofs.Ytfjjplllcilnaaa
open Go.RowKit
set_option maxHeartbeats 400000 in
theorem specIndexOf_no (c k x y : Int) (h : (askB c k && onB k x y) = false) (w : World) :
    Calls Try.prog 13 #[.int .i64 c, .int .i64 k, .int .i64 x, .int .i64 y] w fun e w' => e = .returned (.tuple #[.int .i64 0, .bool false]) ∧ w.Ext w' := by
  cases ha : askB c k
  · go_enter Try.func13, Try.ntmps13
    go_wp2_with (go_at_call 45; refine (l08Ask_any _ _ _ _ ha).mono ?_; rintro e w' ⟨rfl, x1, rfl⟩)
    go_ret2
    refine ⟨rfl, ?_⟩
    repeat (first | exact World.Ext.refl _ | exact ⟨_, rfl⟩ | assumption | refine World.Ext.over ?_ _ | refine World.Ext.drewN ?_ _ | refine World.Ext.drew ?_ | refine World.Ext.alloc ?_ _ | refine World.Ext.setCell ?_ (by simp) _)
  · rw [ha, Bool.true_and] at h
    have HO := Lib.hid h
    clear h
    have ha2 := ha
    simp only [askB, inB, Bool.and_eq_true, decide_eq_true_eq] at ha2
    obtain ⟨_, h0, h4⟩ := ha2
    have hsd := sideZ_bd k
    go_enter Try.func13, Try.ntmps13
    go_wp2_with (first | (go_at_call 45; refine (l08Ask_any _ _ _ _ ha).mono ?_; rintro e w' ⟨rfl, x1, rfl⟩) | (go_at_call 47; refine (side_any _ h0 h4 _).mono ?_; rintro e w' ⟨rfl, x1, rfl⟩) | (go_at_call 46; refine (l00In_any _ _ _ _ _ rfl).mono ?_; rintro e w' ⟨rfl, x1, rfl⟩))
    all_goals first
      | (exfalso; have := HO.out; simp_all [onB]; done)
      | (go_ret2; refine ⟨rfl, ?_⟩; repeat (first | exact World.Ext.refl _ | exact ⟨_, rfl⟩ | assumption | refine World.Ext.over ?_ _ | refine World.Ext.drewN ?_ _ | refine World.Ext.drew ?_ | refine World.Ext.alloc ?_ _ | refine World.Ext.setCell ?_ (by simp) _))
set_option maxHeartbeats 800000 in
theorem specIndexOf_yes (c k x y : Int) (h : (askB c k && onB k x y) = true) (w : World) :
    Calls Try.prog 13 #[.int .i64 c, .int .i64 k, .int .i64 x, .int .i64 y] w fun e w' => e = .returned (.tuple #[.int .i64 (iz c k.toNat x y), .bool true]) ∧ w.Ext w' := by
  have h' := h
  simp only [askB, onB, inB, Bool.and_eq_true, decide_eq_true_eq] at h'
  obtain ⟨⟨⟨hc0, hc3⟩, h0, h4⟩, ⟨hx0, hx1⟩, hy0, hy1⟩ := h'
  rw [Bool.and_eq_true] at h
  obtain ⟨ha, ho⟩ := h
  unfold onB at ho
  rw [Bool.and_eq_true] at ho
  obtain ⟨ho1, ho2⟩ := ho
  have HA := Lib.hid ha
  clear ha
  rcases shl1 k h0 h4 with rfl | rfl | rfl | rfl | rfl
  · simp only [sideZ] at ho1 ho2 hx1 hy1
    go_enter Try.func13, Try.ntmps13
    go_wp2_with (first | (go_at_call 45; refine (l08Ask_any _ _ _ _ HA.out).mono ?_; rintro e w' ⟨rfl, x1, rfl⟩) | (go_at_call 47; refine (side_any _ (by omega) (by omega) _).mono ?_; rintro e w' ⟨rfl, x1, rfl⟩; simp only [sideZ]) | (go_at_call 46; refine (l00In_any _ _ _ _ _ rfl).mono ?_; rintro e w' ⟨rfl, x1, rfl⟩) | (go_at_call 48; refine (l08Index_at0 _ _ _ hc0 hc3 hx0 (by simp at hx1; omega) hy0 (by simp at hy1; omega) _ _ rfl).mono ?_; rintro e w' ⟨rfl, x1, rfl⟩))
    all_goals first
      | (exfalso; simp_all [inB] <;> omega)
      | (go_ret2; refine ⟨rfl, ?_⟩; repeat (first | exact World.Ext.refl _ | exact ⟨_, rfl⟩ | assumption | refine World.Ext.over ?_ _ | refine World.Ext.drewN ?_ _ | refine World.Ext.drew ?_ | refine World.Ext.alloc ?_ _ | refine World.Ext.setCell ?_ (by simp) _))
  · simp only [sideZ] at ho1 ho2 hx1 hy1
    go_enter Try.func13, Try.ntmps13
    go_wp2_with (first | (go_at_call 45; refine (l08Ask_any _ _ _ _ HA.out).mono ?_; rintro e w' ⟨rfl, x1, rfl⟩) | (go_at_call 47; refine (side_any _ (by omega) (by omega) _).mono ?_; rintro e w' ⟨rfl, x1, rfl⟩; simp only [sideZ]) | (go_at_call 46; refine (l00In_any _ _ _ _ _ rfl).mono ?_; rintro e w' ⟨rfl, x1, rfl⟩) | (go_at_call 48; refine (l08Index_at1 _ _ _ hc0 hc3 hx0 (by simp at hx1; omega) hy0 (by simp at hy1; omega) _ _ rfl).mono ?_; rintro e w' ⟨rfl, x1, rfl⟩))
    all_goals first
      | (exfalso; simp_all [inB] <;> omega)
      | (go_ret2; refine ⟨rfl, ?_⟩; repeat (first | exact World.Ext.refl _ | exact ⟨_, rfl⟩ | assumption | refine World.Ext.over ?_ _ | refine World.Ext.drewN ?_ _ | refine World.Ext.drew ?_ | refine World.Ext.alloc ?_ _ | refine World.Ext.setCell ?_ (by simp) _))
  · simp only [sideZ] at ho1 ho2 hx1 hy1
    go_enter Try.func13, Try.ntmps13
    go_wp2_with (first | (go_at_call 45; refine (l08Ask_any _ _ _ _ HA.out).mono ?_; rintro e w' ⟨rfl, x1, rfl⟩) | (go_at_call 47; refine (side_any _ (by omega) (by omega) _).mono ?_; rintro e w' ⟨rfl, x1, rfl⟩; simp only [sideZ]) | (go_at_call 46; refine (l00In_any _ _ _ _ _ rfl).mono ?_; rintro e w' ⟨rfl, x1, rfl⟩) | (go_at_call 48; refine (l08Index_at2 _ _ _ hc0 hc3 hx0 (by simp at hx1; omega) hy0 (by simp at hy1; omega) _ _ rfl).mono ?_; rintro e w' ⟨rfl, x1, rfl⟩))
    all_goals first
      | (exfalso; simp_all [inB] <;> omega)
      | (go_ret2; refine ⟨rfl, ?_⟩; repeat (first | exact World.Ext.refl _ | exact ⟨_, rfl⟩ | assumption | refine World.Ext.over ?_ _ | refine World.Ext.drewN ?_ _ | refine World.Ext.drew ?_ | refine World.Ext.alloc ?_ _ | refine World.Ext.setCell ?_ (by simp) _))
  · simp only [sideZ] at ho1 ho2 hx1 hy1
    go_enter Try.func13, Try.ntmps13
    go_wp2_with (first | (go_at_call 45; refine (l08Ask_any _ _ _ _ HA.out).mono ?_; rintro e w' ⟨rfl, x1, rfl⟩) | (go_at_call 47; refine (side_any _ (by omega) (by omega) _).mono ?_; rintro e w' ⟨rfl, x1, rfl⟩; simp only [sideZ]) | (go_at_call 46; refine (l00In_any _ _ _ _ _ rfl).mono ?_; rintro e w' ⟨rfl, x1, rfl⟩) | (go_at_call 48; refine (l08Index_at3 _ _ _ hc0 hc3 hx0 (by simp at hx1; omega) hy0 (by simp at hy1; omega) _ _ rfl).mono ?_; rintro e w' ⟨rfl, x1, rfl⟩))
    all_goals first
      | (exfalso; simp_all [inB] <;> omega)
      | (go_ret2; refine ⟨rfl, ?_⟩; repeat (first | exact World.Ext.refl _ | exact ⟨_, rfl⟩ | assumption | refine World.Ext.over ?_ _ | refine World.Ext.drewN ?_ _ | refine World.Ext.drew ?_ | refine World.Ext.alloc ?_ _ | refine World.Ext.setCell ?_ (by simp) _))
  · simp only [sideZ] at ho1 ho2 hx1 hy1
    go_enter Try.func13, Try.ntmps13
    go_wp2_with (first | (go_at_call 45; refine (l08Ask_any _ _ _ _ HA.out).mono ?_; rintro e w' ⟨rfl, x1, rfl⟩) | (go_at_call 47; refine (side_any _ (by omega) (by omega) _).mono ?_; rintro e w' ⟨rfl, x1, rfl⟩; simp only [sideZ]) | (go_at_call 46; refine (l00In_any _ _ _ _ _ rfl).mono ?_; rintro e w' ⟨rfl, x1, rfl⟩) | (go_at_call 48; refine (l08Index_at4 _ _ _ hc0 hc3 hx0 (by simp at hx1; omega) hy0 (by simp at hy1; omega) _ _ rfl).mono ?_; rintro e w' ⟨rfl, x1, rfl⟩))
    all_goals first
      | (exfalso; simp_all [inB] <;> omega)
      | (go_ret2; refine ⟨rfl, ?_⟩; repeat (first | exact World.Ext.refl _ | exact ⟨_, rfl⟩ | assumption | refine World.Ext.over ?_ _ | refine World.Ext.drewN ?_ _ | refine World.Ext.drew ?_ | refine World.Ext.alloc ?_ _ | refine World.Ext.setCell ?_ (by simp) _))
theorem specIndexOf_any (c k x y : Int) (w : World) :
    Calls Try.prog 13 #[.int .i64 c, .int .i64 k, .int .i64 x, .int .i64 y] w fun e w' => e = .returned (indexV c k x y) ∧ w.Ext w' := by
  unfold indexV
  cases h : (askB c k && onB k x y)
  · exact specIndexOf_no c k x y h w
  · exact specIndexOf_yes c k x y h w
set_option maxHeartbeats 800000 in
theorem implIndexOf_any (c k x y : Int) (w : World) :
    Calls Try.prog 14 #[.int .i64 c, .int .i64 k, .int .i64 x, .int .i64 y] w fun e w' => e = .returned (indexV c k x y) ∧ w.Ext w' := by
  unfold indexV
  cases ha : askB c k
  · go_enter Try.func14, Try.ntmps14
    go_wp2_with (go_at_call 49; refine (curveOk_any _ _ _ _ ha).mono ?_; rintro e w' ⟨rfl, x1, rfl⟩)
    go_ret2
    refine ⟨rfl, ?_⟩
    repeat (first | exact World.Ext.refl _ | exact ⟨_, rfl⟩ | assumption | refine World.Ext.over ?_ _ | refine World.Ext.drewN ?_ _ | refine World.Ext.drew ?_ | refine World.Ext.alloc ?_ _ | refine World.Ext.setCell ?_ (by simp) _)
  · have ha2 := ha
    simp only [askB, inB, Bool.and_eq_true, decide_eq_true_eq] at ha2
    obtain ⟨⟨hc0, hc3⟩, h0, h4⟩ := ha2
    cases ho : onB k x y
    · go_enter Try.func14, Try.ntmps14
      go_wp2_with (first | (go_at_call 49; refine (curveOk_any _ _ _ _ ha).mono ?_; rintro e w' ⟨rfl, x1, rfl⟩) | (go_at_call 44; refine (onCurve_any _ _ _ h0 h4 _ _ ho).mono ?_; rintro e w' ⟨rfl, x1, rfl⟩))
      go_ret2
      refine ⟨rfl, ?_⟩
      repeat (first | exact World.Ext.refl _ | exact ⟨_, rfl⟩ | assumption | refine World.Ext.over ?_ _ | refine World.Ext.drewN ?_ _ | refine World.Ext.drew ?_ | refine World.Ext.alloc ?_ _ | refine World.Ext.setCell ?_ (by simp) _)
    · have ho' := ho
      simp only [onB, inB, Bool.and_eq_true, decide_eq_true_eq] at ho'
      obtain ⟨⟨hx0, hx1⟩, hy0, hy1⟩ := ho'
      have HA := Lib.hid ha
      have HO := Lib.hid ho
      clear ha ho
      rcases shl1 k h0 h4 with rfl | rfl | rfl | rfl | rfl
      · simp only [sideZ] at hx1 hy1
        go_enter Try.func14, Try.ntmps14
        go_wp2_with (first | (go_at_call 49; refine (curveOk_any _ _ _ _ HA.out).mono ?_; rintro e w' ⟨rfl, x1, rfl⟩) | (go_at_call 44; refine (onCurve_any _ _ _ (by omega) (by omega) _ _ HO.out).mono ?_; rintro e w' ⟨rfl, x1, rfl⟩) | (go_at_call 50; refine (indexOf_at0 _ _ _ hc0 hc3 hx0 (by simp at hx1; omega) hy0 (by simp at hy1; omega) _ _ rfl).mono ?_; rintro e w' ⟨rfl, x1, rfl⟩))
        go_ret2
        refine ⟨rfl, ?_⟩
        repeat (first | exact World.Ext.refl _ | exact ⟨_, rfl⟩ | assumption | refine World.Ext.over ?_ _ | refine World.Ext.drewN ?_ _ | refine World.Ext.drew ?_ | refine World.Ext.alloc ?_ _ | refine World.Ext.setCell ?_ (by simp) _)
      · simp only [sideZ] at hx1 hy1
        go_enter Try.func14, Try.ntmps14
        go_wp2_with (first | (go_at_call 49; refine (curveOk_any _ _ _ _ HA.out).mono ?_; rintro e w' ⟨rfl, x1, rfl⟩) | (go_at_call 44; refine (onCurve_any _ _ _ (by omega) (by omega) _ _ HO.out).mono ?_; rintro e w' ⟨rfl, x1, rfl⟩) | (go_at_call 50; refine (indexOf_at1 _ _ _ hc0 hc3 hx0 (by simp at hx1; omega) hy0 (by simp at hy1; omega) _ _ rfl).mono ?_; rintro e w' ⟨rfl, x1, rfl⟩))
        go_ret2
        refine ⟨rfl, ?_⟩
        repeat (first | exact World.Ext.refl _ | exact ⟨_, rfl⟩ | assumption | refine World.Ext.over ?_ _ | refine World.Ext.drewN ?_ _ | refine World.Ext.drew ?_ | refine World.Ext.alloc ?_ _ | refine World.Ext.setCell ?_ (by simp) _)
      · simp only [sideZ] at hx1 hy1
        go_enter Try.func14, Try.ntmps14
        go_wp2_with (first | (go_at_call 49; refine (curveOk_any _ _ _ _ HA.out).mono ?_; rintro e w' ⟨rfl, x1, rfl⟩) | (go_at_call 44; refine (onCurve_any _ _ _ (by omega) (by omega) _ _ HO.out).mono ?_; rintro e w' ⟨rfl, x1, rfl⟩) | (go_at_call 50; refine (indexOf_at2 _ _ _ hc0 hc3 hx0 (by simp at hx1; omega) hy0 (by simp at hy1; omega) _ _ rfl).mono ?_; rintro e w' ⟨rfl, x1, rfl⟩))
        go_ret2
        refine ⟨rfl, ?_⟩
        repeat (first | exact World.Ext.refl _ | exact ⟨_, rfl⟩ | assumption | refine World.Ext.over ?_ _ | refine World.Ext.drewN ?_ _ | refine World.Ext.drew ?_ | refine World.Ext.alloc ?_ _ | refine World.Ext.setCell ?_ (by simp) _)
      · simp only [sideZ] at hx1 hy1
        go_enter Try.func14, Try.ntmps14
        go_wp2_with (first | (go_at_call 49; refine (curveOk_any _ _ _ _ HA.out).mono ?_; rintro e w' ⟨rfl, x1, rfl⟩) | (go_at_call 44; refine (onCurve_any _ _ _ (by omega) (by omega) _ _ HO.out).mono ?_; rintro e w' ⟨rfl, x1, rfl⟩) | (go_at_call 50; refine (indexOf_at3 _ _ _ hc0 hc3 hx0 (by simp at hx1; omega) hy0 (by simp at hy1; omega) _ _ rfl).mono ?_; rintro e w' ⟨rfl, x1, rfl⟩))
        go_ret2
        refine ⟨rfl, ?_⟩
        repeat (first | exact World.Ext.refl _ | exact ⟨_, rfl⟩ | assumption | refine World.Ext.over ?_ _ | refine World.Ext.drewN ?_ _ | refine World.Ext.drew ?_ | refine World.Ext.alloc ?_ _ | refine World.Ext.setCell ?_ (by simp) _)
      · simp only [sideZ] at hx1 hy1
        go_enter Try.func14, Try.ntmps14
        go_wp2_with (first | (go_at_call 49; refine (curveOk_any _ _ _ _ HA.out).mono ?_; rintro e w' ⟨rfl, x1, rfl⟩) | (go_at_call 44; refine (onCurve_any _ _ _ (by omega) (by omega) _ _ HO.out).mono ?_; rintro e w' ⟨rfl, x1, rfl⟩) | (go_at_call 50; refine (indexOf_at4 _ _ _ hc0 hc3 hx0 (by simp at hx1; omega) hy0 (by simp at hy1; omega) _ _ rfl).mono ?_; rintro e w' ⟨rfl, x1, rfl⟩))
        go_ret2
        refine ⟨rfl, ?_⟩
        repeat (first | exact World.Ext.refl _ | exact ⟨_, rfl⟩ | assumption | refine World.Ext.over ?_ _ | refine World.Ext.drewN ?_ _ | refine World.Ext.drew ?_ | refine World.Ext.alloc ?_ _ | refine World.Ext.setCell ?_ (by simp) _)
theorem indexV_cases (c k x y : Int) : ∃ (n : Int) (b : Bool), indexV c k x y = .tuple #[.int .i64 n, .bool b] := by
  unfold indexV; split <;> exact ⟨_, _, rfl⟩
set_option maxHeartbeats 400000 in
theorem index_walk (c k x y : Int) (w : World) :
    Calls Try.prog 4 #[.int .i64 c, .int .i64 k, .int .i64 x, .int .i64 y] w fun e w' => e = .returned (.bool true) ∧ w.Ext w' := by
  obtain ⟨n, b, hv⟩ := indexV_cases c k x y
  have HV := Lib.hid hv
  clear hv
  go_enter Try.func4, Try.ntmps4
  go_wp2_with (first | (go_at_call 13; refine (specIndexOf_any _ _ _ _ _).mono ?_; rintro e w' ⟨rfl, x1, rfl⟩; rw [HV.out]) | (go_at_call 14; refine (implIndexOf_any _ _ _ _ _).mono ?_; rintro e w' ⟨rfl, x1, rfl⟩; rw [HV.out]))
  all_goals
    go_ret
    refine ⟨by simp_all, ?_⟩
    repeat (first | exact World.Ext.refl _ | exact ⟨_, rfl⟩ | assumption | refine World.Ext.over ?_ _ | refine World.Ext.drewN ?_ _ | refine World.Ext.drew ?_ | refine World.Ext.alloc ?_ _ | refine World.Ext.setCell ?_ (by simp) _)
end Go.Proofs.Ytfjjplllcilnaaa
