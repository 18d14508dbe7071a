/- What the laws do with grey pictures, pictures and trees. -/
import Derived.Test.YtpploijlijnahaaLInts
import Derived.Test.YtpploijlijnahaaLStrs
namespace Go.Proofs.Ytpploijlijnahaa
open Go.RowKit
set_option maxHeartbeats 400000 in
theorem eqGrey_any (a b : Option Addr) (c c' : Nat) (A B : Nat → Option Addr) (C D : Nat → Nat) (m : List (List Int)) (w : World) (hn : m.length ≤ maxLen) (hr : ∀ r, (m.getD r []).length ≤ maxLen) (ha : MatAt w a A C m) (hb : MatAt w b B D m) :
    Calls Try.prog 54 #[.agg #[.slice a m.length c], .agg #[.slice b m.length c']] w fun e w' => e = .returned (.bool true) ∧ w.Ext w' := by
  have HA := Lib.hid ha
  have HB := Lib.hid hb
  have HR := Lib.hid hr
  have HN := Lib.hid hn
  clear ha hb hr hn
  go_enter Try.func54, Try.ntmps54
  go_wp2_with (go_at_call 63; refine (eqInt64SS_any _ _ _ _ A B C D m _ HN.out HR.out (HA.out.ext (by repeat (first | exact World.Ext.refl _ | exact ⟨_, rfl⟩ | assumption | refine World.Ext.over ?_ _ | refine World.Ext.drewN ?_ _ | refine World.Ext.drew ?_ | refine World.Ext.alloc ?_ _ | refine World.Ext.setCell ?_ (by simp) _))) (HB.out.ext (by repeat (first | exact World.Ext.refl _ | exact ⟨_, rfl⟩ | assumption | refine World.Ext.over ?_ _ | refine World.Ext.drewN ?_ _ | refine World.Ext.drew ?_ | refine World.Ext.alloc ?_ _ | refine World.Ext.setCell ?_ (by simp) _)))).mono ?_; rintro e w' ⟨rfl, x1, rfl⟩)
  go_ret
  refine ⟨rfl, ?_⟩
  repeat (first | exact World.Ext.refl _ | exact ⟨_, rfl⟩ | assumption | refine World.Ext.over ?_ _ | refine World.Ext.drewN ?_ _ | refine World.Ext.drew ?_ | refine World.Ext.alloc ?_ _ | refine World.Ext.setCell ?_ (by simp) _)
set_option maxHeartbeats 400000 in
theorem markGrey_any (a : Option Addr) (c : Nat) (A : Nat → Option Addr) (C : Nat → Nat) (m : List (List Int)) (k0 : Int) (lo hi : Nat) (w : World) (hn : m.length ≤ 1048576) (hr : ∀ r, (m.getD r []).length ≤ 1048576)
    (h0 : 0 ≤ k0) (h1 : k0 + offM m m.length ≤ 4194304) (ha : OwnMat lo hi w a A C m) :
    Calls Try.prog 57 #[.agg #[.slice a m.length c], .int .i64 k0] w fun e w' => e = .returned (.int .i64 (k0 + offM m m.length)) ∧ Wrote (fun b => lo ≤ b ∧ b < hi) w w' ∧ OwnMat lo hi w' a A C (marksM k0 m) := by
  have HA := Lib.hid ha
  have HR := Lib.hid hr
  have HN := Lib.hid hn
  have H1 := Lib.hid h1
  have H0 := Lib.hid h0
  clear ha hr hn h1 h0
  go_enter Try.func57, Try.ntmps57
  go_wp2_with fail
  refine (markInt64SS_any _ _ A C m _ lo hi _ HN.out HR.out H0.out H1.out (HA.out.ext (by repeat (first | exact World.Ext.refl _ | exact ⟨_, rfl⟩ | assumption | refine World.Ext.over ?_ _ | refine World.Ext.drewN ?_ _ | refine World.Ext.drew ?_ | refine World.Ext.alloc ?_ _ | refine World.Ext.setCell ?_ (by simp) _)))).mono ?_
  rintro e w1 ⟨rfl, hw1, ho1⟩
  have HW := Lib.hid hw1
  have HO := Lib.hid ho1
  clear hw1 ho1
  go_wp2
  go_ret
  exact ⟨rfl, (World.Ext.wrote (by repeat (first | exact World.Ext.refl _ | exact ⟨_, rfl⟩ | assumption | refine World.Ext.over ?_ _ | refine World.Ext.drewN ?_ _ | refine World.Ext.drew ?_ | refine World.Ext.alloc ?_ _ | refine World.Ext.setCell ?_ (by simp) _)) _).trans HW.out, HO.out⟩
set_option maxHeartbeats 400000 in
theorem heldGrey_any (a : Option Addr) (c : Nat) (A : Nat → Option Addr) (C : Nat → Nat) (m : List (List Int)) (k0 : Int) (w : World) (hn : m.length ≤ 1048576) (hr : ∀ r, (m.getD r []).length ≤ 1048576)
    (h0 : 0 ≤ k0) (h1 : k0 + offM m m.length ≤ 4194304) (ha : MatAt w a A C (marksM k0 m)) :
    Calls Try.prog 58 #[.agg #[.slice a m.length c], .int .i64 k0] w fun e w' => e = .returned (.int .i64 (k0 + offM m m.length)) ∧ w.Ext w' := by
  have HA := Lib.hid ha
  have HR := Lib.hid hr
  have HN := Lib.hid hn
  have H1 := Lib.hid h1
  have hnn : decide (k0 + (offM m m.length : Int) < 0) = false := by simp; omega
  have H0 := Lib.hid h0
  clear ha hr hn h1 h0
  generalize hz : (k0 + (offM m m.length : Int)) = z at *
  have HZ := Lib.hid hz
  clear hz
  go_enter Try.func58, Try.ntmps58
  go_wp2_with (go_at_call 124; refine (heldInt64SS_any _ _ A C m _ _ HN.out HR.out H0.out (by rw [HZ.out]; exact H1.out) (HA.out.ext (by repeat (first | exact World.Ext.refl _ | exact ⟨_, rfl⟩ | assumption | refine World.Ext.over ?_ _ | refine World.Ext.drewN ?_ _ | refine World.Ext.drew ?_ | refine World.Ext.alloc ?_ _ | refine World.Ext.setCell ?_ (by simp) _)))).mono ?_; rintro e w' ⟨rfl, x1, rfl⟩; rw [HZ.out])
  go_ret
  refine ⟨rfl, ?_⟩
  repeat (first | exact World.Ext.refl _ | exact ⟨_, rfl⟩ | assumption | refine World.Ext.over ?_ _ | refine World.Ext.drewN ?_ _ | refine World.Ext.drew ?_ | refine World.Ext.alloc ?_ _ | refine World.Ext.setCell ?_ (by simp) _)
set_option maxHeartbeats 400000 in
theorem eqPicture_any (a b : Option Addr) (c c' : Nat) (ss : List ByteArray) (w : World) (hn : ss.length ≤ maxLen) (ha : RowS w a ss) (hb : RowS w b ss) :
    Calls Try.prog 21 #[.agg #[.slice a ss.length c], .agg #[.slice b ss.length c']] w fun e w' => e = .returned (.bool true) ∧ w.Ext w' := by
  have HA := Lib.hid ha
  have HB := Lib.hid hb
  have HN := Lib.hid hn
  clear ha hb hn
  go_enter Try.func21, Try.ntmps21
  go_wp2_with (go_at_call 76; refine (eqStringS_any _ _ _ _ ss _ HN.out (RowOf.ext HA.out (by repeat (first | exact World.Ext.refl _ | exact ⟨_, rfl⟩ | assumption | refine World.Ext.over ?_ _ | refine World.Ext.drewN ?_ _ | refine World.Ext.drew ?_ | refine World.Ext.alloc ?_ _ | refine World.Ext.setCell ?_ (by simp) _))) (RowOf.ext HB.out (by repeat (first | exact World.Ext.refl _ | exact ⟨_, rfl⟩ | assumption | refine World.Ext.over ?_ _ | refine World.Ext.drewN ?_ _ | refine World.Ext.drew ?_ | refine World.Ext.alloc ?_ _ | refine World.Ext.setCell ?_ (by simp) _)))).mono ?_; rintro e w' ⟨rfl, x1, rfl⟩)
  go_ret
  refine ⟨rfl, ?_⟩
  repeat (first | exact World.Ext.refl _ | exact ⟨_, rfl⟩ | assumption | refine World.Ext.over ?_ _ | refine World.Ext.drewN ?_ _ | refine World.Ext.drew ?_ | refine World.Ext.alloc ?_ _ | refine World.Ext.setCell ?_ (by simp) _)
set_option maxHeartbeats 400000 in
theorem markPicture_any (a : Option Addr) (c : Nat) (ss : List ByteArray) (k0 : Nat) (lo hi : Nat) (w : World) (hn : ss.length ≤ 1048576) (h1 : k0 ≤ 2097152) (ha : OwnOf Value.string ByteArray.empty lo hi w a ss) :
    Calls Try.prog 23 #[.agg #[.slice a ss.length c], .int .i64 k0] w fun e w' => e = .returned (.int .i64 (k0 + ss.length : Nat)) ∧ Wrote (fun b => lo ≤ b ∧ b < hi) w w' ∧ OwnOf Value.string ByteArray.empty lo hi w' a (marksS k0 ss.length) := by
  have HA := Lib.hid ha
  have HN := Lib.hid hn
  have H1 := Lib.hid h1
  clear ha hn h1
  go_enter Try.func23, Try.ntmps23
  go_wp2_with fail
  refine (markStringS_any _ _ ss _ lo hi _ HN.out H1.out (HA.out.ext (by repeat (first | exact World.Ext.refl _ | exact ⟨_, rfl⟩ | assumption | refine World.Ext.over ?_ _ | refine World.Ext.drewN ?_ _ | refine World.Ext.drew ?_ | refine World.Ext.alloc ?_ _ | refine World.Ext.setCell ?_ (by simp) _)))).mono ?_
  rintro e w1 ⟨rfl, hw1, ho1⟩
  have HW := Lib.hid hw1
  have HO := Lib.hid ho1
  clear hw1 ho1
  go_wp2
  go_ret
  exact ⟨rfl, (World.Ext.wrote (by repeat (first | exact World.Ext.refl _ | exact ⟨_, rfl⟩ | assumption | refine World.Ext.over ?_ _ | refine World.Ext.drewN ?_ _ | refine World.Ext.drew ?_ | refine World.Ext.alloc ?_ _ | refine World.Ext.setCell ?_ (by simp) _)) _).trans HW.out, HO.out⟩
set_option maxHeartbeats 400000 in
theorem heldPicture_any (a : Option Addr) (n c : Nat) (k0 : Nat) (w : World) (hn : n ≤ 1048576) (h1 : k0 ≤ 2097152) (ha : RowS w a (marksS k0 n)) :
    Calls Try.prog 25 #[.agg #[.slice a n c], .int .i64 k0] w fun e w' => e = .returned (.int .i64 (k0 + n : Nat)) ∧ w.Ext w' := by
  have HA := Lib.hid ha
  have HN := Lib.hid hn
  have H1 := Lib.hid h1
  clear ha hn h1
  have hnn : (0 : Int) ≤ ((k0 + n : Nat) : Int) := by omega
  generalize hz : k0 + n = z at *
  have HZ := Lib.hid hz
  clear hz
  go_enter Try.func25, Try.ntmps25
  go_wp2_with (go_at_call 80; refine (heldStringS_any _ n _ k0 _ HN.out H1.out (RowOf.ext HA.out (by repeat (first | exact World.Ext.refl _ | exact ⟨_, rfl⟩ | assumption | refine World.Ext.over ?_ _ | refine World.Ext.drewN ?_ _ | refine World.Ext.drew ?_ | refine World.Ext.alloc ?_ _ | refine World.Ext.setCell ?_ (by simp) _)))).mono ?_; rintro e w' ⟨rfl, x1, rfl⟩; rw [HZ.out])
  go_ret
  refine ⟨rfl, ?_⟩
  repeat (first | exact World.Ext.refl _ | exact ⟨_, rfl⟩ | assumption | refine World.Ext.over ?_ _ | refine World.Ext.drewN ?_ _ | refine World.Ext.drew ?_ | refine World.Ext.alloc ?_ _ | refine World.Ext.setCell ?_ (by simp) _)
end Go.Proofs.Ytpploijlijnahaa
