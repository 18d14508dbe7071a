/- What the laws do with grey pictures, pictures and trees. -/
import Derived.Test.YtfjjplllcilnaaaLInts
import Derived.Test.YtfjjplllcilnaaaLStrs
namespace Go.Proofs.Ytfjjplllcilnaaa
open Go.RowKit
set_option maxHeartbeats 400000 in
theorem szGrey_any (a : Option Addr) (c : Nat) (A : Nat → Option Addr) (C : Nat → Nat) (m : List (List Int)) (left : Int) (w : World) (hl : 0 ≤ left) (hl2 : left ≤ 1048576) (hn : m.length ≤ maxLen)
    (hm : MatAt w a A C m) (hr : ∀ r, (m.getD r []).length ≤ maxLen) :
    Calls Try.prog 26 #[.agg #[.slice a m.length c], .int .i64 left] w fun e w' => e = .returned (.int .i64 (if szSS left (m.map List.length) < 0 then -1 else szSS left (m.map List.length))) ∧ w.Ext w' := by
  have HM := Lib.hid hm
  have HR := Lib.hid hr
  have HN := Lib.hid hn
  clear hm hr hn
  obtain ⟨z, hz⟩ : ∃ z, z = szSS left (m.map List.length) := ⟨_, rfl⟩
  rw [← hz]
  have HZ := Lib.hid hz
  clear hz
  go_enter Try.func26, Try.ntmps26
  go_wp2_with (go_at_call 73; refine (szInt64SS_any _ _ A C m _ _ hl hl2 HN.out (HM.out.ext ((World.Ext.refl _).alloc _)) HR.out).mono ?_; rintro e w' ⟨rfl, x1, rfl⟩; rw [← HZ.out])
  all_goals
    go_ret
    refine ⟨ret_int rfl, ?_⟩
    repeat (first | exact World.Ext.refl _ | exact ⟨_, rfl⟩ | assumption | refine World.Ext.over ?_ _ | refine World.Ext.drewN ?_ _ | refine World.Ext.drew ?_ | refine World.Ext.alloc ?_ _ | refine World.Ext.setCell ?_ (by simp) _)
set_option maxHeartbeats 400000 in
theorem toGrey_any (a : Option Addr) (c : Nat) (A : Nat → Option Addr) (C : Nat → Nat) (m : List (List Int)) (w : World) (hn : m.length ≤ 1048576) (hrow : ∀ r, (m.getD r []).length ≤ 1048576) (hm : MatAt w a A C m) :
    Calls Try.prog 28 #[.agg #[.slice a m.length c]] w fun e w' => ∃ g A', e = .returned (.agg #[.slice (some ⟨g, 0, none⟩) m.length m.length]) ∧ w.Ext w' ∧ OwnMat w.heap.size w'.heap.size w' (some ⟨g, 0, none⟩) A' (fun r => (m.getD r []).length) m := by
  have HM := Lib.hid hm
  have HR := Lib.hid hrow
  have HN := Lib.hid hn
  clear hm hrow hn
  go_enter Try.func28, Try.ntmps28
  go_wp2_with fail
  refine (toInt64SS_any _ _ A C m _ HN.out HR.out (HM.out.ext (by repeat (first | exact World.Ext.refl _ | exact ⟨_, rfl⟩ | assumption | refine World.Ext.over ?_ _ | refine World.Ext.drewN ?_ _ | refine World.Ext.drew ?_ | refine World.Ext.alloc ?_ _ | refine World.Ext.setCell ?_ (by simp) _)))).mono ?_
  rintro e w1 ⟨g, G, rfl, hS⟩
  have hx := hS.ext
  have HO := Lib.hid hS.own
  clear hS
  have q1 := hx.cell (a := ⟨w.heap.size + 1 + 1, 0, none⟩) (v := .slice none 0 0) (by simp [go_sem])
  have q2 := hx.cell (a := ⟨w.heap.size + 1, 0, none⟩) (v := .slice none 0 0) (by simp [go_sem])
  have q3 : w1.frozen? ⟨w.heap.size + 1 + 1, 0, none⟩ = false := hx.free (v := .slice none 0 0) (by simp [go_sem]) (by simp [go_sem])
  have q4 : w1.frozen? ⟨w.heap.size + 1, 0, none⟩ = false := hx.free (v := .slice none 0 0) (by simp [go_sem]) (by simp [go_sem])
  go_wp2
  have hs := hx.size
  simp at hs
  refine bodyPost_ret (v := .agg #[.slice (some ⟨g, 0, none⟩) m.length m.length]) (by simp [results, Try.results28, go_sem, *]) rfl ⟨g, fun r => some ⟨G r, 0, none⟩, rfl, ?_, ?_⟩
  · refine World.Ext.setCell (World.Ext.setCell (World.Ext.trans (by repeat (first | exact World.Ext.refl _ | exact ⟨_, rfl⟩ | assumption | refine World.Ext.over ?_ _ | refine World.Ext.drewN ?_ _ | refine World.Ext.drew ?_ | refine World.Ext.alloc ?_ _ | refine World.Ext.setCell ?_ (by simp) _)) hx) (by simp; omega) _) (by simp) _
  · refine (HO.out.wrote (S := fun b => b < w.heap.size + 3) (((Wrote.refl _ _).setCell (by simp) _).setCell (by simp) _) (fun k h1 h2 => ?_)).mono ?_ ?_
    · simp at h1; simp; omega
    · simp; omega
    · simp
set_option maxHeartbeats 400000 in
theorem eqGrey_any (a b : Option Addr) (c c' : Nat) (A B : Nat → Option Addr) (C D : Nat → Nat) (m : List (List Int)) (w : World) (hn : m.length ≤ maxLen) (hr : ∀ r, (m.getD r []).length ≤ maxLen) (ha : MatAt w a A C m) (hb : MatAt w b B D m) :
    Calls Try.prog 31 #[.agg #[.slice a m.length c], .agg #[.slice b m.length c']] w fun e w' => e = .returned (.bool true) ∧ w.Ext w' := by
  have HA := Lib.hid ha
  have HB := Lib.hid hb
  have HR := Lib.hid hr
  have HN := Lib.hid hn
  clear ha hb hr hn
  go_enter Try.func31, Try.ntmps31
  go_wp2_with (go_at_call 80; refine (eqInt64SS_any _ _ _ _ A B C D m _ HN.out HR.out (HA.out.ext (by repeat (first | exact World.Ext.refl _ | exact ⟨_, rfl⟩ | assumption | refine World.Ext.over ?_ _ | refine World.Ext.drewN ?_ _ | refine World.Ext.drew ?_ | refine World.Ext.alloc ?_ _ | refine World.Ext.setCell ?_ (by simp) _))) (HB.out.ext (by repeat (first | exact World.Ext.refl _ | exact ⟨_, rfl⟩ | assumption | refine World.Ext.over ?_ _ | refine World.Ext.drewN ?_ _ | refine World.Ext.drew ?_ | refine World.Ext.alloc ?_ _ | refine World.Ext.setCell ?_ (by simp) _)))).mono ?_; rintro e w' ⟨rfl, x1, rfl⟩)
  go_ret
  refine ⟨rfl, ?_⟩
  repeat (first | exact World.Ext.refl _ | exact ⟨_, rfl⟩ | assumption | refine World.Ext.over ?_ _ | refine World.Ext.drewN ?_ _ | refine World.Ext.drew ?_ | refine World.Ext.alloc ?_ _ | refine World.Ext.setCell ?_ (by simp) _)
set_option maxHeartbeats 400000 in
theorem markGrey_any (a : Option Addr) (c : Nat) (A : Nat → Option Addr) (C : Nat → Nat) (m : List (List Int)) (k0 : Int) (lo hi : Nat) (w : World) (hn : m.length ≤ 1048576) (hr : ∀ r, (m.getD r []).length ≤ 1048576)
    (h0 : 0 ≤ k0) (h1 : k0 + offM m m.length ≤ 4194304) (ha : OwnMat lo hi w a A C m) :
    Calls Try.prog 32 #[.agg #[.slice a m.length c], .int .i64 k0] w fun e w' => e = .returned (.int .i64 (k0 + offM m m.length)) ∧ Wrote (fun b => lo ≤ b ∧ b < hi) w w' ∧ OwnMat lo hi w' a A C (marksM k0 m) := by
  have HA := Lib.hid ha
  have HR := Lib.hid hr
  have HN := Lib.hid hn
  have H1 := Lib.hid h1
  have H0 := Lib.hid h0
  clear ha hr hn h1 h0
  go_enter Try.func32, Try.ntmps32
  go_wp2_with fail
  refine (markInt64SS_any _ _ A C m _ lo hi _ HN.out HR.out H0.out H1.out (HA.out.ext (by repeat (first | exact World.Ext.refl _ | exact ⟨_, rfl⟩ | assumption | refine World.Ext.over ?_ _ | refine World.Ext.drewN ?_ _ | refine World.Ext.drew ?_ | refine World.Ext.alloc ?_ _ | refine World.Ext.setCell ?_ (by simp) _)))).mono ?_
  rintro e w1 ⟨rfl, hw1, ho1⟩
  have HW := Lib.hid hw1
  have HO := Lib.hid ho1
  clear hw1 ho1
  go_wp2
  go_ret
  exact ⟨rfl, (World.Ext.wrote (by repeat (first | exact World.Ext.refl _ | exact ⟨_, rfl⟩ | assumption | refine World.Ext.over ?_ _ | refine World.Ext.drewN ?_ _ | refine World.Ext.drew ?_ | refine World.Ext.alloc ?_ _ | refine World.Ext.setCell ?_ (by simp) _)) _).trans HW.out, HO.out⟩
set_option maxHeartbeats 400000 in
theorem eqPicture_any (a b : Option Addr) (c c' : Nat) (ss : List ByteArray) (w : World) (hn : ss.length ≤ maxLen) (ha : RowS w a ss) (hb : RowS w b ss) :
    Calls Try.prog 30 #[.agg #[.slice a ss.length c], .agg #[.slice b ss.length c']] w fun e w' => e = .returned (.bool true) ∧ w.Ext w' := by
  have HA := Lib.hid ha
  have HB := Lib.hid hb
  have HN := Lib.hid hn
  clear ha hb hn
  go_enter Try.func30, Try.ntmps30
  go_wp2_with (go_at_call 79; refine (eqStringS_any _ _ _ _ ss _ HN.out (RowOf.ext HA.out (by repeat (first | exact World.Ext.refl _ | exact ⟨_, rfl⟩ | assumption | refine World.Ext.over ?_ _ | refine World.Ext.drewN ?_ _ | refine World.Ext.drew ?_ | refine World.Ext.alloc ?_ _ | refine World.Ext.setCell ?_ (by simp) _))) (RowOf.ext HB.out (by repeat (first | exact World.Ext.refl _ | exact ⟨_, rfl⟩ | assumption | refine World.Ext.over ?_ _ | refine World.Ext.drewN ?_ _ | refine World.Ext.drew ?_ | refine World.Ext.alloc ?_ _ | refine World.Ext.setCell ?_ (by simp) _)))).mono ?_; rintro e w' ⟨rfl, x1, rfl⟩)
  go_ret
  refine ⟨rfl, ?_⟩
  repeat (first | exact World.Ext.refl _ | exact ⟨_, rfl⟩ | assumption | refine World.Ext.over ?_ _ | refine World.Ext.drewN ?_ _ | refine World.Ext.drew ?_ | refine World.Ext.alloc ?_ _ | refine World.Ext.setCell ?_ (by simp) _)
set_option maxHeartbeats 400000 in
theorem markPicture_any (a : Option Addr) (c : Nat) (ss : List ByteArray) (k0 : Nat) (lo hi : Nat) (w : World) (hn : ss.length ≤ 1048576) (h1 : k0 ≤ 2097152) (ha : OwnOf Value.string ByteArray.empty lo hi w a ss) :
    Calls Try.prog 33 #[.agg #[.slice a ss.length c], .int .i64 k0] w fun e w' => e = .returned (.int .i64 (k0 + ss.length : Nat)) ∧ Wrote (fun b => lo ≤ b ∧ b < hi) w w' ∧ OwnOf Value.string ByteArray.empty lo hi w' a (marksS k0 ss.length) := by
  have HA := Lib.hid ha
  have HN := Lib.hid hn
  have H1 := Lib.hid h1
  clear ha hn h1
  go_enter Try.func33, Try.ntmps33
  go_wp2_with fail
  refine (markStringS_any _ _ ss _ lo hi _ HN.out H1.out (HA.out.ext (by repeat (first | exact World.Ext.refl _ | exact ⟨_, rfl⟩ | assumption | refine World.Ext.over ?_ _ | refine World.Ext.drewN ?_ _ | refine World.Ext.drew ?_ | refine World.Ext.alloc ?_ _ | refine World.Ext.setCell ?_ (by simp) _)))).mono ?_
  rintro e w1 ⟨rfl, hw1, ho1⟩
  have HW := Lib.hid hw1
  have HO := Lib.hid ho1
  clear hw1 ho1
  go_wp2
  go_ret
  exact ⟨rfl, (World.Ext.wrote (by repeat (first | exact World.Ext.refl _ | exact ⟨_, rfl⟩ | assumption | refine World.Ext.over ?_ _ | refine World.Ext.drewN ?_ _ | refine World.Ext.drew ?_ | refine World.Ext.alloc ?_ _ | refine World.Ext.setCell ?_ (by simp) _)) _).trans HW.out, HO.out⟩
set_option maxHeartbeats 400000 in
theorem heldPicture_any (a : Option Addr) (n c : Nat) (k0 : Nat) (w : World) (hn : n ≤ 1048576) (h1 : k0 ≤ 2097152) (ha : RowS w a (marksS k0 n)) :
    Calls Try.prog 34 #[.agg #[.slice a n c], .int .i64 k0] w fun e w' => e = .returned (.int .i64 (k0 + n : Nat)) ∧ w.Ext w' := by
  have HA := Lib.hid ha
  have HN := Lib.hid hn
  have H1 := Lib.hid h1
  clear ha hn h1
  have hnn : (0 : Int) ≤ ((k0 + n : Nat) : Int) := by omega
  generalize hz : k0 + n = z at *
  have HZ := Lib.hid hz
  clear hz
  go_enter Try.func34, Try.ntmps34
  go_wp2_with (go_at_call 83; refine (heldStringS_any _ n _ k0 _ HN.out H1.out (RowOf.ext HA.out (by repeat (first | exact World.Ext.refl _ | exact ⟨_, rfl⟩ | assumption | refine World.Ext.over ?_ _ | refine World.Ext.drewN ?_ _ | refine World.Ext.drew ?_ | refine World.Ext.alloc ?_ _ | refine World.Ext.setCell ?_ (by simp) _)))).mono ?_; rintro e w' ⟨rfl, x1, rfl⟩; rw [HZ.out])
  go_ret
  refine ⟨rfl, ?_⟩
  repeat (first | exact World.Ext.refl _ | exact ⟨_, rfl⟩ | assumption | refine World.Ext.over ?_ _ | refine World.Ext.drewN ?_ _ | refine World.Ext.drew ?_ | refine World.Ext.alloc ?_ _ | refine World.Ext.setCell ?_ (by simp) _)
set_option maxHeartbeats 400000 in
theorem szTree_any (k : Int) (s : ByteArray) (left : Int) (w : World) (hl : 0 ≤ left) (hl2 : left ≤ 1048576) (hs : s.size ≤ maxLen) :
    Calls Try.prog 35 #[.agg #[.int .i64 k, .string s], .int .i64 left] w fun e w' => e = .returned (.int .i64 (szS left s.size)) ∧ w.Ext w' := by
  unfold maxLen at hs
  go_enter Try.func35, Try.ntmps35
  go_wp2
  all_goals
    go_ret
    refine ⟨ret_int (by first | exact (if_pos (by assumption)).symm | exact (if_neg (by omega)).symm), ?_⟩
    repeat (first | exact World.Ext.refl _ | exact ⟨_, rfl⟩ | assumption | refine World.Ext.over ?_ _ | refine World.Ext.drewN ?_ _ | refine World.Ext.drew ?_ | refine World.Ext.alloc ?_ _ | refine World.Ext.setCell ?_ (by simp) _)
set_option maxHeartbeats 400000 in
theorem toTree_any (k : Int) (s : ByteArray) (w : World) :
    Calls Try.prog 37 #[.agg #[.int .i64 k, .string s]] w fun e w' => e = .returned (.agg #[.int .i64 k, .string s]) ∧ w.Ext w' := by
  go_enter Try.func37, Try.ntmps37
  go_wp2
  refine bodyPost_ret (v := .agg #[.int .i64 k, .string s]) (by simp [results, Try.results37, go_sem]) rfl ⟨rfl, ?_⟩
  repeat (first | exact World.Ext.refl _ | exact ⟨_, rfl⟩ | assumption | refine World.Ext.over ?_ _ | refine World.Ext.drewN ?_ _ | refine World.Ext.drew ?_ | refine World.Ext.alloc ?_ _ | refine World.Ext.setCell ?_ (by simp) _)
set_option maxHeartbeats 400000 in
theorem eqTree_any (k : Int) (s : ByteArray) (w : World) :
    Calls Try.prog 39 #[.agg #[.int .i64 k, .string s], .agg #[.int .i64 k, .string s]] w fun e w' => e = .returned (.bool true) ∧ w.Ext w' := by
  go_enter Try.func39, Try.ntmps39
  go_wp2
  go_ret
  refine ⟨rfl, ?_⟩
  repeat (first | exact World.Ext.refl _ | exact ⟨_, rfl⟩ | assumption | refine World.Ext.over ?_ _ | refine World.Ext.drewN ?_ _ | refine World.Ext.drew ?_ | refine World.Ext.alloc ?_ _ | refine World.Ext.setCell ?_ (by simp) _)
end Go.Proofs.Ytfjjplllcilnaaa
