/- Marks of pairs, from greater numbers on. -/
import Derived.Test.YtpploijlijnahaaLPairs
namespace Go.Proofs.Ytpploijlijnahaa
open Go.RowKit
set_option maxHeartbeats 800000 in
theorem markSpotS4_any (a : Option Addr) (c : Nat) (ps : List (Int × Int)) (k0 lo hi : Nat) (w : World) (hn : ps.length ≤ 1048576) (h1 : k0 ≤ 4194304) (ha : OwnP lo hi w a ps) :
    Calls Try.prog 79 #[.slice a ps.length c, .int .i64 k0] w fun e w' => e = .returned (.int .i64 (k0 + 2 * ps.length : Nat)) ∧ Wrote (fun b => lo ≤ b ∧ b < hi) w w' ∧ OwnOf (Value.int .i64) 0 lo hi w' a (marksI k0 (2 * ps.length)) := by
  have hh := HalfOf.start (mk := fun i => (k0 : Int) + (i : Nat)) ha
  rw [flatP_len] at hh
  have hm : ps.length ≤ 4611686018427387904 := by omega
  have HN := Lib.hid hn
  clear ha hn
  generalize ps.length = n at *
  have hm2 : n ≤ 1048576 := HN.out
  have HH := Lib.hid hh
  clear hh
  go_enter Try.func79, Try.ntmps79
  go_wp2
  go_loopw [1, 5] (fun l i wr => ∃ k : Nat, k ≤ n ∧ i = .int .i64 k ∧ l = .int .i64 (k0 + k * 2 : Nat) ∧ Hid (Wrote (fun b => lo ≤ b ∧ b < hi) w wr ∧ HalfOf (Value.int .i64) (fun i => (k0 : Int) + (i : Nat)) lo hi wr a (2 * n) (k * 2))) (fun _ i _ => n - (intOf i).toNat)
  case atStart => exact ⟨0, Nat.zero_le _, rfl, by simp, .refl _ _, by rw [Nat.zero_mul]; exact HH.out⟩
  case round =>
    obtain ⟨k, hk, rfl, rfl, HW⟩ := hrel
    by_cases hlt : k < n
    · obtain ⟨b, o, v, rfl, h2, h3, h4, _, h6⟩ := HW.out.2 (k * 2) (by omega)
      obtain ⟨b', o', v', e, _, _, h4', _, h6'⟩ := HW.out.2 (k * 2 + 1) (by omega)
      cases e
      have hk0 : (0 : Int) ≤ (k : Int) := by omega
      have hlt' : (k : Int) < (n : Int) := by omega
      rw [← Nat.add_assoc] at h4' h6'
      have hn1 := (HW.out.2.next (by omega)).next (by omega)
      rw [← Nat.add_assoc] at hn1
      have H1 : Hid (Wrote (fun b => lo ≤ b ∧ b < hi) w ((wr.setCell ⟨b, o + k * 2, none⟩ (.int .i64 ((k0 : Int) + ((k * 2 : Nat) : Int)))).setCell ⟨b, o + k * 2 + 1, none⟩ (.int .i64 ((k0 : Int) + ((k * 2 + 1 : Nat) : Int)))) ∧
          HalfOf (Value.int .i64) (fun i => (k0 : Int) + (i : Nat)) lo hi ((wr.setCell ⟨b, o + k * 2, none⟩ (.int .i64 ((k0 : Int) + ((k * 2 : Nat) : Int)))).setCell ⟨b, o + k * 2 + 1, none⟩ (.int .i64 ((k0 : Int) + ((k * 2 + 1 : Nat) : Int)))) (some ⟨b, o, none⟩) (2 * n) ((k + 1) * 2)) := by
        refine ⟨(HW.out.1.setCell ⟨h2, h3⟩ _).setCell ⟨h2, h3⟩ _, ?_⟩
        rw [show (k + 1) * 2 = k * 2 + 1 + 1 by omega]
        exact hn1
      have e1 : ((k0 : Int) + ((k * 2 : Nat) : Int)) = ((k0 + k * 2 : Nat) : Int) := by omega
      have e2 : ((k0 : Int) + ((k * 2 + 1 : Nat) : Int)) = ((k0 + k * 2 : Nat) : Int) + 1 := by omega
      rw [e1, e2] at H1
      clear hn1 e1 e2
      go_wp2
      go_roundw
      case rel => exact ⟨k + 1, by omega, by go_num, by go_num, H1.out⟩
      case measure => simp [intOf]; omega
    · have : k = n := by omega
      subst this
      go_wp2
      go_ret
      refine ⟨ret_int (by omega), HW.out.1, ?_⟩
      have h5 := HW.out.2
      rw [Nat.mul_comm k 2] at h5
      have := h5.done 0
      simpa [marksI] using this
set_option maxHeartbeats 400000 in
theorem markElement4_ok (a : Option Addr) (c : Nat) (s : List (Int × Int)) (k0 lo hi : Nat) (w : World) (hn : PairBnd s) (h1 : k0 ≤ 4194304) (ha : OwnP lo hi w a s) :
    Calls Try.prog 24 #[.agg #[.slice a s.length c], .int .i64 k0] w fun e w' => e = .returned (.int .i64 (k0 + 2 * s.length : Nat)) ∧ Wrote (fun b => lo ≤ b ∧ b < hi) w w' ∧ OwnOf (Value.int .i64) 0 lo hi w' a (marksI k0 (2 * s.length)) := by
  have HA := Lib.hid ha
  have HN := Lib.hid hn
  have hm2 : s.length ≤ 1048576 := hn
  clear ha hn
  go_enter Try.func24, Try.ntmps24
  go_wp2_with fail
  refine (markSpotS4_any _ _ s k0 lo hi _ HN.out h1 (HA.out.ext (by repeat (first | exact World.Ext.refl _ | exact ⟨_, rfl⟩ | assumption | refine World.Ext.over ?_ _ | refine World.Ext.drewN ?_ _ | refine World.Ext.drew ?_ | refine World.Ext.alloc ?_ _ | refine World.Ext.setCell ?_ (by simp) _)))).mono ?_
  rintro e w' ⟨rfl, hw, ho⟩
  have HW : Hid (Wrote (fun b => lo ≤ b ∧ b < hi) w w') := ((World.Ext.wrote (by repeat (first | exact World.Ext.refl _ | exact ⟨_, rfl⟩ | assumption | refine World.Ext.over ?_ _ | refine World.Ext.drewN ?_ _ | refine World.Ext.drew ?_ | refine World.Ext.alloc ?_ _ | refine World.Ext.setCell ?_ (by simp) _)) _).trans hw)
  have HO := Lib.hid ho
  clear hw ho
  go_wp2
  go_ret
  exact ⟨rfl, HW.out, HO.out⟩
end Go.Proofs.Ytpploijlijnahaa
