/- The curve by turns: the program. -/
import Derived.Test.YtfjjplllcilnaaaTurns
namespace Go.Proofs.Ytfjjplllcilnaaa
open Go.RowKit
theorem ret_int {k : IntKind} {a b : Int} (h : a = b) : Ending.returned (.int k a) = .returned (.int k b) := by rw [h]
theorem wrap_tz {k : Nat} {c c' A B A' B' : Int} (hc : c = c') (hA : A = A') (hB : B = B') (h0 : 0 ≤ c' + tz k A' B') (h1 : c' + tz k A' B' < 1000) : wrap64 (c + tz k A B) = c' + tz k A' B' := by
  subst hc hA hB
  exact IntWalk.wrap64_in _ ⟨by omega, by omega⟩
set_option maxHeartbeats 400000 in
theorem turnsIndex_any (k : Nat) : ∀ (n x y : Int) (w : World), n = k → k ≤ 4 → 0 ≤ x → x < 2 ^ k → 0 ≤ y → y < 2 ^ k →
    Calls Try.prog 94 #[.int .i64 n, .int .i64 x, .int .i64 y] w fun e w' => e = .returned (.int .i64 (tz k x y)) ∧ w.Ext w' := by
  induction k with
  | zero =>
    intro n x y w hn _ _ _ _ _
    subst hn
    go_enter Try.func94, Try.ntmps94
    go_wp2_with fail
    go_ret
    refine ⟨rfl, ?_⟩
    repeat (first | exact World.Ext.refl _ | exact ⟨_, rfl⟩ | assumption | refine World.Ext.over ?_ _ | refine World.Ext.drewN ?_ _ | refine World.Ext.drew ?_ | refine World.Ext.alloc ?_ _ | refine World.Ext.setCell ?_ (by simp) _)
  | succ k ih =>
    intro n x y w hn hk h0 h1 h2 h3
    obtain ⟨S, hS, hk'⟩ : ∃ S : Int, (2 : Int) ^ k = S ∧ (k = 0 ∧ S = 1 ∨ k = 1 ∧ S = 2 ∨ k = 2 ∧ S = 4 ∨ k = 3 ∧ S = 8) := by
      refine ⟨_, rfl, ?_⟩
      rcases k with _ | _ | _ | _ | k <;> simp <;> omega
    have e : (2 : Int) ^ (k + 1) = 2 * S := by rw [Int.pow_succ, hS]; omega
    rw [e] at h1 h3
    have IH := Lib.hid ih
    clear ih e
    unfold tz
    rw [hS]
    have HE := Lib.hid hS; clear hS
    rcases hk' with ⟨rfl, rfl⟩ | ⟨rfl, rfl⟩ | ⟨rfl, rfl⟩ | ⟨rfl, rfl⟩
    · have hn' : n = 1 := by omega
      clear hn
      subst hn'
      by_cases c1 : x < 1
      · by_cases c2 : y < 1
        · rw [if_pos ⟨c1, c2⟩]
          go_enter Try.func94, Try.ntmps94
          go_wp2_with (go_at_call 94; refine (IH.out _ _ _ _ rfl (by omega) h2 (by omega) h0 (by omega)).mono ?_; rintro e w' ⟨rfl, x1, rfl⟩)
          go_ret
          refine ⟨rfl, ?_⟩
          repeat (first | exact World.Ext.refl _ | exact ⟨_, rfl⟩ | assumption | refine World.Ext.over ?_ _ | refine World.Ext.drewN ?_ _ | refine World.Ext.drew ?_ | refine World.Ext.alloc ?_ _ | refine World.Ext.setCell ?_ (by simp) _)
        · have b := tz_bd 0 x (y - 1) h0 (by omega) (by omega) (by omega)
          rw [HE.out] at b
          rw [if_neg (by omega), if_pos c1]
          go_enter Try.func94, Try.ntmps94
          go_wp2_with (go_at_call 94; refine (IH.out _ _ _ _ rfl (by omega) h0 (by omega) (by omega) (by omega)).mono ?_; rintro e w' ⟨rfl, x1, rfl⟩)
          go_ret
          refine ⟨rfl, ?_⟩
          repeat (first | exact World.Ext.refl _ | exact ⟨_, rfl⟩ | assumption | refine World.Ext.over ?_ _ | refine World.Ext.drewN ?_ _ | refine World.Ext.drew ?_ | refine World.Ext.alloc ?_ _ | refine World.Ext.setCell ?_ (by simp) _)
      · by_cases c2 : 1 ≤ y
        · have b := tz_bd 0 (x - 1) (y - 1) (by omega) (by omega) (by omega) (by omega)
          rw [HE.out] at b
          rw [if_neg (by omega), if_neg c1, if_pos c2]
          go_enter Try.func94, Try.ntmps94
          go_wp2_with (go_at_call 94; refine (IH.out _ _ _ _ rfl (by omega) (by omega) (by omega) (by omega) (by omega)).mono ?_; rintro e w' ⟨rfl, x1, rfl⟩)
          go_ret
          refine ⟨rfl, ?_⟩
          repeat (first | exact World.Ext.refl _ | exact ⟨_, rfl⟩ | assumption | refine World.Ext.over ?_ _ | refine World.Ext.drewN ?_ _ | refine World.Ext.drew ?_ | refine World.Ext.alloc ?_ _ | refine World.Ext.setCell ?_ (by simp) _)
        · have b := tz_bd 0 (1 - 1 - y) (2 * 1 - 1 - x) (by omega) (by omega) (by omega) (by omega)
          rw [HE.out] at b
          rw [if_neg (by omega), if_neg c1, if_neg c2]
          go_enter Try.func94, Try.ntmps94
          go_wp2_with (go_at_call 94; refine (IH.out _ _ _ _ rfl (by omega) (by omega) (by omega) (by omega) (by omega)).mono ?_; rintro e w' ⟨rfl, x1, rfl⟩)
          go_ret
          refine ⟨ret_int (wrap_tz rfl (by omega) (by omega) (by omega) (by omega)), ?_⟩
          repeat (first | exact World.Ext.refl _ | exact ⟨_, rfl⟩ | assumption | refine World.Ext.over ?_ _ | refine World.Ext.drewN ?_ _ | refine World.Ext.drew ?_ | refine World.Ext.alloc ?_ _ | refine World.Ext.setCell ?_ (by simp) _)
    · have hn' : n = 2 := by omega
      clear hn
      subst hn'
      by_cases c1 : x < 2
      · by_cases c2 : y < 2
        · rw [if_pos ⟨c1, c2⟩]
          go_enter Try.func94, Try.ntmps94
          go_wp2_with (go_at_call 94; refine (IH.out _ _ _ _ rfl (by omega) h2 (by omega) h0 (by omega)).mono ?_; rintro e w' ⟨rfl, x1, rfl⟩)
          go_ret
          refine ⟨rfl, ?_⟩
          repeat (first | exact World.Ext.refl _ | exact ⟨_, rfl⟩ | assumption | refine World.Ext.over ?_ _ | refine World.Ext.drewN ?_ _ | refine World.Ext.drew ?_ | refine World.Ext.alloc ?_ _ | refine World.Ext.setCell ?_ (by simp) _)
        · have b := tz_bd 1 x (y - 2) h0 (by omega) (by omega) (by omega)
          rw [HE.out] at b
          rw [if_neg (by omega), if_pos c1]
          go_enter Try.func94, Try.ntmps94
          go_wp2_with (go_at_call 94; refine (IH.out _ _ _ _ rfl (by omega) h0 (by omega) (by omega) (by omega)).mono ?_; rintro e w' ⟨rfl, x1, rfl⟩)
          go_ret
          refine ⟨rfl, ?_⟩
          repeat (first | exact World.Ext.refl _ | exact ⟨_, rfl⟩ | assumption | refine World.Ext.over ?_ _ | refine World.Ext.drewN ?_ _ | refine World.Ext.drew ?_ | refine World.Ext.alloc ?_ _ | refine World.Ext.setCell ?_ (by simp) _)
      · by_cases c2 : 2 ≤ y
        · have b := tz_bd 1 (x - 2) (y - 2) (by omega) (by omega) (by omega) (by omega)
          rw [HE.out] at b
          rw [if_neg (by omega), if_neg c1, if_pos c2]
          go_enter Try.func94, Try.ntmps94
          go_wp2_with (go_at_call 94; refine (IH.out _ _ _ _ rfl (by omega) (by omega) (by omega) (by omega) (by omega)).mono ?_; rintro e w' ⟨rfl, x1, rfl⟩)
          go_ret
          refine ⟨rfl, ?_⟩
          repeat (first | exact World.Ext.refl _ | exact ⟨_, rfl⟩ | assumption | refine World.Ext.over ?_ _ | refine World.Ext.drewN ?_ _ | refine World.Ext.drew ?_ | refine World.Ext.alloc ?_ _ | refine World.Ext.setCell ?_ (by simp) _)
        · have b := tz_bd 1 (2 - 1 - y) (2 * 2 - 1 - x) (by omega) (by omega) (by omega) (by omega)
          rw [HE.out] at b
          rw [if_neg (by omega), if_neg c1, if_neg c2]
          go_enter Try.func94, Try.ntmps94
          go_wp2_with (go_at_call 94; refine (IH.out _ _ _ _ rfl (by omega) (by omega) (by omega) (by omega) (by omega)).mono ?_; rintro e w' ⟨rfl, x1, rfl⟩)
          go_ret
          refine ⟨ret_int (wrap_tz rfl (by omega) (by omega) (by omega) (by omega)), ?_⟩
          repeat (first | exact World.Ext.refl _ | exact ⟨_, rfl⟩ | assumption | refine World.Ext.over ?_ _ | refine World.Ext.drewN ?_ _ | refine World.Ext.drew ?_ | refine World.Ext.alloc ?_ _ | refine World.Ext.setCell ?_ (by simp) _)
    · have hn' : n = 3 := by omega
      clear hn
      subst hn'
      by_cases c1 : x < 4
      · by_cases c2 : y < 4
        · rw [if_pos ⟨c1, c2⟩]
          go_enter Try.func94, Try.ntmps94
          go_wp2_with (go_at_call 94; refine (IH.out _ _ _ _ rfl (by omega) h2 (by omega) h0 (by omega)).mono ?_; rintro e w' ⟨rfl, x1, rfl⟩)
          go_ret
          refine ⟨rfl, ?_⟩
          repeat (first | exact World.Ext.refl _ | exact ⟨_, rfl⟩ | assumption | refine World.Ext.over ?_ _ | refine World.Ext.drewN ?_ _ | refine World.Ext.drew ?_ | refine World.Ext.alloc ?_ _ | refine World.Ext.setCell ?_ (by simp) _)
        · have b := tz_bd 2 x (y - 4) h0 (by omega) (by omega) (by omega)
          rw [HE.out] at b
          rw [if_neg (by omega), if_pos c1]
          go_enter Try.func94, Try.ntmps94
          go_wp2_with (go_at_call 94; refine (IH.out _ _ _ _ rfl (by omega) h0 (by omega) (by omega) (by omega)).mono ?_; rintro e w' ⟨rfl, x1, rfl⟩)
          go_ret
          refine ⟨rfl, ?_⟩
          repeat (first | exact World.Ext.refl _ | exact ⟨_, rfl⟩ | assumption | refine World.Ext.over ?_ _ | refine World.Ext.drewN ?_ _ | refine World.Ext.drew ?_ | refine World.Ext.alloc ?_ _ | refine World.Ext.setCell ?_ (by simp) _)
      · by_cases c2 : 4 ≤ y
        · have b := tz_bd 2 (x - 4) (y - 4) (by omega) (by omega) (by omega) (by omega)
          rw [HE.out] at b
          rw [if_neg (by omega), if_neg c1, if_pos c2]
          go_enter Try.func94, Try.ntmps94
          go_wp2_with (go_at_call 94; refine (IH.out _ _ _ _ rfl (by omega) (by omega) (by omega) (by omega) (by omega)).mono ?_; rintro e w' ⟨rfl, x1, rfl⟩)
          go_ret
          refine ⟨rfl, ?_⟩
          repeat (first | exact World.Ext.refl _ | exact ⟨_, rfl⟩ | assumption | refine World.Ext.over ?_ _ | refine World.Ext.drewN ?_ _ | refine World.Ext.drew ?_ | refine World.Ext.alloc ?_ _ | refine World.Ext.setCell ?_ (by simp) _)
        · have b := tz_bd 2 (4 - 1 - y) (2 * 4 - 1 - x) (by omega) (by omega) (by omega) (by omega)
          rw [HE.out] at b
          rw [if_neg (by omega), if_neg c1, if_neg c2]
          go_enter Try.func94, Try.ntmps94
          go_wp2_with (go_at_call 94; refine (IH.out _ _ _ _ rfl (by omega) (by omega) (by omega) (by omega) (by omega)).mono ?_; rintro e w' ⟨rfl, x1, rfl⟩)
          go_ret
          refine ⟨ret_int (wrap_tz rfl (by omega) (by omega) (by omega) (by omega)), ?_⟩
          repeat (first | exact World.Ext.refl _ | exact ⟨_, rfl⟩ | assumption | refine World.Ext.over ?_ _ | refine World.Ext.drewN ?_ _ | refine World.Ext.drew ?_ | refine World.Ext.alloc ?_ _ | refine World.Ext.setCell ?_ (by simp) _)
    · have hn' : n = 4 := by omega
      clear hn
      subst hn'
      by_cases c1 : x < 8
      · by_cases c2 : y < 8
        · rw [if_pos ⟨c1, c2⟩]
          go_enter Try.func94, Try.ntmps94
          go_wp2_with (go_at_call 94; refine (IH.out _ _ _ _ rfl (by omega) h2 (by omega) h0 (by omega)).mono ?_; rintro e w' ⟨rfl, x1, rfl⟩)
          go_ret
          refine ⟨rfl, ?_⟩
          repeat (first | exact World.Ext.refl _ | exact ⟨_, rfl⟩ | assumption | refine World.Ext.over ?_ _ | refine World.Ext.drewN ?_ _ | refine World.Ext.drew ?_ | refine World.Ext.alloc ?_ _ | refine World.Ext.setCell ?_ (by simp) _)
        · have b := tz_bd 3 x (y - 8) h0 (by omega) (by omega) (by omega)
          rw [HE.out] at b
          rw [if_neg (by omega), if_pos c1]
          go_enter Try.func94, Try.ntmps94
          go_wp2_with (go_at_call 94; refine (IH.out _ _ _ _ rfl (by omega) h0 (by omega) (by omega) (by omega)).mono ?_; rintro e w' ⟨rfl, x1, rfl⟩)
          go_ret
          refine ⟨rfl, ?_⟩
          repeat (first | exact World.Ext.refl _ | exact ⟨_, rfl⟩ | assumption | refine World.Ext.over ?_ _ | refine World.Ext.drewN ?_ _ | refine World.Ext.drew ?_ | refine World.Ext.alloc ?_ _ | refine World.Ext.setCell ?_ (by simp) _)
      · by_cases c2 : 8 ≤ y
        · have b := tz_bd 3 (x - 8) (y - 8) (by omega) (by omega) (by omega) (by omega)
          rw [HE.out] at b
          rw [if_neg (by omega), if_neg c1, if_pos c2]
          go_enter Try.func94, Try.ntmps94
          go_wp2_with (go_at_call 94; refine (IH.out _ _ _ _ rfl (by omega) (by omega) (by omega) (by omega) (by omega)).mono ?_; rintro e w' ⟨rfl, x1, rfl⟩)
          go_ret
          refine ⟨rfl, ?_⟩
          repeat (first | exact World.Ext.refl _ | exact ⟨_, rfl⟩ | assumption | refine World.Ext.over ?_ _ | refine World.Ext.drewN ?_ _ | refine World.Ext.drew ?_ | refine World.Ext.alloc ?_ _ | refine World.Ext.setCell ?_ (by simp) _)
        · have b := tz_bd 3 (8 - 1 - y) (2 * 8 - 1 - x) (by omega) (by omega) (by omega) (by omega)
          rw [HE.out] at b
          rw [if_neg (by omega), if_neg c1, if_neg c2]
          go_enter Try.func94, Try.ntmps94
          go_wp2_with (go_at_call 94; refine (IH.out _ _ _ _ rfl (by omega) (by omega) (by omega) (by omega) (by omega)).mono ?_; rintro e w' ⟨rfl, x1, rfl⟩)
          go_ret
          refine ⟨ret_int (wrap_tz rfl (by omega) (by omega) (by omega) (by omega)), ?_⟩
          repeat (first | exact World.Ext.refl _ | exact ⟨_, rfl⟩ | assumption | refine World.Ext.over ?_ _ | refine World.Ext.drewN ?_ _ | refine World.Ext.drew ?_ | refine World.Ext.alloc ?_ _ | refine World.Ext.setCell ?_ (by simp) _)
end Go.Proofs.Ytfjjplllcilnaaa
