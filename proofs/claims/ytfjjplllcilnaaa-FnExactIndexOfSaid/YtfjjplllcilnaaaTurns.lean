/- The curve by turns: the reference's recursion. -/
import Derived.Test.YtfjjplllcilnaaaBoxWalk
namespace Go.Proofs.Ytfjjplllcilnaaa
open Go.RowKit
def tz : Nat → Int → Int → Int
  | 0, _, _ => 0
  | k + 1, x, y =>
    if x < 2 ^ k ∧ y < 2 ^ k then tz k y x
    else if x < 2 ^ k then 2 ^ k * 2 ^ k + tz k x (y - 2 ^ k)
    else if 2 ^ k ≤ y then 2 * (2 ^ k * 2 ^ k) + tz k (x - 2 ^ k) (y - 2 ^ k)
    else 3 * (2 ^ k * 2 ^ k) + tz k (2 ^ k - 1 - y) (2 * 2 ^ k - 1 - x)
theorem tz_bd : ∀ (k : Nat) (x y : Int), 0 ≤ x → x < 2 ^ k → 0 ≤ y → y < 2 ^ k → 0 ≤ tz k x y ∧ tz k x y < 2 ^ k * 2 ^ k
  | 0, _, _, _, _, _, _ => by simp [tz]
  | k + 1, x, y, h0, h1, h2, h3 => by
    have e : (2 : Int) ^ (k + 1) = 2 * 2 ^ k := by rw [Int.pow_succ]; omega
    rw [e] at h1 h3 ⊢
    have hp : (2 : Int) * 2 ^ k * (2 * 2 ^ k) = 4 * (2 ^ k * 2 ^ k) := by
      rw [Int.mul_assoc, Int.mul_left_comm (2 ^ k) 2, ← Int.mul_assoc]; rfl
    rw [hp]
    unfold tz
    generalize hP : (2 : Int) ^ k * 2 ^ k = P
    split
    · have := tz_bd k y x h2 (by omega) h0 (by omega); omega
    · split
      · have := tz_bd k x (y - 2 ^ k) h0 (by omega) (by omega) (by omega); omega
      · split
        · have := tz_bd k (x - 2 ^ k) (y - 2 ^ k) (by omega) (by omega) (by omega) (by omega); omega
        · have := tz_bd k (2 ^ k - 1 - y) (2 * 2 ^ k - 1 - x) (by omega) (by omega) (by omega) (by omega); omega
theorem side_pow (k : Nat) (h : k ≤ 4) : sideZ k = 2 ^ k := by
  rcases k with _ | _ | _ | _ | _ | k <;> first | rfl | omega
set_option maxHeartbeats 400000 in
theorem l08Turns_any (k : Nat) : ∀ (n x y : Int) (w : World), n = k → k ≤ 4 → 0 ≤ x → x < 2 ^ k → 0 ≤ y → y < 2 ^ k →
    Calls Try.prog 93 #[.int .i64 n, .int .i64 x, .int .i64 y] w fun e w' => e = .returned (.int .i64 (tz k x y)) ∧ w.Ext w' := by
  induction k with
  | zero =>
    intro n x y w hn _ _ _ _ _
    subst hn
    go_enter Try.func93, Try.ntmps93
    go_wp2_with fail
    go_ret
    refine ⟨rfl, ?_⟩
    repeat (first | exact World.Ext.refl _ | exact ⟨_, rfl⟩ | assumption | refine World.Ext.over ?_ _ | refine World.Ext.drewN ?_ _ | refine World.Ext.drew ?_ | refine World.Ext.alloc ?_ _ | refine World.Ext.setCell ?_ (by simp) _)
  | succ k ih =>
    intro n x y w hn hk h0 h1 h2 h3
    have e : (2 : Int) ^ (k + 1) = 2 * 2 ^ k := by rw [Int.pow_succ]; omega
    rw [e] at h1 h3
    have hn1 : n - 1 = (k : Int) := by omega
    have hs : sideZ (n - 1) = 2 ^ k := by rw [hn1]; exact side_pow k (by omega)
    have hlo : (1 : Int) ≤ 2 ^ k := by rw [← hs]; exact (sideZ_bd _).1
    have hhi : (2 : Int) ^ k ≤ 16 := by rw [← hs]; exact (sideZ_bd _).2
    have hP0 : 0 ≤ (2 : Int) ^ k * 2 ^ k := Int.mul_nonneg (by omega) (by omega)
    have hP1 : (2 : Int) ^ k * 2 ^ k ≤ 16 * 16 := Int.mul_le_mul hhi hhi (by omega) (by omega)
    have hne : (n == 0) = false := by simp; omega
    have hn0 : 0 ≤ n - 1 := by omega
    have hn4 : n - 1 ≤ 4 := by omega
    have IH := Lib.hid ih
    clear ih
    unfold tz
    generalize hS : (2 : Int) ^ k = S at *
    have HS := Lib.hid hs; clear hs
    have HN := Lib.hid hn; clear hn
    have HN1 := Lib.hid hn1; clear hn1
    have HE := Lib.hid hS; clear hS e
    by_cases c1 : x < S
    · by_cases c2 : y < S
      · rw [if_pos ⟨c1, c2⟩]
        go_enter Try.func93, Try.ntmps93
        go_wp2_with (first | (go_at_call 47; refine (side_any _ hn0 hn4 _).mono ?_; rintro e w' ⟨rfl, x1, rfl⟩; rw [HS.out]) | (go_at_call 93; refine (IH.out _ _ _ _ HN1.out (by omega) h2 (by omega) h0 (by omega)).mono ?_; rintro e w' ⟨rfl, x1, rfl⟩))
        go_ret
        refine ⟨rfl, ?_⟩
        repeat (first | exact World.Ext.refl _ | exact ⟨_, rfl⟩ | assumption | refine World.Ext.over ?_ _ | refine World.Ext.drewN ?_ _ | refine World.Ext.drew ?_ | refine World.Ext.alloc ?_ _ | refine World.Ext.setCell ?_ (by simp) _)
      · have b := tz_bd k x (y - S) h0 (by rw [HE.out]; omega) (by omega) (by rw [HE.out]; omega)
        rw [HE.out] at b
        rw [if_neg (by omega), if_pos c1]
        go_enter Try.func93, Try.ntmps93
        go_wp2_with (first | (go_at_call 47; refine (side_any _ hn0 hn4 _).mono ?_; rintro e w' ⟨rfl, x1, rfl⟩; rw [HS.out]) | (go_at_call 93; refine (IH.out _ _ _ _ HN1.out (by omega) h0 (by omega) (by omega) (by omega)).mono ?_; rintro e w' ⟨rfl, x1, rfl⟩))
        go_ret
        refine ⟨rfl, ?_⟩
        repeat (first | exact World.Ext.refl _ | exact ⟨_, rfl⟩ | assumption | refine World.Ext.over ?_ _ | refine World.Ext.drewN ?_ _ | refine World.Ext.drew ?_ | refine World.Ext.alloc ?_ _ | refine World.Ext.setCell ?_ (by simp) _)
    · by_cases c2 : S ≤ y
      · have b := tz_bd k (x - S) (y - S) (by omega) (by rw [HE.out]; omega) (by omega) (by rw [HE.out]; omega)
        rw [HE.out] at b
        rw [if_neg (by omega), if_neg c1, if_pos c2]
        go_enter Try.func93, Try.ntmps93
        go_wp2_with (first | (go_at_call 47; refine (side_any _ hn0 hn4 _).mono ?_; rintro e w' ⟨rfl, x1, rfl⟩; rw [HS.out]) | (go_at_call 93; refine (IH.out _ _ _ _ HN1.out (by omega) (by omega) (by omega) (by omega) (by omega)).mono ?_; rintro e w' ⟨rfl, x1, rfl⟩))
        go_ret
        refine ⟨rfl, ?_⟩
        repeat (first | exact World.Ext.refl _ | exact ⟨_, rfl⟩ | assumption | refine World.Ext.over ?_ _ | refine World.Ext.drewN ?_ _ | refine World.Ext.drew ?_ | refine World.Ext.alloc ?_ _ | refine World.Ext.setCell ?_ (by simp) _)
      · have b := tz_bd k (S - 1 - y) (2 * S - 1 - x) (by omega) (by rw [HE.out]; omega) (by omega) (by rw [HE.out]; omega)
        rw [HE.out] at b
        rw [if_neg (by omega), if_neg c1, if_neg c2]
        go_enter Try.func93, Try.ntmps93
        go_wp2_with (first | (go_at_call 47; refine (side_any _ hn0 hn4 _).mono ?_; rintro e w' ⟨rfl, x1, rfl⟩; rw [HS.out]) | (go_at_call 93; refine (IH.out _ _ _ _ HN1.out (by omega) (by omega) (by omega) (by omega) (by omega)).mono ?_; rintro e w' ⟨rfl, x1, rfl⟩))
        go_ret
        refine ⟨rfl, ?_⟩
        repeat (first | exact World.Ext.refl _ | exact ⟨_, rfl⟩ | assumption | refine World.Ext.over ?_ _ | refine World.Ext.drewN ?_ _ | refine World.Ext.drew ?_ | refine World.Ext.alloc ?_ _ | refine World.Ext.setCell ?_ (by simp) _)
end Go.Proofs.Ytfjjplllcilnaaa
