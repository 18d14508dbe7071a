/- The marks of a list of spots. -/
import Derived.Test.YtlnklcjnjfmknaaLMat
namespace Go.Proofs.Ytlnklcjnjfmknaa
open Go.RowKit
set_option maxHeartbeats 800000 in
theorem heldSpotS_res (a : Option Addr) (c : Nat) (s : List (Int × Int)) (k0 : Nat) (w : World) (hn : s.length ≤ 262144) (h1 : k0 ≤ 2097152) (ha : RowI w a (marksI k0 (2 * s.length))) :
    Calls Try.prog 37 #[.slice a s.length c, .int .i64 k0] w fun e w' => e = .returned (.int .i64 (k0 + 2 * s.length : Nat)) ∧ w.Ext w' := by
  have HA := Lib.hid ha
  generalize s.length = n at *
  clear ha
  go_enter Try.func37, Try.ntmps37
  go_wp2
  go_loopw [1, 5] (fun l i wr => ∃ k : Nat, k ≤ n ∧ i = .int .i64 k ∧ l = .int .i64 (k0 + 2 * k : Nat) ∧ w.Ext wr) (fun _ i _ => n - (intOf i).toNat)
  case atStart => exact ⟨0, Nat.zero_le _, rfl, by simp, .refl _⟩
  case round =>
    obtain ⟨k, hk, rfl, rfl, hx⟩ := hrel
    by_cases hlt : k < n
    · obtain ⟨b, o, rfl, hc⟩ := (RowOf.ext HA.out hx) (2 * k) (by rw [marksI_len]; omega)
      obtain ⟨b', o', e', hc'⟩ := (RowOf.ext HA.out hx) (2 * k + 1) (by rw [marksI_len]; omega)
      simp only [Option.some.injEq, Addr.mk.injEq, and_true] at e'
      obtain ⟨rfl, rfl⟩ := e'
      rw [marksI_at _ _ _ (by omega), Nat.mul_comm 2 k] at hc hc'
      rw [← Nat.add_assoc] at hc'
      have hlt' : (k : Int) < (n : Int) := by omega
      have hk0 : (0 : Int) ≤ (k : Int) := by omega
      obtain ⟨m, hm⟩ : ∃ m : Nat, m = k0 + 2 * k := ⟨_, rfl⟩
      have e1 : (k0 : Int) + ((k * 2 : Nat) : Int) = (m : Int) := by omega
      have e2 : (k0 : Int) + ((k * 2 + 1 : Nat) : Int) = (m : Int) + 1 := by omega
      rw [e1] at hc
      rw [e2] at hc'
      rw [← hm]
      have hmb : (m : Int) ≤ 4194304 := by omega
      have HM := Lib.hid hm
      clear hm e1 e2
      go_wp2
      go_roundw
      case rel => exact ⟨k + 1, by omega, by go_num, by have := HM.out; congr 1; omega, hx⟩
      case measure => simp [intOf]; omega
    · have : k = n := by omega
      subst this
      go_wp2
      go_ret
      exact ⟨rfl, hx⟩
end Go.Proofs.Ytlnklcjnjfmknaa
