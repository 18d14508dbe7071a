/- Helpers of the laws: tables of one shape, tables and pictures that are the same. -/
import Derived.Test.YtkpgelhmeokemaaGreatDoorGenC
namespace Go.Proofs.YtkpgelhmeokemaaGreatDoor
open Go Go.RowKit
set_option maxHeartbeats 800000 in
theorem b10Nums_true (a b : Option Addr) (c c' : Nat) (xs : List Int) (w : World) (hn : xs.length ≤ 1000000) (ha : RowI w a xs) (hb : RowI w b xs) :
    Calls Tryz.prog 36 #[.slice a xs.length c, .slice b xs.length c'] w fun e w' => e = .returned (.bool true) ∧ w.Ext w' := by
  have HA := Lib.hid ha
  have HB := Lib.hid hb
  clear ha hb
  go_enter Tryz.func36, Tryz.ntmps36
  go_wp2
  go_loopw [5] (fun i wr => ∃ k : Nat, k ≤ xs.length ∧ i = .int .i64 k ∧ Hid (w.Ext wr)) (fun i _ => xs.length - (intOf i).toNat)
  case atStart => exact ⟨0, Nat.zero_le _, rfl, .refl _⟩
  case round =>
    obtain ⟨k, hk, rfl, HX⟩ := hrel
    by_cases hlt : k < xs.length
    · have hlt' : (k : Int) < (xs.length : Int) := by omega
      have hk0 : (0 : Int) ≤ (k : Int) := by omega
      obtain ⟨b1, o1, rfl, hc1⟩ := (RowOf.ext HA.out HX.out) k hlt
      obtain ⟨b2, o2, rfl, hc2⟩ := (RowOf.ext HB.out HX.out) k hlt
      generalize xs.getD k 0 = z at *
      go_wp2_with fail
      refine wp_region_over_lit (by kernel_rfl) (by kernel_rfl) ?_; (repeat (go_big_quiet_step (fail))); refine wpQuiet_nil ?_; rintro _ ⟨x1, rfl⟩
      have HX2 : Hid (w.Ext (wr.over x1)) := HX.out.trans ⟨x1, rfl⟩
      clear hc1 hc2
      go_wp2
      go_roundw
      case rel => exact ⟨k + 1, by omega, by go_num, HX2⟩
      case measure => simp [intOf]; omega
    · have : k = xs.length := by omega
      subst this
      go_wp2
      go_ret
      exact ⟨rfl, HX.out⟩
set_option maxHeartbeats 800000 in
theorem b10Tables_true (a b : Option Addr) (c c' : Nat) (A B : Nat → Option Addr) (C D : Nat → Nat) (m : List (List Int)) (w : World) (hn : m.length ≤ 1000000) (h0 : 0 < m.length) (hs : ∀ k, (m.getD k []).length ≤ 1000000) (ha : MatAt w a A C m) (hb : MatAt w b B D m) :
    Calls Tryz.prog 13 #[.slice a m.length c, .slice b m.length c'] w fun e w' => e = .returned (.bool true) ∧ w.Ext w' := by
  have HA := Lib.hid ha
  have HB := Lib.hid hb
  have HS := Lib.hid hs
  have h0' : (0 : Int) < (m.length : Int) := by omega
  clear ha hb hs
  go_enter Tryz.func13, Tryz.ntmps13
  go_wp2
  go_loopw [5] (fun i wr => ∃ k : Nat, k ≤ m.length ∧ i = .int .i64 k ∧ Hid (w.Ext wr)) (fun i _ => m.length - (intOf i).toNat)
  case atStart => exact ⟨0, Nat.zero_le _, rfl, .refl _⟩
  case round =>
    obtain ⟨k, hk, rfl, HX⟩ := hrel
    by_cases hlt : k < m.length
    · have hlt' : (k : Int) < (m.length : Int) := by omega
      have hk0 : (0 : Int) ≤ (k : Int) := by omega
      obtain ⟨⟨b1, o1, rfl, hc1⟩, hr1⟩ := (HA.out.ext HX.out) k hlt
      obtain ⟨⟨b2, o2, rfl, hc2⟩, hr2⟩ := (HB.out.ext HX.out) k hlt
      have HC : Hid (∀ x, Calls Tryz.prog 36 #[.slice (A k) (m.getD k []).length (C k), .slice (B k) (m.getD k []).length (D k)] (wr.over x) fun e w' => e = .returned (.bool true) ∧ (wr.over x).Ext w') := fun x =>
        b10Nums_true _ _ _ _ _ _ (HS.out k) (RowOf.ext hr1 ⟨_, rfl⟩) (RowOf.ext hr2 ⟨_, rfl⟩)
      clear hr1 hr2
      generalize (m.getD k []).length = z at *
      go_wp2_with fail
      refine wp_region_over_lit (by kernel_rfl) (by kernel_rfl) ?_; (repeat (go_big_quiet_step ((go_at_call 36; exact Calls.over_of (HC.out _))))); refine wpQuiet_nil ?_; rintro _ ⟨x1, rfl⟩
      have HX2 : Hid (w.Ext (wr.over x1)) := HX.out.trans ⟨x1, rfl⟩
      clear hc1 hc2
      go_wp2
      go_roundw
      case rel => exact ⟨k + 1, by omega, by go_num, HX2⟩
      case measure => simp [intOf]; omega
    · have : k = m.length := by omega
      subst this
      go_wp2
      go_ret
      exact ⟨rfl, HX.out⟩
end Go.Proofs.YtkpgelhmeokemaaGreatDoor
