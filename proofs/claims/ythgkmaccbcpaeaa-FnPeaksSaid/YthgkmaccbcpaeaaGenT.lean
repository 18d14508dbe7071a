/- Helpers of the laws: tables of one shape, tables and pictures that are the same. -/
import Derived.Test.YthgkmaccbcpaeaaGenC
namespace Go.Proofs.Ythgkmaccbcpaeaa
open Go Go.RowKit
set_option maxHeartbeats 800000 in
theorem b10Shape_true (a b : Option Addr) (c c' : Nat) (A B : Nat → Option Addr) (C D : Nat → Nat) (m m' : List (List Int)) (w : World) (hn : m.length ≤ 1000000) (h0 : 0 < m.length) (hl : m.length = m'.length) (hs : ∀ k, k < m.length → (m.getD k []).length = (m'.getD k []).length) (ha : MatAt w a A C m) (hb : MatAt w b B D m') :
    Calls Try.prog 62 #[.slice a m.length c, .slice b m'.length c'] w fun e w' => e = .returned (.bool true) ∧ w.Ext w' := by
  have HA := Lib.hid ha
  have HB := Lib.hid hb
  have HL := Lib.hid hl
  have HS := Lib.hid hs
  have h0' : (0 : Int) < (m.length : Int) := by omega
  rw [← hl]
  clear ha hb hl hs
  go_enter Try.func62, Try.ntmps62
  go_wp2
  go_loopw [5] (fun i wr => ∃ k : Nat, k ≤ m.length ∧ i = .int .i64 k ∧ Hid (w.Ext wr)) (fun i _ => m.length - (intOf i).toNat)
  case atStart => exact ⟨0, Nat.zero_le _, rfl, .refl _⟩
  case round =>
    obtain ⟨k, hk, rfl, HX⟩ := hrel
    by_cases hlt : k < m.length
    · have hlt' : (k : Int) < (m.length : Int) := by omega
      have hk0 : (0 : Int) ≤ (k : Int) := by omega
      obtain ⟨⟨b1, o1, rfl, hc1⟩, -⟩ := (HA.out.ext HX.out) k hlt
      obtain ⟨⟨b2, o2, rfl, hc2⟩, -⟩ := (HB.out.ext HX.out) k (by rw [← HL.out]; exact hlt)
      rw [← HS.out k hlt] at hc2
      generalize (m.getD k []).length = z at *
      go_wp2_with fail
      refine wp_region_over_lit (by kernel_rfl) (by kernel_rfl) ?_; (repeat (go_big_quiet_step (fail))); refine wpQuiet_nil ?_; rintro _ ⟨x1, rfl⟩
      have HX2 : Hid (w.Ext (wr.over x1)) := HX.out.trans ⟨x1, rfl⟩
      clear hc1 hc2
      go_wp2
      go_roundw
      case rel => exact ⟨k + 1, by omega, by go_num, HX2⟩
      case measure => simp [intOf]; omega
    · have : k = m.length := by omega
      subst this
      go_wp2
      go_ret
      exact ⟨rfl, HX.out⟩
set_option maxHeartbeats 800000 in
theorem b10Nums_true (a b : Option Addr) (c c' : Nat) (xs : List Int) (w : World) (hn : xs.length ≤ 1000000) (ha : RowI w a xs) (hb : RowI w b xs) :
    Calls Try.prog 158 #[.slice a xs.length c, .slice b xs.length c'] w fun e w' => e = .returned (.bool true) ∧ w.Ext w' := by
  have HA := Lib.hid ha
  have HB := Lib.hid hb
  clear ha hb
  go_enter Try.func158, Try.ntmps158
  go_wp2
  go_loopw [5] (fun i wr => ∃ k : Nat, k ≤ xs.length ∧ i = .int .i64 k ∧ Hid (w.Ext wr)) (fun i _ => xs.length - (intOf i).toNat)
  case atStart => exact ⟨0, Nat.zero_le _, rfl, .refl _⟩
  case round =>
    obtain ⟨k, hk, rfl, HX⟩ := hrel
    by_cases hlt : k < xs.length
    · have hlt' : (k : Int) < (xs.length : Int) := by omega
      have hk0 : (0 : Int) ≤ (k : Int) := by omega
      obtain ⟨b1, o1, rfl, hc1⟩ := (RowOf.ext HA.out HX.out) k hlt
      obtain ⟨b2, o2, rfl, hc2⟩ := (RowOf.ext HB.out HX.out) k hlt
      generalize xs.getD k 0 = z at *
      go_wp2_with fail
      refine wp_region_over_lit (by kernel_rfl) (by kernel_rfl) ?_; (repeat (go_big_quiet_step (fail))); refine wpQuiet_nil ?_; rintro _ ⟨x1, rfl⟩
      have HX2 : Hid (w.Ext (wr.over x1)) := HX.out.trans ⟨x1, rfl⟩
      clear hc1 hc2
      go_wp2
      go_roundw
      case rel => exact ⟨k + 1, by omega, by go_num, HX2⟩
      case measure => simp [intOf]; omega
    · have : k = xs.length := by omega
      subst this
      go_wp2
      go_ret
      exact ⟨rfl, HX.out⟩
set_option maxHeartbeats 800000 in
theorem b10Tables_true (a b : Option Addr) (c c' : Nat) (A B : Nat → Option Addr) (C D : Nat → Nat) (m : List (List Int)) (w : World) (hn : m.length ≤ 1000000) (h0 : 0 < m.length) (hs : ∀ k, (m.getD k []).length ≤ 1000000) (ha : MatAt w a A C m) (hb : MatAt w b B D m) :
    Calls Try.prog 61 #[.slice a m.length c, .slice b m.length c'] w fun e w' => e = .returned (.bool true) ∧ w.Ext w' := by
  have HA := Lib.hid ha
  have HB := Lib.hid hb
  have HS := Lib.hid hs
  have h0' : (0 : Int) < (m.length : Int) := by omega
  clear ha hb hs
  go_enter Try.func61, Try.ntmps61
  go_wp2
  go_loopw [5] (fun i wr => ∃ k : Nat, k ≤ m.length ∧ i = .int .i64 k ∧ Hid (w.Ext wr)) (fun i _ => m.length - (intOf i).toNat)
  case atStart => exact ⟨0, Nat.zero_le _, rfl, .refl _⟩
  case round =>
    obtain ⟨k, hk, rfl, HX⟩ := hrel
    by_cases hlt : k < m.length
    · have hlt' : (k : Int) < (m.length : Int) := by omega
      have hk0 : (0 : Int) ≤ (k : Int) := by omega
      obtain ⟨⟨b1, o1, rfl, hc1⟩, hr1⟩ := (HA.out.ext HX.out) k hlt
      obtain ⟨⟨b2, o2, rfl, hc2⟩, hr2⟩ := (HB.out.ext HX.out) k hlt
      have HC : Hid (∀ x, Calls Try.prog 158 #[.slice (A k) (m.getD k []).length (C k), .slice (B k) (m.getD k []).length (D k)] (wr.over x) fun e w' => e = .returned (.bool true) ∧ (wr.over x).Ext w') := fun x =>
        b10Nums_true _ _ _ _ _ _ (HS.out k) (RowOf.ext hr1 ⟨_, rfl⟩) (RowOf.ext hr2 ⟨_, rfl⟩)
      clear hr1 hr2
      generalize (m.getD k []).length = z at *
      go_wp2_with fail
      refine wp_region_over_lit (by kernel_rfl) (by kernel_rfl) ?_; (repeat (go_big_quiet_step ((go_at_call 158; exact Calls.over_of (HC.out _))))); refine wpQuiet_nil ?_; rintro _ ⟨x1, rfl⟩
      have HX2 : Hid (w.Ext (wr.over x1)) := HX.out.trans ⟨x1, rfl⟩
      clear hc1 hc2
      go_wp2
      go_roundw
      case rel => exact ⟨k + 1, by omega, by go_num, HX2⟩
      case measure => simp [intOf]; omega
    · have : k = m.length := by omega
      subst this
      go_wp2
      go_ret
      exact ⟨rfl, HX.out⟩
set_option maxHeartbeats 800000 in
theorem b10Same_true (a b : Option Addr) (c c' : Nat) (xs : List ByteArray) (w : World) (hn : xs.length ≤ 1000000) (h0 : 0 < xs.length) (ha : RowS w a xs) (hb : RowS w b xs) :
    Calls Try.prog 25 #[.agg #[.slice a xs.length c], .agg #[.slice b xs.length c']] w fun e w' => e = .returned (.bool true) ∧ w.Ext w' := by
  obtain ⟨W0, hW0⟩ : ∃ W0, W0 = (w.alloc (.cells #[.slice a xs.length c] 26)).alloc (.cells #[.slice b xs.length c'] 26) := ⟨_, rfl⟩
  have hx0 : w.Ext W0 := by rw [hW0]; repeat (first | exact World.Ext.refl _ | exact ⟨_, rfl⟩ | assumption | refine World.Ext.over ?_ _ | refine World.Ext.drewN ?_ _ | refine World.Ext.drew ?_ | refine World.Ext.alloc ?_ _ | refine World.Ext.setCell ?_ (by simp) _)
  have d0 : W0.cell? ⟨w.heap.size, 0, none⟩ = some (.slice a xs.length c) := by rw [hW0]; simp [go_sem]
  have d1 : W0.cell? ⟨w.heap.size + 1, 0, none⟩ = some (.slice b xs.length c') := by rw [hW0]; simp [go_sem]
  have HD : Hid (∀ w', W0.Ext w' → w'.cell? ⟨w.heap.size, 0, none⟩ = some (.slice a xs.length c) ∧ w'.cell? ⟨w.heap.size + 1, 0, none⟩ = some (.slice b xs.length c')) := fun w' h => ⟨h.cell d0, h.cell d1⟩
  have HA := Lib.hid (RowOf.ext ha hx0)
  have HB := Lib.hid (RowOf.ext hb hx0)
  have HX0 := Lib.hid hx0
  have h0' : (0 : Int) < (xs.length : Int) := by omega
  clear ha hb hx0
  go_enter Try.func25, Try.ntmps25
  go_upto_region 1 with fail
  rw [← hW0]
  clear hW0
  go_wp2
  clear d0 d1
  go_loopw [5] (fun i wr => ∃ k : Nat, k ≤ xs.length ∧ i = .int .i64 k ∧ Hid (W0.Ext wr)) (fun i _ => xs.length - (intOf i).toNat)
  case atStart => exact ⟨0, Nat.zero_le _, rfl, .refl _⟩
  case round =>
    obtain ⟨k, hk, rfl, HX⟩ := hrel
    obtain ⟨d0, d1⟩ := HD.out wr HX.out
    have l0 := World.block_lt_of_cell? _ _ d0
    have l1 := World.block_lt_of_cell? _ _ d1
    by_cases hlt : k < xs.length
    · have hlt' : (k : Int) < (xs.length : Int) := by omega
      have hk0 : (0 : Int) ≤ (k : Int) := by omega
      obtain ⟨b1, o1, rfl, hc1⟩ := (RowOf.ext HA.out HX.out) k hlt
      obtain ⟨b2, o2, rfl, hc2⟩ := (RowOf.ext HB.out HX.out) k hlt
      generalize xs.getD k ByteArray.empty = z at *
      go_wp2_with fail
      refine wp_region_over_lit (by kernel_rfl) (by kernel_rfl) ?_; (repeat (go_big_quiet_step (fail))); refine wpQuiet_nil ?_; rintro _ ⟨x1, rfl⟩
      have HX2 : Hid (W0.Ext (wr.over x1)) := HX.out.trans ⟨x1, rfl⟩
      clear hc1 hc2 d0 d1 l0 l1
      go_wp2
      go_roundw
      case rel => exact ⟨k + 1, by omega, by go_num, HX2⟩
      case measure => simp [intOf]; omega
    · have : k = xs.length := by omega
      subst this
      go_wp2
      go_ret
      exact ⟨rfl, HX0.out.trans HX.out⟩
end Go.Proofs.Ythgkmaccbcpaeaa
