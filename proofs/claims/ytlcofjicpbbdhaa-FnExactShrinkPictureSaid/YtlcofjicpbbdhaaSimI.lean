/- Simple pixels: the program's walks. -/
import Derived.Test.YtlcofjicpbbdhaaSimF
namespace Go.Proofs.Ytlcofjicpbbdhaa
open Go Go.RowKit
@[go_sem] theorem Try.eqSpotQ (a b c d : Int) (w : World) : (Op.equalIn 10000 36 (.agg #[.int .i64 a, .int .i64 b]) (.agg #[.int .i64 c, .int .i64 d])).run Try.prog w = .ok (a == c && b == d) w := by
  have u3 := Try.underlying2
  have hS : Try.prog.underlying 36 = some (.struct (Try.prog.fieldsOf 36)) := by kernel_rfl
  have hp : Try.prog.stoodInHeld 36 = false := by kernel_rfl
  rw [show (10000 : Nat) = 9999 + 1 from rfl, run_equalIn_agg w 9999 36 _ _ hS hp]
  simp only [Program.fieldsOf, Try.underlying36]
  go_simp
  by_cases h1 : a = c <;> by_cases h2 : b = d <;> simp [h1, h2]
set_option maxRecDepth 5000 in
set_option maxHeartbeats 800000 in
theorem indexQ_any (a : Option Addr) (c : Nat) (os : List (Int × Int)) (x y : Int) (w : World) (hn : os.length ≤ 1000) (hm : RowP w a os) :
    Calls Try.prog 251 #[.slice a os.length c, .agg #[.int .i64 x, .int .i64 y]] w fun e w' => e = .returned (.int .i64 (idxP (fun p => decide (p = (x, y))) os)) ∧ w.Ext w' := by
  obtain ⟨W0, hW0⟩ : ∃ W0, W0 = w.alloc (.cells #[.int .i64 x, .int .i64 y] 36) := ⟨_, rfl⟩
  have hx0 : w.Ext W0 := by rw [hW0]; repeat (first | exact World.Ext.refl _ | exact ⟨_, rfl⟩ | assumption | refine World.Ext.over ?_ _ | refine World.Ext.drewN ?_ _ | refine World.Ext.drew ?_ | refine World.Ext.alloc ?_ _ | refine World.Ext.setCell ?_ (by simp) _)
  have HX0 := Lib.hid hx0
  have HM : Hid (RowP W0 a os) := RowOf.ext hm hx0
  have D : Hid (W0.cell? ⟨w.heap.size, 0, none⟩ = some (.int .i64 x) ∧ W0.cell? ⟨w.heap.size, 1, none⟩ = some (.int .i64 y)) := by rw [hW0]; show _ ∧ _; simp [go_sem]
  clear hm hx0
  go_enter Try.func251, Try.ntmps251
  go_wp2_with fail
  rw [← hW0]
  clear hW0
  go_loopw [5, 8] (fun _ i wr => ∃ k : Nat, k ≤ os.length ∧ i = .int .i64 k ∧ Hid (∀ i, i < k → decide (os.getD i (0, 0) = (x, y)) = false) ∧ Hid (W0.Ext wr)) (fun _ i _ => os.length - (intOf i).toNat)
  case atStart => exact ⟨0, Nat.zero_le _, rfl, fun i hi => by omega, .refl _⟩
  case round =>
    obtain ⟨k, hk, rfl, HK, HX⟩ := hrel
    obtain ⟨w2, rfl⟩ : ∃ w2 : World, w2 = wr := ⟨_, rfl⟩
    by_cases hlt : k < os.length
    · have hlt' : (k : Int) < (os.length : Int) := by omega
      have hk0 : (0 : Int) ≤ (k : Int) := by omega
      obtain ⟨b, o, rfl, hc1, hc2⟩ := HM.out.at hlt
      replace hc1 := HX.out.cell hc1
      replace hc2 := HX.out.cell hc2
      have d1 := HX.out.cell D.out.1
      have d2 := HX.out.cell D.out.2
      have HK1 : Hid (decide (os.getD k (0, 0) = (x, y)) = false → ∀ i, i < k + 1 → decide (os.getD i (0, 0) = (x, y)) = false) := fun h i hi => by
        by_cases e : i = k
        · rw [e]; exact h
        · exact HK.out i (by omega)
      have HI : Hid (decide (os.getD k (0, 0) = (x, y)) = true → (k : Int) = idxP (fun p => decide (p = (x, y))) os) := fun h => (idxP_at hlt HK.out h).symm
      generalize os.getD k (0, 0) = z at hc1 hc2 HK1 HI
      obtain ⟨zx, zy⟩ := z
      simp only at hc1 hc2
      by_cases he : (zx, zy) = (x, y)
      · simp only [Prod.mk.injEq] at he
        obtain ⟨rfl, rfl⟩ := he
        have HI2 := Lib.hid (HI.out (by simp))
        clear HK1 HI HK
        go_wp2_with fail
        refine wp_region_over_lit (by kernel_rfl) (by kernel_rfl) ?_; (repeat (go_big_quiet_step (fail))); refine wpQuiet_nil ?_; rintro _ ⟨x1, rfl⟩
        have HX2 : Hid (W0.Ext (w2.over x1)) := HX.out.trans ⟨x1, rfl⟩
        clear HX hc1 hc2 d1 d2
        generalize w2.over x1 = w3 at *
        go_wp2
        go_ret
        exact ⟨ret_int HI2.out, HX0.out.trans HX2.out⟩
      · have HK2 := Lib.hid (HK1.out (by simpa using he))
        clear HK1 HI HK
        by_cases hxx : x = zx
        · have hyy : ¬ y = zy := fun h => he (by rw [hxx, h])
          subst hxx
          clear he
          go_wp2_with fail
          refine wp_region_over_lit (by kernel_rfl) (by kernel_rfl) ?_; (repeat (go_big_quiet_step (fail))); refine wpQuiet_nil ?_; rintro _ ⟨x1, rfl⟩
          have HX2 : Hid (W0.Ext (w2.over x1)) := HX.out.trans ⟨x1, rfl⟩
          clear HX hc1 hc2 d1 d2
          generalize w2.over x1 = w3 at *
          go_wp2
          go_roundw
          case rel => exact ⟨k + 1, by omega, by go_num, HK2, HX2⟩
          case measure => simp [intOf]; omega
        · clear he
          go_wp2_with fail
          refine wp_region_over_lit (by kernel_rfl) (by kernel_rfl) ?_; (repeat (go_big_quiet_step (fail))); refine wpQuiet_nil ?_; rintro _ ⟨x1, rfl⟩
          have HX2 : Hid (W0.Ext (w2.over x1)) := HX.out.trans ⟨x1, rfl⟩
          clear HX hc1 hc2 d1 d2
          generalize w2.over x1 = w3 at *
          go_wp2
          go_roundw
          case rel => exact ⟨k + 1, by omega, by go_num, HK2, HX2⟩
          case measure => simp [intOf]; omega
    · have : k = os.length := by omega
      subst this
      go_wp2
      go_ret
      exact ⟨ret_int (idxP_none HK.out).symm, HX0.out.trans HX.out⟩
set_option maxHeartbeats 400000 in
theorem containsQ_any (a : Option Addr) (c : Nat) (os : List (Int × Int)) (x y : Int) (w : World) (hn : os.length ≤ 1000) (hm : RowP w a os) :
    Calls Try.prog 235 #[.slice a os.length c, .agg #[.int .i64 x, .int .i64 y]] w fun e w' => e = .returned (.bool (decide ((x, y) ∈ os))) ∧ w.Ext w' := by
  obtain ⟨W0, hW0⟩ : ∃ W0, W0 = w.alloc (.cells #[.int .i64 x, .int .i64 y] 36) := ⟨_, rfl⟩
  have hx0 : w.Ext W0 := by rw [hW0]; repeat (first | exact World.Ext.refl _ | exact ⟨_, rfl⟩ | assumption | refine World.Ext.over ?_ _ | refine World.Ext.drewN ?_ _ | refine World.Ext.drew ?_ | refine World.Ext.alloc ?_ _ | refine World.Ext.setCell ?_ (by simp) _)
  have HX0 := Lib.hid hx0
  have HC := Lib.hid (indexQ_any a c os x y W0 hn (RowOf.ext hm hx0))
  have HT := Lib.hid (idxP_any (fun p => decide (p = (x, y))) os)
  have hlo := idxP_lo (fun p => decide (p = (x, y))) os
  have e : decide ((x, y) ∈ os) = os.any fun p => decide (p = (x, y)) := by
    rw [Bool.eq_iff_iff]
    simp
  rw [e]
  clear hn hm hx0 e
  generalize (os.any fun p => decide (p = (x, y))) = t at HT ⊢
  generalize idxP (fun p => decide (p = (x, y))) os = z at HC HT hlo
  go_enter Try.func235, Try.ntmps235
  go_wp2_with fail
  rw [← hW0]
  clear hW0
  refine HC.out.mono ?_
  rintro e w2 ⟨rfl, hx⟩
  go_wp2
  go_ret
  exact ⟨ret_bool HT.out, HX0.out.trans hx⟩
set_option maxHeartbeats 400000 in
theorem oneS1_any (p : Nat) (a : Option Addr) (c : Nat) (os : List (Int × Int)) (x y : Int) (w : World) (hn : os.length ≤ 1000) (hp : w.cell? ⟨p, 0, none⟩ = some (.slice a os.length c)) (hm : RowP w a os) :
    Calls Try.prog 234 #[.agg #[.int .i64 x, .int .i64 y], .pointer (some ⟨p, 0, none⟩)] w fun e w' => e = .returned (.bool (decide ((x, y) ∈ os))) ∧ w.Ext w' := by
  obtain ⟨W0, hW0⟩ : ∃ W0, W0 = w.alloc (.cells #[.int .i64 x, .int .i64 y] 36) := ⟨_, rfl⟩
  have hx0 : w.Ext W0 := by rw [hW0]; repeat (first | exact World.Ext.refl _ | exact ⟨_, rfl⟩ | assumption | refine World.Ext.over ?_ _ | refine World.Ext.drewN ?_ _ | refine World.Ext.drew ?_ | refine World.Ext.alloc ?_ _ | refine World.Ext.setCell ?_ (by simp) _)
  have HC := Lib.hid (containsQ_any a c os x y W0 hn (RowOf.ext hm hx0))
  have HX0 := Lib.hid hx0
  have hl := World.block_lt_of_cell? _ _ hp
  clear hm hx0
  generalize decide ((x, y) ∈ os) = t at *
  go_enter Try.func234, Try.ntmps234
  go_wp2_with fail
  rw [← hW0]
  clear hW0
  refine HC.out.mono ?_
  rintro e w1 ⟨rfl, hx⟩
  have HX := Lib.hid (HX0.out.trans hx)
  clear hx
  go_wp2
  go_ret
  exact ⟨rfl, HX.out⟩
theorem enters_oneS1 : Enters 234 := enters_of Try.func234 (by kernel_rfl) (by kernel_rfl)
set_option maxHeartbeats 400000 in
theorem oneS2_any (p : Nat) (a : Option Addr) (c : Nat) (os : List (Int × Int)) (x y : Int) (w : World) (hn : os.length ≤ 1000) (hp : w.cell? ⟨p, 0, none⟩ = some (.slice a os.length c)) (hm : RowP w a os) :
    Calls Try.prog 236 #[.agg #[.int .i64 x, .int .i64 y], .pointer (some ⟨p, 0, none⟩)] w fun e w' => e = .returned (.bool (decide ((x, y) ∈ os))) ∧ w.Ext w' := by
  obtain ⟨W0, hW0⟩ : ∃ W0, W0 = w.alloc (.cells #[.int .i64 x, .int .i64 y] 36) := ⟨_, rfl⟩
  have hx0 : w.Ext W0 := by rw [hW0]; repeat (first | exact World.Ext.refl _ | exact ⟨_, rfl⟩ | assumption | refine World.Ext.over ?_ _ | refine World.Ext.drewN ?_ _ | refine World.Ext.drew ?_ | refine World.Ext.alloc ?_ _ | refine World.Ext.setCell ?_ (by simp) _)
  have HC := Lib.hid (containsQ_any a c os x y W0 hn (RowOf.ext hm hx0))
  have HX0 := Lib.hid hx0
  have hl := World.block_lt_of_cell? _ _ hp
  clear hm hx0
  generalize decide ((x, y) ∈ os) = t at *
  go_enter Try.func236, Try.ntmps236
  go_wp2_with fail
  rw [← hW0]
  clear hW0
  refine HC.out.mono ?_
  rintro e w1 ⟨rfl, hx⟩
  have HX := Lib.hid (HX0.out.trans hx)
  clear hx
  go_wp2
  go_ret
  exact ⟨rfl, HX.out⟩
theorem enters_oneS2 : Enters 236 := enters_of Try.func236 (by kernel_rfl) (by kernel_rfl)
end Go.Proofs.Ytlcofjicpbbdhaa
