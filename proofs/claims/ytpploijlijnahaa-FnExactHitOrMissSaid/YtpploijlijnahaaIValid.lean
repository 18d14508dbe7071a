/- The program's test of elements. -/
import Derived.Test.YtpploijlijnahaaIOrd
import Derived.Deep.RegionWith
namespace Go.Proofs.Ytpploijlijnahaa
open Go.RowKit
theorem ord_lt (p q : Int × Int) : befB p q = decide (ordI p q < 0) := by
  unfold befB ordI cmpI
  rw [Bool.eq_iff_iff]
  simp
  repeat (first | split | omega)
  all_goals omega
theorem ord_false {p q : Int × Int} (h : befB p q = false) : ∃ u, ordI p q = u ∧ 0 ≤ u := ⟨_, rfl, by rw [ord_lt] at h; simpa using h⟩
theorem ord_true {p q : Int × Int} (h : befB p q = true) : ∃ u, ordI p q = u ∧ u < 0 := ⟨_, rfl, by rw [ord_lt] at h; simpa using h⟩
set_option maxRecDepth 5000 in
set_option maxHeartbeats 2000000 in
theorem validElement_any (a : Option Addr) (c : Nat) (os : List (Int × Int)) (w : World) (hn : os.length ≤ 1048576) (hm : RowP w a os) (ok : Bool) (hok : elemOk os = ok) :
    Calls Try.prog 37 #[.agg #[.slice a os.length c]] w fun e w' => e = .returned (.bool ok) ∧ w.Ext w' := by
  have HM := Lib.hid hm
  have HOK := Lib.hid hok
  have hn2 : os.length ≤ 4611686018427387904 := by omega
  have HBAD : Hid (∀ i, i < os.length → elemAt os i = false → ok = false) := fun i hi h => by
    rw [← HOK.out]
    unfold elemOk
    have h1 : (List.range os.length).all (elemAt os) = false := by
      rw [Bool.eq_false_iff]
      intro h2
      rw [elemOk_all] at h2
      rw [h2 i hi] at h
      cases h
    rw [h1, Bool.false_and]
  clear hm hok
  go_enter Try.func37, Try.ntmps37
  have hx0 : w.Ext (w.alloc (.cells #[.slice a os.length c] 36)) := by repeat (first | exact World.Ext.refl _ | exact ⟨_, rfl⟩ | assumption | refine World.Ext.over ?_ _ | refine World.Ext.drewN ?_ _ | refine World.Ext.drew ?_ | refine World.Ext.alloc ?_ _ | refine World.Ext.setCell ?_ (by simp) _)
  have hp : (w.alloc (.cells #[.slice a os.length c] 36)).cell? ⟨w.heap.size, 0, none⟩ = some (.slice a os.length c) := by simp [go_sem]
  have HP0 := Lib.hid hp
  have HX0 := Lib.hid hx0
  clear hp hx0
  go_wp2
  have hp := HP0.out
  have hX := HX0.out
  generalize w.alloc (.cells #[.slice a os.length c] 36) = W1 at hp hX ⊢
  clear HP0 HX0
  obtain ⟨pb, hpb⟩ : ∃ pb, pb = w.heap.size := ⟨_, rfl⟩
  rw [← hpb] at hp ⊢
  clear hpb
  go_loopw [3, 4, 8] (fun _ _ i wr => ∃ k : Nat, k ≤ os.length ∧ i = .int .i64 k ∧ Hid (∀ i, i < k → elemAt os i = true) ∧ Hid (W1.Ext wr)) (fun _ _ i _ => os.length - (intOf i).toNat)
  case atStart => exact ⟨0, Nat.zero_le _, rfl, fun r hr => by omega, .refl _⟩
  case round =>
    obtain ⟨k, hk, rfl, HK, HX⟩ := hrel
    have hpr := HX.out.cell hp
    by_cases hlt : k < os.length
    · obtain ⟨b, o, rfl, hc1, hc2⟩ := (HM.out.ext (hX.trans HX.out)).at hlt
      have hk0 : (0 : Int) ≤ (k : Int) := by omega
      have hlt' : (k : Int) < (os.length : Int) := by omega
      have HB := Lib.hid (HBAD.out k hlt)
      have HN : Hid (elemAt os k = true → ∀ i, i < k + 1 → elemAt os i = true) := fun h i hi => by
        by_cases e : i = k
        · rw [e]; exact h
        · exact HK.out i (by omega)
      have hblt := World.block_lt_of_cell? wr _ hc1
      have hplt := World.block_lt_of_cell? wr _ hpr
      unfold elemAt offOk at HB HN
      by_cases hk1 : k = 0
      · have hk2 : ¬ (0 < (k : Int)) := by omega
        have hk3 : decide (0 < k) = false := decide_eq_false (by omega)
        rw [decide_eq_true hk1, Bool.true_or, Bool.and_true] at HB HN
        clear hk1
        generalize os.getD k (0, 0) = q at hc1 hc2 HB HN
        obtain ⟨x, y⟩ := q
        dsimp only at hc1 hc2 HB HN
        cases hx : inB x (-4) 4
        · have hf := HB.out (by rw [hx]; rfl)
          subst hf
          have HX1 := Lib.hid hx
          clear hx HB HN
          go_wp2_with fail
          refine wp_region_over_lit (by kernel_rfl) (by kernel_rfl) ?_; (repeat (go_big_quiet_step ((go_at_call 102; exact Calls.over_of (in_any x _ _ _ _ HX1.out))))); refine wpQuiet_nil ?_; rintro _ ⟨x1, rfl⟩
          go_wp2
          go_ret
          refine ⟨rfl, (hX.trans HX.out).trans ?_⟩
          repeat (first | exact World.Ext.refl _ | exact ⟨_, rfl⟩ | assumption | refine World.Ext.over ?_ _ | refine World.Ext.drewN ?_ _ | refine World.Ext.drew ?_ | refine World.Ext.alloc ?_ _ | refine World.Ext.setCell ?_ (by simp) _)
        · have HX1 := Lib.hid hx
          rw [hx, Bool.true_and] at HB HN
          clear hx
          cases hy : inB y (-4) 4
          · have hf := HB.out hy
            subst hf
            have HY1 := Lib.hid hy
            clear hy HB HN
            go_wp2_with fail
            refine wp_region_over_lit (by kernel_rfl) (by kernel_rfl) ?_; (repeat (go_big_quiet_step ((first | (go_at_call_of 102 (Value.int .i64 x); exact Calls.over_of (in_any x _ _ _ _ HX1.out)) | (go_at_call_of 102 (Value.int .i64 y); exact Calls.over_of (in_any y _ _ _ _ HY1.out)))))); refine wpQuiet_nil ?_; rintro _ ⟨x1, rfl⟩
            go_wp2
            go_ret
            refine ⟨rfl, (hX.trans HX.out).trans ?_⟩
            repeat (first | exact World.Ext.refl _ | exact ⟨_, rfl⟩ | assumption | refine World.Ext.over ?_ _ | refine World.Ext.drewN ?_ _ | refine World.Ext.drew ?_ | refine World.Ext.alloc ?_ _ | refine World.Ext.setCell ?_ (by simp) _)
          · have HN1 := Lib.hid (HN.out hy)
            have HY1 := Lib.hid hy
            clear hy HB HN
            go_wp2_with fail
            refine wp_region_over_lit (by kernel_rfl) (by kernel_rfl) ?_; (repeat (go_big_quiet_step ((first | (go_at_call_of 102 (Value.int .i64 x); exact Calls.over_of (in_any x _ _ _ _ HX1.out)) | (go_at_call_of 102 (Value.int .i64 y); exact Calls.over_of (in_any y _ _ _ _ HY1.out)))))); refine wpQuiet_nil ?_; rintro _ ⟨x1, rfl⟩
            go_wp2
            go_roundw
            case rel => exact ⟨k + 1, by omega, by go_num, HN1.out, HX.out.trans (by repeat (first | exact World.Ext.refl _ | exact ⟨_, rfl⟩ | assumption | refine World.Ext.over ?_ _ | refine World.Ext.drewN ?_ _ | refine World.Ext.drew ?_ | refine World.Ext.alloc ?_ _ | refine World.Ext.setCell ?_ (by simp) _))⟩
            case measure => simp [intOf]; omega
      · obtain ⟨j, rfl⟩ : ∃ j, k = j + 1 := ⟨k - 1, by omega⟩
        obtain ⟨b', o', hbo, hd1, hd2⟩ := (HM.out.ext (hX.trans HX.out)).at (show j < os.length by omega)
        cases hbo
        rw [decide_eq_false (by omega : ¬ (j + 1 = 0)), Bool.false_or, Nat.add_sub_cancel] at HB HN
        have hk2 : 0 < ((j + 1 : Nat) : Int) := by omega
        have hw1 : IntKind.i64.wrap (((j + 1 : Nat) : Int) - 1) = (j : Int) := by rw [IntWalk.i64_in _ (by omega)]; omega
        have hj0 : (0 : Int) ≤ (j : Int) := by omega
        have hjl : (j : Int) < (os.length : Int) := by omega
        have HW1 := Lib.hid hw1
        generalize os.getD (j + 1) (0, 0) = q at hc1 hc2 HB HN
        generalize os.getD j (0, 0) = r at hd1 hd2 HB HN
        obtain ⟨x, y⟩ := q
        obtain ⟨x2, y2⟩ := r
        dsimp only at hc1 hc2 hd1 hd2 HB HN
        cases hx : inB x (-4) 4
        · have hf := HB.out (by rw [hx]; rfl)
          subst hf
          have HX1 := Lib.hid hx
          clear hx HB HN hw1
          go_wp2_with fail
          refine wp_region_over_lit (by kernel_rfl) (by kernel_rfl) ?_; (repeat (go_big_quiet_step ((go_at_call 102; exact Calls.over_of (in_any x _ _ _ _ HX1.out))))); refine wpQuiet_nil ?_; rintro _ ⟨x1, rfl⟩
          go_wp2
          go_ret
          refine ⟨rfl, (hX.trans HX.out).trans ?_⟩
          repeat (first | exact World.Ext.refl _ | exact ⟨_, rfl⟩ | assumption | refine World.Ext.over ?_ _ | refine World.Ext.drewN ?_ _ | refine World.Ext.drew ?_ | refine World.Ext.alloc ?_ _ | refine World.Ext.setCell ?_ (by simp) _)
        · have HX1 := Lib.hid hx
          rw [hx, Bool.true_and] at HB HN
          clear hx
          cases hy : inB y (-4) 4
          · have hf := HB.out (by rw [hy]; rfl)
            subst hf
            have HY1 := Lib.hid hy
            clear hy HB HN hw1
            go_wp2_with fail
            refine wp_region_over_lit (by kernel_rfl) (by kernel_rfl) ?_; (repeat (go_big_quiet_step ((first | (go_at_call_of 102 (Value.int .i64 x); exact Calls.over_of (in_any x _ _ _ _ HX1.out)) | (go_at_call_of 102 (Value.int .i64 y); exact Calls.over_of (in_any y _ _ _ _ HY1.out)))))); refine wpQuiet_nil ?_; rintro _ ⟨x1, rfl⟩
            go_wp2
            go_ret
            refine ⟨rfl, (hX.trans HX.out).trans ?_⟩
            repeat (first | exact World.Ext.refl _ | exact ⟨_, rfl⟩ | assumption | refine World.Ext.over ?_ _ | refine World.Ext.drewN ?_ _ | refine World.Ext.drew ?_ | refine World.Ext.alloc ?_ _ | refine World.Ext.setCell ?_ (by simp) _)
          · have HY1 := Lib.hid hy
            rw [hy, Bool.true_and] at HB HN
            clear hy
            cases hb : befB (x2, y2) (x, y)
            · have hf := HB.out hb
              subst hf
              obtain ⟨u, hu, hul⟩ := ord_false hb
              have HB1 := Lib.hid (fun w => spotOrder_any (x2, y2) (x, y) w u hu)
              clear hu
              clear hb HB HN
              go_wp2_with fail
              refine wp_region_over_lit (by kernel_rfl) (by kernel_rfl) ?_; (repeat (go_big_quiet_step ((first | (go_at_call_of 102 (Value.int .i64 x); exact Calls.over_of (in_any x _ _ _ _ HX1.out)) | (go_at_call_of 102 (Value.int .i64 y); exact Calls.over_of (in_any y _ _ _ _ HY1.out)) | (go_at_call 103; exact Calls.over_of (HB1.out _)))))); refine wpQuiet_nil ?_; rintro _ ⟨x1, rfl⟩
              go_wp2
              go_ret
              refine ⟨rfl, (hX.trans HX.out).trans ?_⟩
              repeat (first | exact World.Ext.refl _ | exact ⟨_, rfl⟩ | assumption | refine World.Ext.over ?_ _ | refine World.Ext.drewN ?_ _ | refine World.Ext.drew ?_ | refine World.Ext.alloc ?_ _ | refine World.Ext.setCell ?_ (by simp) _)
            · have HN1 := Lib.hid (HN.out hb)
              obtain ⟨u, hu, hul⟩ := ord_true hb
              have HB1 := Lib.hid (fun w => spotOrder_any (x2, y2) (x, y) w u hu)
              clear hu
              clear hb HB HN
              go_wp2_with fail
              refine wp_region_over_lit (by kernel_rfl) (by kernel_rfl) ?_; (repeat (go_big_quiet_step ((first | (go_at_call_of 102 (Value.int .i64 x); exact Calls.over_of (in_any x _ _ _ _ HX1.out)) | (go_at_call_of 102 (Value.int .i64 y); exact Calls.over_of (in_any y _ _ _ _ HY1.out)) | (go_at_call 103; exact Calls.over_of (HB1.out _)))))); refine wpQuiet_nil ?_; rintro _ ⟨x1, rfl⟩
              go_wp2
              go_roundw
              case rel => exact ⟨j + 1 + 1, by omega, by go_num, HN1.out, HX.out.trans (by repeat (first | exact World.Ext.refl _ | exact ⟨_, rfl⟩ | assumption | refine World.Ext.over ?_ _ | refine World.Ext.drewN ?_ _ | refine World.Ext.drew ?_ | refine World.Ext.alloc ?_ _ | refine World.Ext.setCell ?_ (by simp) _))⟩
              case measure => simp [intOf]; omega
    · have : k = os.length := by omega
      subst this
      have HA := Lib.hid (elemOk_all.2 HK.out)
      have HV : Hid (ok = inB os.length 1 50) := by show _ = _; rw [← HOK.out]; unfold elemOk; rw [HA.out, Bool.true_and]
      have hpr := HX.out.cell hp
      go_wp2_with fail
      refine (in_any _ _ _ _ _ HV.out.symm).mono ?_
      rintro e w' ⟨rfl, x1, rfl⟩
      go_wp2
      go_ret
      exact ⟨rfl, (hX.trans HX.out).over _⟩
end Go.Proofs.Ytpploijlijnahaa
