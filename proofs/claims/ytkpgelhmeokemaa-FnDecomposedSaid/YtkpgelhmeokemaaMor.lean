/- Elements, and the program's pictures that are made by one. -/
import Derived.Test.YtkpgelhmeokemaaWith
import Derived.IntWalk
import Derived.Deep.RegionWith
namespace Go.Proofs.Ytkpgelhmeokemaa
open Go Go.RowKit
def befB (p q : Int × Int) : Bool := decide (p.2 < q.2) || (decide (p.2 = q.2) && decide (p.1 < q.1))
def offOk (p : Int × Int) : Bool := inB p.1 (-4) 4 && inB p.2 (-4) 4
def elemAt (os : List (Int × Int)) (i : Nat) : Bool := offOk (os.getD i (0, 0)) && (decide (i = 0) || befB (os.getD (i - 1) (0, 0)) (os.getD i (0, 0)))
/-- Is an element valid? -/
def elemOk (os : List (Int × Int)) : Bool := (List.range os.length).all (elemAt os) && inB os.length 1 50
theorem elemOk_all {os : List (Int × Int)} : (List.range os.length).all (elemAt os) = true ↔ ∀ i, i < os.length → elemAt os i = true := by
  rw [List.all_eq_true]
  simp
theorem elemOk_spec {os : List (Int × Int)} (h : elemOk os = true) : 1 ≤ os.length ∧ os.length ≤ 50 ∧ ∀ i, i < os.length → -4 ≤ (os.getD i (0, 0)).1 ∧ (os.getD i (0, 0)).1 ≤ 4 ∧ -4 ≤ (os.getD i (0, 0)).2 ∧ (os.getD i (0, 0)).2 ≤ 4 := by
  unfold elemOk at h
  rw [Bool.and_eq_true, elemOk_all, inB_true] at h
  refine ⟨by omega, by omega, fun i hi => ?_⟩
  have := h.1 i hi
  unfold elemAt offOk at this
  rw [Bool.and_eq_true, Bool.and_eq_true, inB_true, inB_true] at this
  omega
set_option maxHeartbeats 800000 in
theorem l03Before_any (p q : Int × Int) (w : World) (t : Bool) (ht : befB p q = t) :
    Calls Try.prog 62 #[.agg #[.int .i64 p.1, .int .i64 p.2], .agg #[.int .i64 q.1, .int .i64 q.2]] w fun e w' => e = .returned (.bool t) ∧ w.Ext w' := by
  subst ht
  obtain ⟨x1, y1⟩ := p
  obtain ⟨x2, y2⟩ := q
  unfold befB
  dsimp only
  go_enter Try.func62, Try.ntmps62
  go_wp2
  all_goals
    go_ret
    refine ⟨by simp [*], ?_⟩
    repeat (first | exact World.Ext.refl _ | exact ⟨_, rfl⟩ | assumption | refine World.Ext.over ?_ _ | refine World.Ext.drewN ?_ _ | refine World.Ext.drew ?_ | refine World.Ext.alloc ?_ _ | refine World.Ext.setCell ?_ (by simp) _)
set_option maxRecDepth 5000 in
set_option maxHeartbeats 2000000 in
theorem l03Is_any (p : Nat) (a : Option Addr) (c : Nat) (os : List (Int × Int)) (w : World) (hn : os.length ≤ 1048576) (hp : w.cell? ⟨p, 0, none⟩ = some (.slice a os.length c)) (hm : RowP w a os) (ok : Bool) (hok : elemOk os = ok) :
    Calls Try.prog 61 #[.pointer (some ⟨p, 0, none⟩)] w fun e w' => e = .returned (.bool ok) ∧ w.Ext w' := by
  have HM := Lib.hid hm
  have HOK := Lib.hid hok
  have hn2 : os.length ≤ 4611686018427387904 := by omega
  have HBAD : Hid (∀ i, i < os.length → elemAt os i = false → ok = false) := fun i hi h => by
    rw [← HOK.out]
    unfold elemOk
    have h1 : (List.range os.length).all (elemAt os) = false := by
      rw [Bool.eq_false_iff]
      intro h2
      rw [elemOk_all] at h2
      rw [h2 i hi] at h
      cases h
    rw [h1, Bool.false_and]
  clear hm hok
  go_enter Try.func61, Try.ntmps61
  go_wp2
  go_loopw [4, 5] (fun i _ wr => ∃ k : Nat, k ≤ os.length ∧ i = .int .i64 k ∧ Hid (∀ i, i < k → elemAt os i = true) ∧ Hid (w.Ext wr)) (fun i _ _ => os.length - (intOf i).toNat)
  case atStart => exact ⟨0, Nat.zero_le _, rfl, fun r hr => by omega, .refl _⟩
  case round =>
    obtain ⟨k, hk, rfl, HK, HX⟩ := hrel
    have hpr := HX.out.cell hp
    by_cases hlt : k < os.length
    · obtain ⟨b, o, rfl, hc1, hc2⟩ := (HM.out.ext HX.out).at hlt
      have hk0 : (0 : Int) ≤ (k : Int) := by omega
      have hlt' : (k : Int) < (os.length : Int) := by omega
      have HB := Lib.hid (HBAD.out k hlt)
      have HN : Hid (elemAt os k = true → ∀ i, i < k + 1 → elemAt os i = true) := fun h i hi => by
        by_cases e : i = k
        · rw [e]; exact h
        · exact HK.out i (by omega)
      have hblt := World.block_lt_of_cell? wr _ hc1
      have hplt := World.block_lt_of_cell? wr _ hpr
      unfold elemAt offOk at HB HN
      by_cases hk1 : k = 0
      · have hk2 : ¬ (0 < (k : Int)) := by omega
        have hk3 : decide (0 < k) = false := decide_eq_false (by omega)
        rw [decide_eq_true hk1, Bool.true_or, Bool.and_true] at HB HN
        clear hk1
        generalize os.getD k (0, 0) = q at hc1 hc2 HB HN
        obtain ⟨x, y⟩ := q
        dsimp only at hc1 hc2 HB HN
        cases hx : inB x (-4) 4
        · have hf := HB.out (by rw [hx]; rfl)
          subst hf
          have HX1 := Lib.hid hx
          clear hx HB HN
          go_wp2_with fail
          refine wp_region_over_lit (by kernel_rfl) (by kernel_rfl) ?_; (repeat (go_big_quiet_step ((go_at_call 89; exact Calls.over_of (l00In_any x _ _ _ _ HX1.out))))); refine wpQuiet_nil ?_; rintro _ ⟨x1, rfl⟩
          go_wp2
          go_ret
          refine ⟨rfl, HX.out.trans ?_⟩
          repeat (first | exact World.Ext.refl _ | exact ⟨_, rfl⟩ | assumption | refine World.Ext.over ?_ _ | refine World.Ext.drewN ?_ _ | refine World.Ext.drew ?_ | refine World.Ext.alloc ?_ _ | refine World.Ext.setCell ?_ (by simp) _)
        · have HX1 := Lib.hid hx
          rw [hx, Bool.true_and] at HB HN
          clear hx
          cases hy : inB y (-4) 4
          · have hf := HB.out hy
            subst hf
            have HY1 := Lib.hid hy
            clear hy HB HN
            go_wp2_with fail
            refine wp_region_over_lit (by kernel_rfl) (by kernel_rfl) ?_; (repeat (go_big_quiet_step ((first | (go_at_call_of 89 (Value.int .i64 x); exact Calls.over_of (l00In_any x _ _ _ _ HX1.out)) | (go_at_call_of 89 (Value.int .i64 y); exact Calls.over_of (l00In_any y _ _ _ _ HY1.out)))))); refine wpQuiet_nil ?_; rintro _ ⟨x1, rfl⟩
            go_wp2
            go_ret
            refine ⟨rfl, HX.out.trans ?_⟩
            repeat (first | exact World.Ext.refl _ | exact ⟨_, rfl⟩ | assumption | refine World.Ext.over ?_ _ | refine World.Ext.drewN ?_ _ | refine World.Ext.drew ?_ | refine World.Ext.alloc ?_ _ | refine World.Ext.setCell ?_ (by simp) _)
          · have HN1 := Lib.hid (HN.out hy)
            have HY1 := Lib.hid hy
            clear hy HB HN
            go_wp2_with fail
            refine wp_region_over_lit (by kernel_rfl) (by kernel_rfl) ?_; (repeat (go_big_quiet_step ((first | (go_at_call_of 89 (Value.int .i64 x); exact Calls.over_of (l00In_any x _ _ _ _ HX1.out)) | (go_at_call_of 89 (Value.int .i64 y); exact Calls.over_of (l00In_any y _ _ _ _ HY1.out)))))); refine wpQuiet_nil ?_; rintro _ ⟨x1, rfl⟩
            go_wp2
            go_roundw
            case rel => exact ⟨k + 1, by omega, by go_num, HN1.out, HX.out.trans (by repeat (first | exact World.Ext.refl _ | exact ⟨_, rfl⟩ | assumption | refine World.Ext.over ?_ _ | refine World.Ext.drewN ?_ _ | refine World.Ext.drew ?_ | refine World.Ext.alloc ?_ _ | refine World.Ext.setCell ?_ (by simp) _))⟩
            case measure => simp [intOf]; omega
      · obtain ⟨j, rfl⟩ : ∃ j, k = j + 1 := ⟨k - 1, by omega⟩
        obtain ⟨b', o', hbo, hd1, hd2⟩ := (HM.out.ext HX.out).at (show j < os.length by omega)
        cases hbo
        rw [decide_eq_false (by omega : ¬ (j + 1 = 0)), Bool.false_or, Nat.add_sub_cancel] at HB HN
        have hk2 : 0 < ((j + 1 : Nat) : Int) := by omega
        have hw1 : IntKind.i64.wrap (((j + 1 : Nat) : Int) - 1) = (j : Int) := by rw [IntWalk.i64_in _ (by omega)]; omega
        have hj0 : (0 : Int) ≤ (j : Int) := by omega
        have hjl : (j : Int) < (os.length : Int) := by omega
        have HW1 := Lib.hid hw1
        generalize os.getD (j + 1) (0, 0) = q at hc1 hc2 HB HN
        generalize os.getD j (0, 0) = r at hd1 hd2 HB HN
        obtain ⟨x, y⟩ := q
        obtain ⟨x2, y2⟩ := r
        dsimp only at hc1 hc2 hd1 hd2 HB HN
        cases hx : inB x (-4) 4
        · have hf := HB.out (by rw [hx]; rfl)
          subst hf
          have HX1 := Lib.hid hx
          clear hx HB HN hw1
          go_wp2_with fail
          refine wp_region_over_lit (by kernel_rfl) (by kernel_rfl) ?_; (repeat (go_big_quiet_step ((go_at_call 89; exact Calls.over_of (l00In_any x _ _ _ _ HX1.out))))); refine wpQuiet_nil ?_; rintro _ ⟨x1, rfl⟩
          go_wp2
          go_ret
          refine ⟨rfl, HX.out.trans ?_⟩
          repeat (first | exact World.Ext.refl _ | exact ⟨_, rfl⟩ | assumption | refine World.Ext.over ?_ _ | refine World.Ext.drewN ?_ _ | refine World.Ext.drew ?_ | refine World.Ext.alloc ?_ _ | refine World.Ext.setCell ?_ (by simp) _)
        · have HX1 := Lib.hid hx
          rw [hx, Bool.true_and] at HB HN
          clear hx
          cases hy : inB y (-4) 4
          · have hf := HB.out (by rw [hy]; rfl)
            subst hf
            have HY1 := Lib.hid hy
            clear hy HB HN hw1
            go_wp2_with fail
            refine wp_region_over_lit (by kernel_rfl) (by kernel_rfl) ?_; (repeat (go_big_quiet_step ((first | (go_at_call_of 89 (Value.int .i64 x); exact Calls.over_of (l00In_any x _ _ _ _ HX1.out)) | (go_at_call_of 89 (Value.int .i64 y); exact Calls.over_of (l00In_any y _ _ _ _ HY1.out)))))); refine wpQuiet_nil ?_; rintro _ ⟨x1, rfl⟩
            go_wp2
            go_ret
            refine ⟨rfl, HX.out.trans ?_⟩
            repeat (first | exact World.Ext.refl _ | exact ⟨_, rfl⟩ | assumption | refine World.Ext.over ?_ _ | refine World.Ext.drewN ?_ _ | refine World.Ext.drew ?_ | refine World.Ext.alloc ?_ _ | refine World.Ext.setCell ?_ (by simp) _)
          · have HY1 := Lib.hid hy
            rw [hy, Bool.true_and] at HB HN
            clear hy
            cases hb : befB (x2, y2) (x, y)
            · have hf := HB.out hb
              subst hf
              have HB1 := Lib.hid (l03Before_any (x2, y2) (x, y) (t := false) · hb)
              clear hb HB HN
              go_wp2_with fail
              refine wp_region_over_lit (by kernel_rfl) (by kernel_rfl) ?_; (repeat (go_big_quiet_step ((first | (go_at_call_of 89 (Value.int .i64 x); exact Calls.over_of (l00In_any x _ _ _ _ HX1.out)) | (go_at_call_of 89 (Value.int .i64 y); exact Calls.over_of (l00In_any y _ _ _ _ HY1.out)) | (go_at_call 62; exact Calls.over_of (HB1.out _)))))); refine wpQuiet_nil ?_; rintro _ ⟨x1, rfl⟩
              go_wp2
              go_ret
              refine ⟨rfl, HX.out.trans ?_⟩
              repeat (first | exact World.Ext.refl _ | exact ⟨_, rfl⟩ | assumption | refine World.Ext.over ?_ _ | refine World.Ext.drewN ?_ _ | refine World.Ext.drew ?_ | refine World.Ext.alloc ?_ _ | refine World.Ext.setCell ?_ (by simp) _)
            · have HN1 := Lib.hid (HN.out hb)
              have HB1 := Lib.hid (l03Before_any (x2, y2) (x, y) (t := true) · hb)
              clear hb HB HN
              go_wp2_with fail
              refine wp_region_over_lit (by kernel_rfl) (by kernel_rfl) ?_; (repeat (go_big_quiet_step ((first | (go_at_call_of 89 (Value.int .i64 x); exact Calls.over_of (l00In_any x _ _ _ _ HX1.out)) | (go_at_call_of 89 (Value.int .i64 y); exact Calls.over_of (l00In_any y _ _ _ _ HY1.out)) | (go_at_call 62; exact Calls.over_of (HB1.out _)))))); refine wpQuiet_nil ?_; rintro _ ⟨x1, rfl⟩
              go_wp2
              go_roundw
              case rel => exact ⟨j + 1 + 1, by omega, by go_num, HN1.out, HX.out.trans (by repeat (first | exact World.Ext.refl _ | exact ⟨_, rfl⟩ | assumption | refine World.Ext.over ?_ _ | refine World.Ext.drewN ?_ _ | refine World.Ext.drew ?_ | refine World.Ext.alloc ?_ _ | refine World.Ext.setCell ?_ (by simp) _))⟩
              case measure => simp [intOf]; omega
    · have : k = os.length := by omega
      subst this
      have HA := Lib.hid (elemOk_all.2 HK.out)
      have HV : Hid (ok = inB os.length 1 50) := by show _ = _; rw [← HOK.out]; unfold elemOk; rw [HA.out, Bool.true_and]
      go_wp2
      all_goals
        go_ret
        exact ⟨ret_bool (by rw [HV.out]; first | (simp [inB, *]; done) | (simp [inB, *]; omega)), HX.out⟩
def cmpI (x y : Int) : Int := if x < y then -1 else if y < x then 1 else 0
set_option maxHeartbeats 400000 in
theorem isNaN_any (x : Int) (w : World) : Calls Try.prog 114 #[.int .i64 x] w fun e w' => e = .returned (.bool false) ∧ w.Ext w' := by
  go_enter Try.func114, Try.ntmps114
  go_wp2
  go_ret
  exact ⟨by simp, .refl _⟩
set_option maxHeartbeats 800000 in
theorem compare_any (x y : Int) (w : World) (t : Int) (ht : cmpI x y = t) : Calls Try.prog 75 #[.int .i64 x, .int .i64 y] w fun e w' => e = .returned (.int .i64 t) ∧ w.Ext w' := by
  subst ht
  unfold cmpI
  by_cases h1 : x < y
  · rw [if_pos h1]
    go_enter Try.func75, Try.ntmps75
    go_wp2_with (go_at_call 114; refine (isNaN_any _ _).mono ?_; rintro e w' ⟨rfl, x1, rfl⟩)
    go_ret
    refine ⟨rfl, ?_⟩
    repeat (first | exact World.Ext.refl _ | exact ⟨_, rfl⟩ | assumption | refine World.Ext.over ?_ _ | refine World.Ext.drewN ?_ _ | refine World.Ext.drew ?_ | refine World.Ext.alloc ?_ _ | refine World.Ext.setCell ?_ (by simp) _)
  · rw [if_neg h1]
    by_cases h2 : y < x
    · rw [if_pos h2]
      go_enter Try.func75, Try.ntmps75
      go_wp2_with (go_at_call 114; refine (isNaN_any _ _).mono ?_; rintro e w' ⟨rfl, x1, rfl⟩)
      go_ret
      refine ⟨rfl, ?_⟩
      repeat (first | exact World.Ext.refl _ | exact ⟨_, rfl⟩ | assumption | refine World.Ext.over ?_ _ | refine World.Ext.drewN ?_ _ | refine World.Ext.drew ?_ | refine World.Ext.alloc ?_ _ | refine World.Ext.setCell ?_ (by simp) _)
    · rw [if_neg h2]
      go_enter Try.func75, Try.ntmps75
      go_wp2_with (go_at_call 114; refine (isNaN_any _ _).mono ?_; rintro e w' ⟨rfl, x1, rfl⟩)
      go_ret
      refine ⟨rfl, ?_⟩
      repeat (first | exact World.Ext.refl _ | exact ⟨_, rfl⟩ | assumption | refine World.Ext.over ?_ _ | refine World.Ext.drewN ?_ _ | refine World.Ext.drew ?_ | refine World.Ext.alloc ?_ _ | refine World.Ext.setCell ?_ (by simp) _)
def ordI (p q : Int × Int) : Int := if cmpI p.2 q.2 = 0 then cmpI p.1 q.1 else cmpI p.2 q.2
set_option maxRecDepth 5000 in
set_option maxHeartbeats 800000 in
theorem or2_any (b : Nat) (x y : Int) (w : World) (h0 : w.cell? ⟨b, 0, none⟩ = some (.int .i64 x)) (h1 : w.cell? ⟨b, 1, none⟩ = some (.int .i64 y)) (t : Int) (ht : (if x = 0 then y else x) = t) :
    Calls Try.prog 74 #[.slice (some ⟨b, 0, none⟩) 2 2] w fun e w' => e = .returned (.int .i64 t) ∧ w.Ext w' := by
  have HT := Lib.hid ht
  clear ht
  go_enter Try.func74, Try.ntmps74
  go_wp2
  go_loopw [5, 8] (fun _ i wr => ∃ k : Nat, k ≤ 2 ∧ i = .int .i64 k ∧ Hid (1 ≤ k → x = 0) ∧ Hid (2 ≤ k → y = 0) ∧ Hid (w.Ext wr)) (fun _ i _ => 2 - (intOf i).toNat)
  case atStart => exact ⟨0, by omega, rfl, fun h => by omega, fun h => by omega, .refl _⟩
  case round =>
    obtain ⟨k, hk, rfl, HA, HB, HX⟩ := hrel
    have hc0 := HX.out.cell h0
    have hc1 := HX.out.cell h1
    by_cases e0 : k = 0
    · subst e0
      by_cases hx : x = 0
      · have hne : (x != 0) = false := by simp; exact hx
        have HX0 := Lib.hid hx
        clear hx
        go_wp2
        go_roundw
        case rel => exact ⟨1, by omega, by go_num, fun _ => HX0.out, fun h => by omega, HX⟩
        case measure => simp [intOf]
      · have hne : (x != 0) = true := by simp; exact hx
        have HV : Hid (x = t) := by show _ = _; rw [← HT.out, if_neg hx]
        clear hx
        go_wp2
        go_ret
        exact ⟨ret_int HV.out, HX.out⟩
    · by_cases e1 : k = 1
      · subst e1
        have HXZ : Hid (x = 0) := HA.out (by omega)
        have hyv : Hid (t = y) := by show _ = _; rw [← HT.out, if_pos HXZ.out]
        by_cases hy : y = 0
        · have hne : (y != 0) = false := by simp; exact hy
          have HY0 := Lib.hid hy
          clear hy
          go_wp2
          go_roundw
          case rel => exact ⟨2, by omega, by go_num, fun _ => HXZ.out, fun _ => HY0.out, HX⟩
          case measure => simp [intOf]
        · have hne : (y != 0) = true := by simp; exact hy
          clear hy
          go_wp2
          go_ret
          exact ⟨ret_int hyv.out.symm, HX.out⟩
      · have e2 : k = 2 := by omega
        subst e2
        have HV : Hid ((0 : Int) = t) := by
          show _ = _
          rw [← HT.out, if_pos (HA.out (by omega)), HB.out (by omega)]
        go_wp2
        go_ret
        exact ⟨ret_int HV.out, HX.out⟩
set_option maxHeartbeats 800000 in
theorem spotOrder_any (p q : Int × Int) (w : World) (t0 : Int) (ht0 : ordI p q = t0) :
    Calls Try.prog 57 #[.agg #[.int .i64 p.1, .int .i64 p.2], .agg #[.int .i64 q.1, .int .i64 q.2]] w fun e w' => e = .returned (.int .i64 t0) ∧ w.Ext w' := by
  subst ht0
  obtain ⟨xa, ya⟩ := p
  obtain ⟨xb, yb⟩ := q
  obtain ⟨u, hu⟩ : ∃ u, cmpI ya yb = u := ⟨_, rfl⟩
  obtain ⟨v, hv⟩ : ∃ v, cmpI xa xb = v := ⟨_, rfl⟩
  obtain ⟨t, ht⟩ : ∃ t, ordI (xa, ya) (xb, yb) = t := ⟨_, rfl⟩
  have HT : Hid ((if u = 0 then v else u) = t) := by show _ = _; rw [← ht, ← hu, ← hv]; rfl
  have HU := Lib.hid hu
  have HV := Lib.hid hv
  rw [ht]
  clear hu hv ht
  dsimp only
  go_enter Try.func57, Try.ntmps57
  go_wp2_with fail
  refine wp_region_over_tail 10 (by kernel_rfl) (by kernel_rfl) ?_; simp only [List.take_succ_cons, List.take_zero, List.drop_succ_cons, List.drop_zero]; (repeat (go_big_quiet_step ((first | (go_at_call_of 75 (Value.int .i64 ya); exact Calls.over_of (compare_any ya yb _ _ HU.out)) | (go_at_call_of 75 (Value.int .i64 xa); exact Calls.over_of (compare_any xa xb _ _ HV.out)))))); refine wpQuiet_nil ?_; rintro _ ⟨x1, rfl⟩
  go_wp2_with fail
  refine (or2_any _ u v _ (by simp [go_sem]) (by simp [go_sem]) _ HT.out).mono ?_
  rintro e w2 ⟨rfl, hx2⟩
  go_wp2
  go_ret
  refine ⟨rfl, World.Ext.trans ?_ hx2⟩
  repeat (first | exact World.Ext.refl _ | exact ⟨_, rfl⟩ | assumption | refine World.Ext.over ?_ _ | refine World.Ext.drewN ?_ _ | refine World.Ext.drew ?_ | refine World.Ext.alloc ?_ _ | refine World.Ext.setCell ?_ (by simp) _)
theorem ord_lt (p q : Int × Int) : befB p q = decide (ordI p q < 0) := by
  unfold befB ordI cmpI
  rw [Bool.eq_iff_iff]
  simp
  repeat (first | split | omega)
  all_goals omega
theorem ord_false {p q : Int × Int} (h : befB p q = false) : ∃ u, ordI p q = u ∧ 0 ≤ u := ⟨_, rfl, by rw [ord_lt] at h; simpa using h⟩
theorem ord_true {p q : Int × Int} (h : befB p q = true) : ∃ u, ordI p q = u ∧ u < 0 := ⟨_, rfl, by rw [ord_lt] at h; simpa using h⟩
set_option maxRecDepth 5000 in
set_option maxHeartbeats 2000000 in
theorem validElement_any (a : Option Addr) (c : Nat) (os : List (Int × Int)) (w : World) (hn : os.length ≤ 1048576) (hm : RowP w a os) (ok : Bool) (hok : elemOk os = ok) :
    Calls Try.prog 52 #[.agg #[.slice a os.length c]] w fun e w' => e = .returned (.bool ok) ∧ w.Ext w' := by
  have HM := Lib.hid hm
  have HOK := Lib.hid hok
  have hn2 : os.length ≤ 4611686018427387904 := by omega
  have HBAD : Hid (∀ i, i < os.length → elemAt os i = false → ok = false) := fun i hi h => by
    rw [← HOK.out]
    unfold elemOk
    have h1 : (List.range os.length).all (elemAt os) = false := by
      rw [Bool.eq_false_iff]
      intro h2
      rw [elemOk_all] at h2
      rw [h2 i hi] at h
      cases h
    rw [h1, Bool.false_and]
  clear hm hok
  go_enter Try.func52, Try.ntmps52
  have hx0 : w.Ext (w.alloc (.cells #[.slice a os.length c] 48)) := by repeat (first | exact World.Ext.refl _ | exact ⟨_, rfl⟩ | assumption | refine World.Ext.over ?_ _ | refine World.Ext.drewN ?_ _ | refine World.Ext.drew ?_ | refine World.Ext.alloc ?_ _ | refine World.Ext.setCell ?_ (by simp) _)
  have hp : (w.alloc (.cells #[.slice a os.length c] 48)).cell? ⟨w.heap.size, 0, none⟩ = some (.slice a os.length c) := by simp [go_sem]
  have HP0 := Lib.hid hp
  have HX0 := Lib.hid hx0
  clear hp hx0
  go_wp2
  have hp := HP0.out
  have hX := HX0.out
  generalize w.alloc (.cells #[.slice a os.length c] 48) = W1 at hp hX ⊢
  clear HP0 HX0
  obtain ⟨pb, hpb⟩ : ∃ pb, pb = w.heap.size := ⟨_, rfl⟩
  rw [← hpb] at hp ⊢
  clear hpb
  go_loopw [3, 4, 8] (fun _ _ i wr => ∃ k : Nat, k ≤ os.length ∧ i = .int .i64 k ∧ Hid (∀ i, i < k → elemAt os i = true) ∧ Hid (W1.Ext wr)) (fun _ _ i _ => os.length - (intOf i).toNat)
  case atStart => exact ⟨0, Nat.zero_le _, rfl, fun r hr => by omega, .refl _⟩
  case round =>
    obtain ⟨k, hk, rfl, HK, HX⟩ := hrel
    have hpr := HX.out.cell hp
    by_cases hlt : k < os.length
    · obtain ⟨b, o, rfl, hc1, hc2⟩ := (HM.out.ext (hX.trans HX.out)).at hlt
      have hk0 : (0 : Int) ≤ (k : Int) := by omega
      have hlt' : (k : Int) < (os.length : Int) := by omega
      have HB := Lib.hid (HBAD.out k hlt)
      have HN : Hid (elemAt os k = true → ∀ i, i < k + 1 → elemAt os i = true) := fun h i hi => by
        by_cases e : i = k
        · rw [e]; exact h
        · exact HK.out i (by omega)
      have hblt := World.block_lt_of_cell? wr _ hc1
      have hplt := World.block_lt_of_cell? wr _ hpr
      unfold elemAt offOk at HB HN
      by_cases hk1 : k = 0
      · have hk2 : ¬ (0 < (k : Int)) := by omega
        have hk3 : decide (0 < k) = false := decide_eq_false (by omega)
        rw [decide_eq_true hk1, Bool.true_or, Bool.and_true] at HB HN
        clear hk1
        generalize os.getD k (0, 0) = q at hc1 hc2 HB HN
        obtain ⟨x, y⟩ := q
        dsimp only at hc1 hc2 HB HN
        cases hx : inB x (-4) 4
        · have hf := HB.out (by rw [hx]; rfl)
          subst hf
          have HX1 := Lib.hid hx
          clear hx HB HN
          go_wp2_with fail
          refine wp_region_over_lit (by kernel_rfl) (by kernel_rfl) ?_; (repeat (go_big_quiet_step ((go_at_call 93; exact Calls.over_of (in_any x _ _ _ _ HX1.out))))); refine wpQuiet_nil ?_; rintro _ ⟨x1, rfl⟩
          go_wp2
          go_ret
          refine ⟨rfl, (hX.trans HX.out).trans ?_⟩
          repeat (first | exact World.Ext.refl _ | exact ⟨_, rfl⟩ | assumption | refine World.Ext.over ?_ _ | refine World.Ext.drewN ?_ _ | refine World.Ext.drew ?_ | refine World.Ext.alloc ?_ _ | refine World.Ext.setCell ?_ (by simp) _)
        · have HX1 := Lib.hid hx
          rw [hx, Bool.true_and] at HB HN
          clear hx
          cases hy : inB y (-4) 4
          · have hf := HB.out hy
            subst hf
            have HY1 := Lib.hid hy
            clear hy HB HN
            go_wp2_with fail
            refine wp_region_over_lit (by kernel_rfl) (by kernel_rfl) ?_; (repeat (go_big_quiet_step ((first | (go_at_call_of 93 (Value.int .i64 x); exact Calls.over_of (in_any x _ _ _ _ HX1.out)) | (go_at_call_of 93 (Value.int .i64 y); exact Calls.over_of (in_any y _ _ _ _ HY1.out)))))); refine wpQuiet_nil ?_; rintro _ ⟨x1, rfl⟩
            go_wp2
            go_ret
            refine ⟨rfl, (hX.trans HX.out).trans ?_⟩
            repeat (first | exact World.Ext.refl _ | exact ⟨_, rfl⟩ | assumption | refine World.Ext.over ?_ _ | refine World.Ext.drewN ?_ _ | refine World.Ext.drew ?_ | refine World.Ext.alloc ?_ _ | refine World.Ext.setCell ?_ (by simp) _)
          · have HN1 := Lib.hid (HN.out hy)
            have HY1 := Lib.hid hy
            clear hy HB HN
            go_wp2_with fail
            refine wp_region_over_lit (by kernel_rfl) (by kernel_rfl) ?_; (repeat (go_big_quiet_step ((first | (go_at_call_of 93 (Value.int .i64 x); exact Calls.over_of (in_any x _ _ _ _ HX1.out)) | (go_at_call_of 93 (Value.int .i64 y); exact Calls.over_of (in_any y _ _ _ _ HY1.out)))))); refine wpQuiet_nil ?_; rintro _ ⟨x1, rfl⟩
            go_wp2
            go_roundw
            case rel => exact ⟨k + 1, by omega, by go_num, HN1.out, HX.out.trans (by repeat (first | exact World.Ext.refl _ | exact ⟨_, rfl⟩ | assumption | refine World.Ext.over ?_ _ | refine World.Ext.drewN ?_ _ | refine World.Ext.drew ?_ | refine World.Ext.alloc ?_ _ | refine World.Ext.setCell ?_ (by simp) _))⟩
            case measure => simp [intOf]; omega
      · obtain ⟨j, rfl⟩ : ∃ j, k = j + 1 := ⟨k - 1, by omega⟩
        obtain ⟨b', o', hbo, hd1, hd2⟩ := (HM.out.ext (hX.trans HX.out)).at (show j < os.length by omega)
        cases hbo
        rw [decide_eq_false (by omega : ¬ (j + 1 = 0)), Bool.false_or, Nat.add_sub_cancel] at HB HN
        have hk2 : 0 < ((j + 1 : Nat) : Int) := by omega
        have hw1 : IntKind.i64.wrap (((j + 1 : Nat) : Int) - 1) = (j : Int) := by rw [IntWalk.i64_in _ (by omega)]; omega
        have hj0 : (0 : Int) ≤ (j : Int) := by omega
        have hjl : (j : Int) < (os.length : Int) := by omega
        have HW1 := Lib.hid hw1
        generalize os.getD (j + 1) (0, 0) = q at hc1 hc2 HB HN
        generalize os.getD j (0, 0) = r at hd1 hd2 HB HN
        obtain ⟨x, y⟩ := q
        obtain ⟨x2, y2⟩ := r
        dsimp only at hc1 hc2 hd1 hd2 HB HN
        cases hx : inB x (-4) 4
        · have hf := HB.out (by rw [hx]; rfl)
          subst hf
          have HX1 := Lib.hid hx
          clear hx HB HN hw1
          go_wp2_with fail
          refine wp_region_over_lit (by kernel_rfl) (by kernel_rfl) ?_; (repeat (go_big_quiet_step ((go_at_call 93; exact Calls.over_of (in_any x _ _ _ _ HX1.out))))); refine wpQuiet_nil ?_; rintro _ ⟨x1, rfl⟩
          go_wp2
          go_ret
          refine ⟨rfl, (hX.trans HX.out).trans ?_⟩
          repeat (first | exact World.Ext.refl _ | exact ⟨_, rfl⟩ | assumption | refine World.Ext.over ?_ _ | refine World.Ext.drewN ?_ _ | refine World.Ext.drew ?_ | refine World.Ext.alloc ?_ _ | refine World.Ext.setCell ?_ (by simp) _)
        · have HX1 := Lib.hid hx
          rw [hx, Bool.true_and] at HB HN
          clear hx
          cases hy : inB y (-4) 4
          · have hf := HB.out (by rw [hy]; rfl)
            subst hf
            have HY1 := Lib.hid hy
            clear hy HB HN hw1
            go_wp2_with fail
            refine wp_region_over_lit (by kernel_rfl) (by kernel_rfl) ?_; (repeat (go_big_quiet_step ((first | (go_at_call_of 93 (Value.int .i64 x); exact Calls.over_of (in_any x _ _ _ _ HX1.out)) | (go_at_call_of 93 (Value.int .i64 y); exact Calls.over_of (in_any y _ _ _ _ HY1.out)))))); refine wpQuiet_nil ?_; rintro _ ⟨x1, rfl⟩
            go_wp2
            go_ret
            refine ⟨rfl, (hX.trans HX.out).trans ?_⟩
            repeat (first | exact World.Ext.refl _ | exact ⟨_, rfl⟩ | assumption | refine World.Ext.over ?_ _ | refine World.Ext.drewN ?_ _ | refine World.Ext.drew ?_ | refine World.Ext.alloc ?_ _ | refine World.Ext.setCell ?_ (by simp) _)
          · have HY1 := Lib.hid hy
            rw [hy, Bool.true_and] at HB HN
            clear hy
            cases hb : befB (x2, y2) (x, y)
            · have hf := HB.out hb
              subst hf
              obtain ⟨u, hu, hul⟩ := ord_false hb
              have HB1 := Lib.hid (fun w => spotOrder_any (x2, y2) (x, y) w u hu)
              clear hu
              clear hb HB HN
              go_wp2_with fail
              refine wp_region_over_lit (by kernel_rfl) (by kernel_rfl) ?_; (repeat (go_big_quiet_step ((first | (go_at_call_of 93 (Value.int .i64 x); exact Calls.over_of (in_any x _ _ _ _ HX1.out)) | (go_at_call_of 93 (Value.int .i64 y); exact Calls.over_of (in_any y _ _ _ _ HY1.out)) | (go_at_call 57; exact Calls.over_of (HB1.out _)))))); refine wpQuiet_nil ?_; rintro _ ⟨x1, rfl⟩
              go_wp2
              go_ret
              refine ⟨rfl, (hX.trans HX.out).trans ?_⟩
              repeat (first | exact World.Ext.refl _ | exact ⟨_, rfl⟩ | assumption | refine World.Ext.over ?_ _ | refine World.Ext.drewN ?_ _ | refine World.Ext.drew ?_ | refine World.Ext.alloc ?_ _ | refine World.Ext.setCell ?_ (by simp) _)
            · have HN1 := Lib.hid (HN.out hb)
              obtain ⟨u, hu, hul⟩ := ord_true hb
              have HB1 := Lib.hid (fun w => spotOrder_any (x2, y2) (x, y) w u hu)
              clear hu
              clear hb HB HN
              go_wp2_with fail
              refine wp_region_over_lit (by kernel_rfl) (by kernel_rfl) ?_; (repeat (go_big_quiet_step ((first | (go_at_call_of 93 (Value.int .i64 x); exact Calls.over_of (in_any x _ _ _ _ HX1.out)) | (go_at_call_of 93 (Value.int .i64 y); exact Calls.over_of (in_any y _ _ _ _ HY1.out)) | (go_at_call 57; exact Calls.over_of (HB1.out _)))))); refine wpQuiet_nil ?_; rintro _ ⟨x1, rfl⟩
              go_wp2
              go_roundw
              case rel => exact ⟨j + 1 + 1, by omega, by go_num, HN1.out, HX.out.trans (by repeat (first | exact World.Ext.refl _ | exact ⟨_, rfl⟩ | assumption | refine World.Ext.over ?_ _ | refine World.Ext.drewN ?_ _ | refine World.Ext.drew ?_ | refine World.Ext.alloc ?_ _ | refine World.Ext.setCell ?_ (by simp) _))⟩
              case measure => simp [intOf]; omega
    · have : k = os.length := by omega
      subst this
      have HA := Lib.hid (elemOk_all.2 HK.out)
      have HV : Hid (ok = inB os.length 1 50) := by show _ = _; rw [← HOK.out]; unfold elemOk; rw [HA.out, Bool.true_and]
      have hpr := HX.out.cell hp
      go_wp2_with fail
      refine (in_any _ _ _ _ _ HV.out.symm).mono ?_
      rintro e w' ⟨rfl, x1, rfl⟩
      go_wp2
      go_ret
      exact ⟨rfl, (hX.trans HX.out).over _⟩
/-- All offsets of an element are small. -/
def Small (os : List (Int × Int)) : Prop := ∀ i, i < os.length → -4 ≤ (os.getD i (0, 0)).1 ∧ (os.getD i (0, 0)).1 ≤ 4 ∧ -4 ≤ (os.getD i (0, 0)).2 ∧ (os.getD i (0, 0)).2 ≤ 4
def someB (W H : Nat) (l : List Bool) (os : List (Int × Int)) (x y : Int) : Bool := os.any fun o => pxl W H l (x - o.1) (y - o.2)
def fitsB (W H : Nat) (l : List Bool) (os : List (Int × Int)) (x y : Int) : Bool := os.all fun o => pxl W H l (x + o.1) (y + o.2)
theorem any_true {α : Type} {p : α → Bool} {xs : List α} {d : α} {k : Nat} (hk : k < xs.length) (h : p (xs.getD k d) = true) : xs.any p = true := by
  rw [List.any_eq_true]
  exact ⟨xs.getD k d, by rw [List.getD_eq_getElem?_getD, List.getElem?_eq_getElem hk]; exact List.getElem_mem hk, h⟩
theorem any_false {α : Type} {p : α → Bool} {xs : List α} {d : α} (h : ∀ i, i < xs.length → p (xs.getD i d) = false) : xs.any p = false := by
  rw [List.any_eq_false]
  intro x hx
  obtain ⟨i, hi, rfl⟩ := List.getElem_of_mem hx
  have := h i hi
  rw [List.getD_eq_getElem?_getD, List.getElem?_eq_getElem hi, Option.getD_some] at this
  rw [this]
  simp
def openB (W H : Nat) (l : List Bool) (os : List (Int × Int)) (x y : Int) : Bool := os.any fun o => fitsB W H l os (x - o.1) (y - o.2)
def closeB (W H : Nat) (l : List Bool) (os : List (Int × Int)) (x y : Int) : Bool := os.all fun o => someB W H l os (x + o.1) (y + o.2)
def npxl (W H : Nat) (l : List Bool) (x y : Int) : Bool := !pxl W H l x y
set_option maxHeartbeats 400000 in
theorem dilated11_any (pm px py b ab W H : Nat) (l : List Bool) (x y : Int) (q : Int × Int) (w : World) (hW : W ≤ 64) (hH : H ≤ 64) (hI : Img w b ab W H l)
    (hm : w.cell? ⟨pm, 0, none⟩ = some (.pointer (some ⟨b, 0, none⟩))) (hpx : w.cell? ⟨px, 0, none⟩ = some (.int .i64 x)) (hpy : w.cell? ⟨py, 0, none⟩ = some (.int .i64 y))
    (bx : -1000 ≤ x ∧ x ≤ 1000) (by' : -1000 ≤ y ∧ y ≤ 1000) (bq : -4 ≤ q.1 ∧ q.1 ≤ 4 ∧ -4 ≤ q.2 ∧ q.2 ≤ 4) :
    Calls Try.prog 100 #[spotV q, .pointer (some ⟨pm, 0, none⟩), .pointer (some ⟨px, 0, none⟩), .pointer (some ⟨py, 0, none⟩)] w fun e w' => e = .returned (.bool (pxl W H l (x - q.1) (y - q.2))) ∧ w.Ext w' := by
  have h1 := World.block_lt_of_cell? _ _ hm
  have h2 := World.block_lt_of_cell? _ _ hpx
  have h3 := World.block_lt_of_cell? _ _ hpy
  have HI := Lib.hid hI
  obtain ⟨bx1, bx2⟩ := bx
  obtain ⟨by1, by2⟩ := by'
  obtain ⟨q1, q2⟩ := q
  obtain ⟨bq1, bq2, bq3, bq4⟩ := bq
  dsimp only at bq1 bq2 bq3 bq4
  unfold spotV
  clear hI
  go_enter Try.func100, Try.ntmps100
  go_wp2_with fail
  refine (get_any b ab W H l _ _ _ hW hH (HI.out.ext (by simp)) _ rfl).mono ?_
  rintro e w2 ⟨rfl, hx⟩
  go_wp2
  go_ret
  exact ⟨rfl, .trans (by simp) hx⟩
theorem enters_dilated11 : Enters 100 := enters_of Try.func100 (by kernel_rfl) (by kernel_rfl)
def homB (W H : Nat) (l : List Bool) (os ms : List (Int × Int)) (x y : Int) : Bool := fitsB W H l os x y && ms.all fun o => npxl W H l (x + o.1) (y + o.2)
set_option maxHeartbeats 400000 in
theorem dilated1_any (pl pm b ab W H : Nat) (l : List Bool) (ae : Option Addr) (ce : Nat) (os : List (Int × Int)) (x y : Int) (w : World) (hW : W ≤ 64) (hH : H ≤ 64) (hI : Img w b ab W H l) (hn : os.length ≤ 1048576) (hml : RowP w ae os) (hs : Small os)
    (hm : w.cell? ⟨pm, 0, none⟩ = some (.pointer (some ⟨b, 0, none⟩))) (hl : w.cell? ⟨pl, 0, none⟩ = some (.slice ae os.length ce)) (bx : -900 ≤ x ∧ x ≤ 900) (by' : -900 ≤ y ∧ y ≤ 900) :
    Calls Try.prog 98 #[.int .i64 x, .int .i64 y, .pointer (some ⟨pl, 0, none⟩), .pointer (some ⟨pm, 0, none⟩)] w fun e w' => e = .returned (.bool (someB W H l os x y)) ∧ w.Ext w' := by
  have h3 := World.block_lt_of_cell? _ _ hm
  have h4 := World.block_lt_of_cell? _ _ hl
  have hx0 : w.Ext ((w.alloc (.cells #[.int .i64 x] 2)).alloc (.cells #[.int .i64 y] 2)) := by repeat (first | exact World.Ext.refl _ | exact ⟨_, rfl⟩ | assumption | refine World.Ext.over ?_ _ | refine World.Ext.drewN ?_ _ | refine World.Ext.drew ?_ | refine World.Ext.alloc ?_ _ | refine World.Ext.setCell ?_ (by simp) _)
  have HA := Lib.hid (some_any ae ce 100 #[.pointer (some ⟨pm, 0, none⟩), .pointer (some ⟨w.heap.size, 0, none⟩), .pointer (some ⟨w.heap.size + 1, 0, none⟩)] os (fun o => pxl W H l (x - o.1) (y - o.2)) _ hn (hml.ext hx0) enters_dilated11 (fun w' hx i hi => dilated11_any _ _ _ b ab W H l x y _ w' hW hH (hI.ext (hx0.trans hx)) ((hx0.trans hx).cell hm) (hx.cell (by simp [go_sem])) (hx.cell (by simp [go_sem])) (by omega) (by omega) (hs i hi)))
  unfold someB
  generalize (os.any fun o => pxl W H l (x - o.1) (y - o.2)) = t at HA ⊢
  have HX0 := Lib.hid hx0
  clear hx0 hI hn hml hs bx by'
  go_enter Try.func98, Try.ntmps98
  go_wp2_with fail
  refine HA.out.mono ?_
  rintro e w2 ⟨rfl, hx⟩
  go_wp2
  go_ret
  exact ⟨rfl, HX0.out.trans hx⟩
theorem enters_dilated1 : Enters 98 := enters_of Try.func98 (by kernel_rfl) (by kernel_rfl)
set_option maxHeartbeats 800000 in
theorem dilated_any (b ab W H : Nat) (l : List Bool) (ae : Option Addr) (ce : Nat) (os : List (Int × Int)) (w : World) (hW : W ≤ 64) (hH : H ≤ 64) (hI : Img w b ab W H l) (hn : os.length ≤ 1048576) (hml : RowP w ae os) (hs : Small os) :
    Calls Try.prog 56 #[.pointer (some ⟨b, 0, none⟩), .slice ae os.length ce] w (ImgRet w W H (mkl W H fun x y => someB W H l os x y)) := by
  have h0 := hI.c0
  have h1 := hI.c1
  have hlt := hI.lt
  have hx0 : w.Ext ((w.alloc (.cells #[.pointer (some ⟨b, 0, none⟩)] 72)).alloc (.cells #[.slice ae os.length ce] 42)) := by repeat (first | exact World.Ext.refl _ | exact ⟨_, rfl⟩ | assumption | refine World.Ext.over ?_ _ | refine World.Ext.drewN ?_ _ | refine World.Ext.drew ?_ | refine World.Ext.alloc ?_ _ | refine World.Ext.setCell ?_ (by simp) _)
  have hc1 : ((w.alloc (.cells #[.pointer (some ⟨b, 0, none⟩)] 72)).alloc (.cells #[.slice ae os.length ce] 42)).cell? ⟨w.heap.size, 0, none⟩ = some (.pointer (some ⟨b, 0, none⟩)) := by simp [go_sem]
  have hc2 : ((w.alloc (.cells #[.pointer (some ⟨b, 0, none⟩)] 72)).alloc (.cells #[.slice ae os.length ce] 42)).cell? ⟨w.heap.size + 1, 0, none⟩ = some (.slice ae os.length ce) := by simp [go_sem]
  have HM := Lib.hid (fun w1 (hx1 : World.Ext _ w1) => made_any W H 98 #[.pointer (some ⟨w.heap.size + 1, 0, none⟩), .pointer (some ⟨w.heap.size, 0, none⟩)] (fun x y => someB W H l os x y) w1 hW hH enters_dilated1 (fun w' hx x y hxW hyH => dilated1_any _ _ b ab W H l ae ce os x y w' hW hH (hI.ext ((hx0.trans hx1).trans hx)) hn (hml.ext ((hx0.trans hx1).trans hx)) hs ((hx1.trans hx).cell hc1) ((hx1.trans hx).cell hc2) (by omega) (by omega)))
  have HX0 := Lib.hid hx0
  clear hx0 hI hn hml hs hc1 hc2
  go_enter Try.func56, Try.ntmps56
  go_wp2_with fail
  refine wp_region_over_tail 9 (by kernel_rfl) (by kernel_rfl) ?_; simp only [List.take_succ_cons, List.take_zero, List.drop_succ_cons, List.drop_zero]; (repeat (go_big_quiet_step (fail))); refine wpQuiet_nil ?_; rintro _ ⟨x1, rfl⟩
  go_wp2_with fail
  refine (HM.out _ ⟨x1, rfl⟩).mono ?_
  rintro e w2 ⟨b2, ab2, rfl, hx2, hi2, hb2, hab2⟩
  have hx3 := (HX0.out.over x1).trans hx2
  have hb3 : w.heap.size ≤ b2 := by have := HX0.out.size; simp at hb2; omega
  have hab3 : w.heap.size ≤ ab2 := by have := HX0.out.size; simp at hab2; omega
  have HR := Lib.hid (And.intro hx3 hi2)
  clear hx3 hx2 hi2
  go_wp2
  go_ret
  exact ⟨b2, ab2, rfl, HR.out.1, HR.out.2, hb3, hab3⟩
theorem enters_withElement1 : Enters 96 := enters_of Try.func96 (by kernel_rfl) (by kernel_rfl)
set_option maxRecDepth 5000 in
set_option maxHeartbeats 1600000 in
theorem withElement_any (a : Option Addr) (c f : Nat) (caps : Array Value) (ss : List ByteArray) (ae : Option Addr) (ce : Nat) (os : List (Int × Int)) (good : Bool) (W H : Nat) (l : List Bool) (w : World) (hn : ss.length ≤ 1048576) (hsz : ∀ y, (ss.getD y ByteArray.empty).size ≤ 1048576) (hm : RowS w a ss) (hne : os.length ≤ 1048576) (hme : RowP w ae os) (he : Enters f) (hW1 : picOk ss = true → good = true → 1 ≤ W ∧ W ≤ 64 ∧ H ≤ 64)
    (hf : ∀ w' b ab, elemOk os = true → picOk ss = true → w.Ext w' → Img w' b ab (picW ss) ss.length (picL ss) → Calls Try.prog f (#[.pointer (some ⟨b, 0, none⟩), .slice ae os.length ce] ++ caps) w' (DoRet w' good W H l)) :
    Calls Try.prog 55 #[.agg #[.slice a ss.length c], .agg #[.slice ae os.length ce], .func (.func f) #[] caps] w (PicRet2 w (optRows (elemOk os && (picOk ss && good)) (picRows W H l)) (elemOk os && (picOk ss && good))) := by
  have HVE : Hid (∀ w', w.Ext w' → Calls Try.prog 52 #[.agg #[.slice ae os.length ce]] w' fun e w'' => e = .returned (.bool (elemOk os)) ∧ w'.Ext w'') := fun w' hx => validElement_any ae ce os w' hne (hme.ext hx) _ rfl
  unfold Enters at he
  have hx0 : w.Ext ((((w.alloc (.cells #[.slice a ss.length c] 26)).alloc (.cells #[.slice ae os.length ce] 48)).alloc (.cells #[.func (.func f) #[] caps] 103)).alloc (.cells #[.slice none 0 0] 26)) := by repeat (first | exact World.Ext.refl _ | exact ⟨_, rfl⟩ | assumption | refine World.Ext.over ?_ _ | refine World.Ext.drewN ?_ _ | refine World.Ext.drew ?_ | refine World.Ext.alloc ?_ _ | refine World.Ext.setCell ?_ (by simp) _)
  have hce : ((((w.alloc (.cells #[.slice a ss.length c] 26)).alloc (.cells #[.slice ae os.length ce] 48)).alloc (.cells #[.func (.func f) #[] caps] 103)).alloc (.cells #[.slice none 0 0] 26)).cell? ⟨w.heap.size + 1, 0, none⟩ = some (.slice ae os.length ce) := by simp [go_sem]
  have hcf : ((((w.alloc (.cells #[.slice a ss.length c] 26)).alloc (.cells #[.slice ae os.length ce] 48)).alloc (.cells #[.func (.func f) #[] caps] 103)).alloc (.cells #[.slice none 0 0] 26)).cell? ⟨w.heap.size + 1 + 1, 0, none⟩ = some (.func (.func f) #[] caps) := by simp [go_sem]
  have hcp : ((((w.alloc (.cells #[.slice a ss.length c] 26)).alloc (.cells #[.slice ae os.length ce] 48)).alloc (.cells #[.func (.func f) #[] caps] 103)).alloc (.cells #[.slice none 0 0] 26)).cell? ⟨w.heap.size, 0, none⟩ = some (.slice a ss.length c) := by simp [go_sem]
  have hcr : One ((((w.alloc (.cells #[.slice a ss.length c] 26)).alloc (.cells #[.slice ae os.length ce] 48)).alloc (.cells #[.func (.func f) #[] caps] 103)).alloc (.cells #[.slice none 0 0] 26)) (w.heap.size + 1 + 1 + 1) 26 (.slice none 0 0) := One.new _ _ _ _ (by simp)
  have H0 := Lib.hid (And.intro hx0 (And.intro hce (And.intro hcf (And.intro hcp hcr))))
  clear hx0 hce hcf hcp hcr
  cases h1 : elemOk os
  · rw [h1] at HVE
    clear hm hn hsz hf hW1 hne hme h1
    show Calls _ _ _ _ (PicRet2 w [] false)
    go_enter Try.func55, Try.ntmps55
    go_wp2_with fail
    refine (HVE.out _ H0.out.1).mono ?_
    rintro e w1 ⟨rfl, hx1⟩
    obtain ⟨r1, r2, r3, HR⟩ := Res.store (f := Value.string) (d := ByteArray.empty) (a := none) (xs := []) (lo := w.heap.size + 4) (.slice none 0 0) (H0.out.1.trans hx1) (by omega) (H0.out.2.2.2.2.ext hx1) (by omega) (OwnOf.nil _ _)
    clear H0 hx1
    go_wp2
    exact bodyPost_ret (v := .tuple #[.agg #[.slice none 0 0], .bool false]) (by simp [results, Try.results55, go_sem, r3]) rfl ⟨none, 0, rfl, HR.out.1, OwnOf.nil _ _⟩
  · rw [h1] at HVE
    rw [Bool.true_and]
    have HWI : Hid (∀ w1, ((((w.alloc (.cells #[.slice a ss.length c] 26)).alloc (.cells #[.slice ae os.length ce] 48)).alloc (.cells #[.func (.func f) #[] caps] 103)).alloc (.cells #[.slice none 0 0] 26)).Ext w1 → _) := fun w1 hx1 =>
      withImage_any a c 96 #[.pointer (some ⟨w.heap.size + 1 + 1, 0, none⟩), .pointer (some ⟨w.heap.size + 1, 0, none⟩)] ss good W H l w1 hn hsz (hm.ext (H0.out.1.trans hx1)) enters_withElement1 hW1 (fun w' b ab hok hx hI => by
        have HC := Lib.hid (hf w' b ab h1 hok ((H0.out.1.trans hx1).trans hx) hI)
        have e1 := (hx1.trans hx).cell H0.out.2.1
        have e2 := (hx1.trans hx).cell H0.out.2.2.1
        clear hf hI hx hok hW1 hm hsz hn hne hme h1 HVE H0 hx1
        go_enter Try.func96, Try.ntmps96
        go_wp2_with fail
        refine HC.out.mono ?_
        cases good
        · intro e w2 hd
          obtain ⟨rfl, hx2⟩ := DoRet.no hd
          clear hd
          have HX := Lib.hid hx2
          clear hx2
          go_wp2
          go_ret
          exact ⟨rfl, HX.out⟩
        · intro e w2 hd
          obtain ⟨b2, ab2, rfl, h5⟩ := DoRet.yes hd
          clear hd
          have HX := Lib.hid h5
          clear h5
          go_wp2
          go_ret
          exact ⟨b2, ab2, rfl, HX.out⟩)
    clear hm hn hsz hf hW1 hne hme h1
    generalize optRows (picOk ss && good) (picRows W H l) = R at HWI ⊢
    generalize (picOk ss && good) = ok at HWI ⊢
    go_enter Try.func55, Try.ntmps55
    go_wp2_with fail
    refine (HVE.out _ H0.out.1).mono ?_
    rintro e w1 ⟨rfl, hx1⟩
    have e1 := hx1.cell H0.out.2.2.2.1
    have HW := Lib.hid (HWI.out w1 hx1)
    have HR1 := Lib.hid (H0.out.2.2.2.2.ext hx1)
    have HX1 := Lib.hid (H0.out.1.trans hx1)
    clear hx1 HWI H0 HVE
    go_wp2_with fail
    refine HW.out.mono ?_
    rintro e w2 ⟨a3, c3, rfl, hx3, ho3⟩
    obtain ⟨r1, r2, r3, HR⟩ := Res.store (.slice a3 R.length c3) (HX1.out.trans hx3) (by omega) (HR1.out.ext hx3) HR1.out.lt ho3
    clear hx3 ho3
    go_wp2
    exact bodyPost_ret (v := .tuple #[.agg #[.slice a3 R.length c3], .bool ok]) (by simp [results, Try.results55, go_sem, r3]) rfl ⟨a3, c3, rfl, HR.out.1, HR.out.2⟩
theorem enters_dilated : Enters 56 := enters_of Try.func56 (by kernel_rfl) (by kernel_rfl)
set_option maxHeartbeats 800000 in
theorem implDilate_any (a : Option Addr) (c : Nat) (ss : List ByteArray) (ae : Option Addr) (ce : Nat) (os : List (Int × Int)) (w : World) (hb : PicBnd ss) (hbe : PairBnd os) (hm : RowS w a ss) (hme : RowP w ae os) :
    Calls Try.prog 20 #[.agg #[.slice a ss.length c], .agg #[.slice ae os.length ce]] w (PicRet2 w (rowsIf ss (picOk ss && elemOk os) fun x y => someB (picW ss) ss.length (picL ss) os x y) (picOk ss && elemOk os)) := by
  have hx0 : w.Ext (((w.alloc (.cells #[.slice a ss.length c] 26)).alloc (.cells #[.slice ae os.length ce] 48)).alloc (.cells #[.slice none 0 0] 26)) := by repeat (first | exact World.Ext.refl _ | exact ⟨_, rfl⟩ | assumption | refine World.Ext.over ?_ _ | refine World.Ext.drewN ?_ _ | refine World.Ext.drew ?_ | refine World.Ext.alloc ?_ _ | refine World.Ext.setCell ?_ (by simp) _)
  have hcr : One (((w.alloc (.cells #[.slice a ss.length c] 26)).alloc (.cells #[.slice ae os.length ce] 48)).alloc (.cells #[.slice none 0 0] 26)) (w.heap.size + 1 + 1) 26 (.slice none 0 0) := One.new _ _ _ _ (by simp)
  have HW := Lib.hid (withElement_any a c 56 #[] ss ae ce os true (picW ss) ss.length (mkl (picW ss) ss.length fun x y => someB (picW ss) ss.length (picL ss) os x y) _ hb.1 hb.2 (hm.ext hx0) hbe (hme.ext hx0) enters_dilated
    (fun h _ => by obtain ⟨q1, q2, q3, q4, _⟩ := picOk_spec h; omega)
    (fun w' b ab he hp hx hI => by
      obtain ⟨q1, q2, q3, q4, _⟩ := picOk_spec hp
      obtain ⟨_, _, e3⟩ := elemOk_spec he
      exact dilated_any b ab _ _ _ ae ce os w' (by omega) (by omega) hI hbe (hme.ext (hx0.trans hx)) e3))
  rw [optRows_and, Bool.and_true, Bool.and_comm (elemOk os), ← rowsIf_opt] at HW
  have H0 := Lib.hid (And.intro hx0 hcr)
  clear hb hbe hm hme hx0 hcr
  generalize rowsIf ss (picOk ss && elemOk os) (fun x y => someB (picW ss) ss.length (picL ss) os x y) = R at *
  generalize (picOk ss && elemOk os) = ok at *
  go_enter Try.func20, Try.ntmps20
  go_wp2_with fail
  refine HW.out.mono ?_
  rintro e w2 ⟨a3, c3, rfl, hx3, ho3⟩
  obtain ⟨r1, r2, r3, HR⟩ := Res.store (.slice a3 R.length c3) (H0.out.1.trans hx3) (by omega) (H0.out.2.ext hx3) H0.out.2.lt ho3
  clear hx3 ho3
  go_wp2
  exact bodyPost_ret (v := .tuple #[.agg #[.slice a3 R.length c3], .bool ok]) (by simp [results, Try.results20, go_sem, r3]) rfl ⟨a3, c3, rfl, HR.out.1, HR.out.2⟩
def homOk (ss : List ByteArray) (os ms : List (Int × Int)) : Bool := (picOk ss && elemOk os) && elemOk ms
theorem homOk_and (ss : List ByteArray) (os ms : List (Int × Int)) (h : elemOk ms = true) : homOk ss os ms = (elemOk os && (picOk ss && true)) := by unfold homOk; rw [h, Bool.and_true, Bool.and_true, Bool.and_comm]
end Go.Proofs.Ytkpgelhmeokemaa
