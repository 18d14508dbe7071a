/- The program's order of offsets. -/
import Derived.Test.YtpploijlijnahaaIElem
import Derived.Test.YtpploijlijnahaaTail
namespace Go.Proofs.Ytpploijlijnahaa
open Go.RowKit
def ordI (p q : Int × Int) : Int := if cmpI p.2 q.2 = 0 then cmpI p.1 q.1 else cmpI p.2 q.2
set_option maxRecDepth 5000 in
set_option maxHeartbeats 800000 in
theorem or2_any (b : Nat) (x y : Int) (w : World) (h0 : w.cell? ⟨b, 0, none⟩ = some (.int .i64 x)) (h1 : w.cell? ⟨b, 1, none⟩ = some (.int .i64 y)) (t : Int) (ht : (if x = 0 then y else x) = t) :
    Calls Try.prog 172 #[.slice (some ⟨b, 0, none⟩) 2 2] w fun e w' => e = .returned (.int .i64 t) ∧ w.Ext w' := by
  have HT := Lib.hid ht
  clear ht
  go_enter Try.func172, Try.ntmps172
  go_wp2
  go_loopw [5, 8] (fun _ i wr => ∃ k : Nat, k ≤ 2 ∧ i = .int .i64 k ∧ Hid (1 ≤ k → x = 0) ∧ Hid (2 ≤ k → y = 0) ∧ Hid (w.Ext wr)) (fun _ i _ => 2 - (intOf i).toNat)
  case atStart => exact ⟨0, by omega, rfl, fun h => by omega, fun h => by omega, .refl _⟩
  case round =>
    obtain ⟨k, hk, rfl, HA, HB, HX⟩ := hrel
    have hc0 := HX.out.cell h0
    have hc1 := HX.out.cell h1
    by_cases e0 : k = 0
    · subst e0
      by_cases hx : x = 0
      · have hne : (x != 0) = false := by simp; exact hx
        have HX0 := Lib.hid hx
        clear hx
        go_wp2
        go_roundw
        case rel => exact ⟨1, by omega, by go_num, fun _ => HX0.out, fun h => by omega, HX⟩
        case measure => simp [intOf]
      · have hne : (x != 0) = true := by simp; exact hx
        have HV : Hid (x = t) := by show _ = _; rw [← HT.out, if_neg hx]
        clear hx
        go_wp2
        go_ret
        exact ⟨ret_int HV.out, HX.out⟩
    · by_cases e1 : k = 1
      · subst e1
        have HXZ : Hid (x = 0) := HA.out (by omega)
        have hyv : Hid (t = y) := by show _ = _; rw [← HT.out, if_pos HXZ.out]
        by_cases hy : y = 0
        · have hne : (y != 0) = false := by simp; exact hy
          have HY0 := Lib.hid hy
          clear hy
          go_wp2
          go_roundw
          case rel => exact ⟨2, by omega, by go_num, fun _ => HXZ.out, fun _ => HY0.out, HX⟩
          case measure => simp [intOf]
        · have hne : (y != 0) = true := by simp; exact hy
          clear hy
          go_wp2
          go_ret
          exact ⟨ret_int hyv.out.symm, HX.out⟩
      · have e2 : k = 2 := by omega
        subst e2
        have HV : Hid ((0 : Int) = t) := by
          show _ = _
          rw [← HT.out, if_pos (HA.out (by omega)), HB.out (by omega)]
        go_wp2
        go_ret
        exact ⟨ret_int HV.out, HX.out⟩
set_option maxHeartbeats 800000 in
theorem spotOrder_any (p q : Int × Int) (w : World) (t0 : Int) (ht0 : ordI p q = t0) :
    Calls Try.prog 103 #[.agg #[.int .i64 p.1, .int .i64 p.2], .agg #[.int .i64 q.1, .int .i64 q.2]] w fun e w' => e = .returned (.int .i64 t0) ∧ w.Ext w' := by
  subst ht0
  obtain ⟨xa, ya⟩ := p
  obtain ⟨xb, yb⟩ := q
  obtain ⟨u, hu⟩ : ∃ u, cmpI ya yb = u := ⟨_, rfl⟩
  obtain ⟨v, hv⟩ : ∃ v, cmpI xa xb = v := ⟨_, rfl⟩
  obtain ⟨t, ht⟩ : ∃ t, ordI (xa, ya) (xb, yb) = t := ⟨_, rfl⟩
  have HT : Hid ((if u = 0 then v else u) = t) := by show _ = _; rw [← ht, ← hu, ← hv]; rfl
  have HU := Lib.hid hu
  have HV := Lib.hid hv
  rw [ht]
  clear hu hv ht
  dsimp only
  go_enter Try.func103, Try.ntmps103
  go_wp2_with fail
  refine wp_region_over_tail 10 (by kernel_rfl) (by kernel_rfl) ?_; simp only [List.take_succ_cons, List.take_zero, List.drop_succ_cons, List.drop_zero]; (repeat (go_big_quiet_step ((first | (go_at_call_of 173 (Value.int .i64 ya); exact Calls.over_of (compare_any ya yb _ _ HU.out)) | (go_at_call_of 173 (Value.int .i64 xa); exact Calls.over_of (compare_any xa xb _ _ HV.out)))))); refine wpQuiet_nil ?_; rintro _ ⟨x1, rfl⟩
  go_wp2_with fail
  refine (or2_any _ u v _ (by simp [go_sem]) (by simp [go_sem]) _ HT.out).mono ?_
  rintro e w2 ⟨rfl, hx2⟩
  go_wp2
  go_ret
  refine ⟨rfl, World.Ext.trans ?_ hx2⟩
  repeat (first | exact World.Ext.refl _ | exact ⟨_, rfl⟩ | assumption | refine World.Ext.over ?_ _ | refine World.Ext.drewN ?_ _ | refine World.Ext.drew ?_ | refine World.Ext.alloc ?_ _ | refine World.Ext.setCell ?_ (by simp) _)
end Go.Proofs.Ytpploijlijnahaa
