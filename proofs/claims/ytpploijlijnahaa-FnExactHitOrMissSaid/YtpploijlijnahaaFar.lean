/- Distances of two spots, by the reference and by the program. -/
import Derived.Test.YtpploijlijnahaaKit2
namespace Go.Proofs.Ytpploijlijnahaa
open Go.RowKit
def mxI (a b : Int) : Int := if b < a then a else b
theorem mxI_abs {a : Int} (h : -100 ≤ a ∧ a ≤ 100) : 0 ≤ mxI a (-a) ∧ mxI a (-a) ≤ 100 := by unfold mxI; split <;> omega
theorem sq_bd {a : Int} (h0 : 0 ≤ a) (h1 : a ≤ 100) : 0 ≤ a * a ∧ a * a ≤ 10000 := ⟨Int.mul_nonneg h0 h0, by have := Int.mul_le_mul h1 h1 h0 (by omega : (0 : Int) ≤ 100); omega⟩
/-- The distance of a kind, of two spots that are dx and dy apart. -/
def farD (kind x y : Int) : Int := if kind = 0 then x + y else if kind = 1 then mxI x y else x * x + y * y
def farI (kind : Int) (p q : Int × Int) : Int := farD kind (mxI (p.1 - q.1) (q.1 - p.1)) (mxI (p.2 - q.2) (q.2 - p.2))
theorem mxI_diff {a b : Int} (h1 : -50 ≤ a ∧ a ≤ 50) (h2 : -50 ≤ b ∧ b ≤ 50) : 0 ≤ mxI (a - b) (b - a) ∧ mxI (a - b) (b - a) ≤ 100 := by unfold mxI; split <;> omega
theorem farI_bd (kind : Int) {p q : Int × Int} (h1 : -50 ≤ p.1 ∧ p.1 ≤ 50) (h2 : -50 ≤ p.2 ∧ p.2 ≤ 50) (h3 : -50 ≤ q.1 ∧ q.1 ≤ 50) (h4 : -50 ≤ q.2 ∧ q.2 ≤ 50) : 0 ≤ farI kind p q ∧ farI kind p q ≤ 20000 := by
  obtain ⟨a0, a1⟩ := mxI_diff h1 h3
  obtain ⟨b0, b1⟩ := mxI_diff h2 h4
  unfold farI farD
  generalize mxI (p.1 - q.1) (q.1 - p.1) = x at *
  generalize mxI (p.2 - q.2) (q.2 - p.2) = y at *
  have s1 := sq_bd a0 a1
  have s2 := sq_bd b0 b1
  split
  · omega
  · split
    · unfold mxI; split <;> omega
    · omega
theorem farI_comm (kind : Int) (p q : Int × Int) : farI kind p q = farI kind q p := by
  unfold farI
  have h : ∀ a b : Int, mxI a b = mxI b a := fun a b => by unfold mxI; split <;> split <;> omega
  rw [h (p.1 - q.1), h (p.2 - q.2)]
set_option maxHeartbeats 400000 in
theorem l00Max_any (a b : Int) (w : World) (t : Int) (ht : mxI a b = t) :
    Calls Try.prog 192 #[.int .i64 a, .int .i64 b] w fun e w' => e = .returned (.int .i64 t) ∧ w.Ext w' := by
  subst ht
  by_cases h : b < a
  all_goals
    go_enter Try.func192, Try.ntmps192
    go_wp2
    go_ret
    exact ⟨ret_int (by unfold mxI; split <;> omega), .refl _⟩
set_option maxHeartbeats 800000 in
theorem l06Far_any (kind ax ay bx by' : Int) (w : World) (h1 : -50 ≤ ax ∧ ax ≤ 50) (h2 : -50 ≤ ay ∧ ay ≤ 50) (h3 : -50 ≤ bx ∧ bx ≤ 50) (h4 : -50 ≤ by' ∧ by' ≤ 50) (t : Int) (ht : farI kind (ax, ay) (bx, by') = t) :
    Calls Try.prog 183 #[.int .i64 kind, .int .i64 ax, .int .i64 ay, .int .i64 bx, .int .i64 by'] w fun e w' => e = .returned (.int .i64 t) ∧ w.Ext w' := by
  subst ht
  obtain ⟨a0, a1⟩ := mxI_diff h1 h3
  obtain ⟨b0, b1⟩ := mxI_diff h2 h4
  unfold farI farD
  dsimp only
  obtain ⟨x, hx⟩ : ∃ x, mxI (ax - bx) (bx - ax) = x := ⟨_, rfl⟩
  obtain ⟨y, hy⟩ : ∃ y, mxI (ay - by') (by' - ay) = y := ⟨_, rfl⟩
  rw [hx] at a0 a1 ⊢
  rw [hy] at b0 b1 ⊢
  obtain ⟨s1, s2⟩ := sq_bd a0 a1
  obtain ⟨s3, s4⟩ := sq_bd b0 b1
  have HX := Lib.hid hx
  have HY := Lib.hid hy
  clear hx hy
  by_cases k0 : kind = 0
  · subst k0
    go_enter Try.func183, Try.ntmps183
    go_wp2_with fail
    refine (l00Max_any _ _ _ _ HX.out).mono ?_
    rintro e w1 ⟨rfl, x1⟩
    go_wp2_with fail
    refine (l00Max_any _ _ _ _ HY.out).mono ?_
    rintro e w2 ⟨rfl, x2⟩
    go_wp2
    go_ret
    exact ⟨rfl, x1.trans x2⟩
  · have k0' : (kind == 0) = false := by simpa using k0
    by_cases k1 : kind = 1
    · obtain ⟨m, hm⟩ : ∃ m, mxI x y = m := ⟨_, rfl⟩
      have HM := Lib.hid hm
      subst k1
      rw [if_neg (by decide), if_pos rfl, hm]
      clear k0 k0' hm
      go_enter Try.func183, Try.ntmps183
      go_wp2_with fail
      refine (l00Max_any _ _ _ _ HX.out).mono ?_
      rintro e w1 ⟨rfl, x1⟩
      go_wp2_with fail
      refine (l00Max_any _ _ _ _ HY.out).mono ?_
      rintro e w2 ⟨rfl, x2⟩
      go_wp2_with fail
      refine (l00Max_any _ _ _ _ HM.out).mono ?_
      rintro e w3 ⟨rfl, x3⟩
      go_wp2
      go_ret
      exact ⟨rfl, (x1.trans x2).trans x3⟩
    · have k1' : (kind == 1) = false := by simpa using k1
      rw [if_neg k0, if_neg k1]
      clear k0 k1
      go_enter Try.func183, Try.ntmps183
      go_wp2_with fail
      refine (l00Max_any _ _ _ _ HX.out).mono ?_
      rintro e w1 ⟨rfl, x1⟩
      go_wp2_with fail
      refine (l00Max_any _ _ _ _ HY.out).mono ?_
      rintro e w2 ⟨rfl, x2⟩
      go_wp2
      go_ret
      exact ⟨rfl, x1.trans x2⟩
set_option maxHeartbeats 400000 in
theorem size_any (a : Int) (w : World) (h : -100 ≤ a ∧ a ≤ 100) (t : Int) (ht : mxI a (-a) = t) :
    Calls Try.prog 185 #[.int .i64 a] w fun e w' => e = .returned (.int .i64 t) ∧ w.Ext w' := by
  obtain ⟨h1, h2⟩ := h
  have HT := Lib.hid ht
  clear ht
  go_enter Try.func185, Try.ntmps185
  go_wp2
  all_goals
    go_ret
    exact ⟨ret_int (by have h5 := HT.out; unfold mxI at h5; split at h5 <;> omega), .refl _⟩
set_option maxHeartbeats 1600000 in
theorem far_any (kind : Int) (p q : Int × Int) (w : World) (h1 : -50 ≤ p.1 ∧ p.1 ≤ 50) (h2 : -50 ≤ p.2 ∧ p.2 ≤ 50) (h3 : -50 ≤ q.1 ∧ q.1 ≤ 50) (h4 : -50 ≤ q.2 ∧ q.2 ≤ 50) (t : Int) (ht : farI kind p q = t) :
    Calls Try.prog 147 #[.int .i64 kind, spotV p, spotV q] w fun e w' => e = .returned (.int .i64 t) ∧ w.Ext w' := by
  subst ht
  obtain ⟨a0, a1⟩ := mxI_diff h1 h3
  obtain ⟨b0, b1⟩ := mxI_diff h2 h4
  unfold farI farD
  obtain ⟨px, py⟩ := p
  obtain ⟨qx, qy⟩ := q
  dsimp only at *
  unfold spotV
  dsimp only
  obtain ⟨h11, h12⟩ := h1
  obtain ⟨h21, h22⟩ := h2
  obtain ⟨h31, h32⟩ := h3
  obtain ⟨h41, h42⟩ := h4
  have HX : Hid (mxI (px - qx) (-(px - qx)) = mxI (px - qx) (qx - px)) := by show _ = _; rw [Int.neg_sub]
  have HY : Hid (mxI (py - qy) (-(py - qy)) = mxI (py - qy) (qy - py)) := by show _ = _; rw [Int.neg_sub]
  generalize mxI (px - qx) (qx - px) = x at *
  generalize mxI (py - qy) (qy - py) = y at *
  obtain ⟨s1, s2⟩ := sq_bd a0 a1
  obtain ⟨s3, s4⟩ := sq_bd b0 b1
  have hw1 : IntKind.i64.wrap (px - qx) = px - qx := IntWalk.i64_in _ (by omega)
  have hw2 : IntKind.i64.wrap (py - qy) = py - qy := IntWalk.i64_in _ (by omega)
  by_cases k0 : kind = 0
  · subst k0
    go_enter Try.func147, Try.ntmps147
    go_wp2_with fail
    refine wp_region_over_lit (by kernel_rfl) (by kernel_rfl) ?_; (repeat (go_big_quiet_step ((first | (go_at_call_of 185 (Value.int .i64 (px - qx)); exact Calls.over_of (size_any _ _ (by omega) _ HX.out)) | (go_at_call_of 185 (Value.int .i64 (py - qy)); exact Calls.over_of (size_any _ _ (by omega) _ HY.out)))))); refine wpQuiet_nil ?_; rintro _ ⟨x1, rfl⟩
    clear hw1 hw2
    go_wp2
    go_ret
    refine ⟨rfl, ?_⟩
    repeat (first | exact World.Ext.refl _ | exact ⟨_, rfl⟩ | assumption | refine World.Ext.over ?_ _ | refine World.Ext.drewN ?_ _ | refine World.Ext.drew ?_ | refine World.Ext.alloc ?_ _ | refine World.Ext.setCell ?_ (by simp) _)
  · have k0' : (kind == 0) = false := by simpa using k0
    by_cases k1 : kind = 1
    · subst k1
      rw [if_neg (by decide), if_pos rfl]
      have HT : Hid (mxI x y = mxI x y) := rfl
      clear k0 k0'
      go_enter Try.func147, Try.ntmps147
      go_wp2_with fail
      refine wp_region_over_lit (by kernel_rfl) (by kernel_rfl) ?_; (repeat (go_big_quiet_step ((first | (go_at_call_of 185 (Value.int .i64 (px - qx)); exact Calls.over_of (size_any _ _ (by omega) _ HX.out)) | (go_at_call_of 185 (Value.int .i64 (py - qy)); exact Calls.over_of (size_any _ _ (by omega) _ HY.out)))))); refine wpQuiet_nil ?_; rintro _ ⟨x1, rfl⟩
      clear hw1 hw2
      go_wp2
      all_goals
        go_ret
        refine ⟨ret_int (by unfold mxI; split <;> omega), ?_⟩
        repeat (first | exact World.Ext.refl _ | exact ⟨_, rfl⟩ | assumption | refine World.Ext.over ?_ _ | refine World.Ext.drewN ?_ _ | refine World.Ext.drew ?_ | refine World.Ext.alloc ?_ _ | refine World.Ext.setCell ?_ (by simp) _)
    · have k1' : (kind == 1) = false := by simpa using k1
      rw [if_neg k0, if_neg k1]
      clear k0 k1
      go_enter Try.func147, Try.ntmps147
      go_wp2_with fail
      refine wp_region_over_lit (by kernel_rfl) (by kernel_rfl) ?_; (repeat (go_big_quiet_step ((first | (go_at_call_of 185 (Value.int .i64 (px - qx)); exact Calls.over_of (size_any _ _ (by omega) _ HX.out)) | (go_at_call_of 185 (Value.int .i64 (py - qy)); exact Calls.over_of (size_any _ _ (by omega) _ HY.out)))))); refine wpQuiet_nil ?_; rintro _ ⟨x1, rfl⟩
      clear hw1 hw2
      go_wp2
      go_ret
      refine ⟨rfl, ?_⟩
      repeat (first | exact World.Ext.refl _ | exact ⟨_, rfl⟩ | assumption | refine World.Ext.over ?_ _ | refine World.Ext.drewN ?_ _ | refine World.Ext.drew ?_ | refine World.Ext.alloc ?_ _ | refine World.Ext.setCell ?_ (by simp) _)
end Go.Proofs.Ytpploijlijnahaa
