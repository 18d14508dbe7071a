/- Orders to sort by: what they hand back, and just what they lay. -/
import Derived.Test.YtmmanehdmnkekaaKit
import Derived.StillTailTactics
import Derived.Sort.Grow
import Derived.Shelf.SlSortCmp.WholeK
namespace Go.Proofs.Ytmmanehdmnkekaa
open Go Go.RowKit Go.Sort
def cmpJ (x y : Int) : Int := if x < y then -1 else if y < x then 1 else 0
def ordJ (p q : Int × Int) : Int := if cmpJ p.2 q.2 = 0 then cmpJ p.1 q.1 else cmpJ p.2 q.2
set_option maxHeartbeats 400000 in
theorem isNaN_eq (x : Int) (w : World) : Calls Try.prog 239 #[.int .i64 x] w fun e w' => e = .returned (.bool false) ∧ w' = w := by
  go_enter Try.func239, Try.ntmps239
  go_wp2
  go_ret
  exact ⟨by simp, rfl⟩
set_option maxHeartbeats 800000 in
theorem compare_eq (x y : Int) (w : World) (t : Int) (ht : cmpJ x y = t) : Calls Try.prog 201 #[.int .i64 x, .int .i64 y] w fun e w' => e = .returned (.int .i64 t) ∧ w' = w := by
  subst ht
  unfold cmpJ
  by_cases h1 : x < y
  · rw [if_pos h1]
    go_enter Try.func201, Try.ntmps201
    go_wp2_with (go_at_call 239; refine (isNaN_eq _ _).mono ?_; rintro e w' ⟨rfl, rfl⟩)
    go_ret
    exact ⟨rfl, rfl⟩
  · rw [if_neg h1]
    by_cases h2 : y < x
    · rw [if_pos h2]
      go_enter Try.func201, Try.ntmps201
      go_wp2_with (go_at_call 239; refine (isNaN_eq _ _).mono ?_; rintro e w' ⟨rfl, rfl⟩)
      go_ret
      exact ⟨rfl, rfl⟩
    · rw [if_neg h2]
      go_enter Try.func201, Try.ntmps201
      go_wp2_with (go_at_call 239; refine (isNaN_eq _ _).mono ?_; rintro e w' ⟨rfl, rfl⟩)
      go_ret
      exact ⟨rfl, rfl⟩
set_option maxRecDepth 5000 in
set_option maxHeartbeats 800000 in
theorem or2_eq (b : Nat) (x y : Int) (w : World) (h0 : w.cell? ⟨b, 0, none⟩ = some (.int .i64 x)) (h1 : w.cell? ⟨b, 1, none⟩ = some (.int .i64 y)) (t : Int) (ht : (if x = 0 then y else x) = t) :
    Calls Try.prog 200 #[.slice (some ⟨b, 0, none⟩) 2 2] w fun e w' => e = .returned (.int .i64 t) ∧ w' = w := by
  have HT := Lib.hid ht
  clear ht
  go_enter Try.func200, Try.ntmps200
  go_wp2
  go_loopw [5, 8] (fun _ i wr => ∃ k : Nat, k ≤ 2 ∧ i = .int .i64 k ∧ Hid (1 ≤ k → x = 0) ∧ Hid (2 ≤ k → y = 0) ∧ Hid (wr = w)) (fun _ i _ => 2 - (intOf i).toNat)
  case atStart => exact ⟨0, by omega, rfl, fun h => by omega, fun h => by omega, rfl⟩
  case round =>
    obtain ⟨k, hk, rfl, HA, HB, HX⟩ := hrel
    have hw := HX.out
    subst hw
    by_cases e0 : k = 0
    · subst e0
      by_cases hx : x = 0
      · have hne : (x != 0) = false := by simp; exact hx
        have HX0 := Lib.hid hx
        clear hx
        go_wp2
        go_roundw
        case rel => exact ⟨1, by omega, by go_num, fun _ => HX0.out, fun h => by omega, by first | exact HX | exact True.intro⟩
        case measure => simp [intOf]
      · have hne : (x != 0) = true := by simp; exact hx
        have HV : Hid (x = t) := by show _ = _; rw [← HT.out, if_neg hx]
        clear hx
        go_wp2
        go_ret
        exact ⟨ret_int HV.out, rfl⟩
    · by_cases e1 : k = 1
      · subst e1
        have HXZ : Hid (x = 0) := HA.out (by omega)
        have hyv : Hid (t = y) := by show _ = _; rw [← HT.out, if_pos HXZ.out]
        by_cases hy : y = 0
        · have hne : (y != 0) = false := by simp; exact hy
          have HY0 := Lib.hid hy
          clear hy
          go_wp2
          go_roundw
          case rel => exact ⟨2, by omega, by go_num, fun _ => HXZ.out, fun _ => HY0.out, by first | exact HX | exact True.intro⟩
          case measure => simp [intOf]
        · have hne : (y != 0) = true := by simp; exact hy
          clear hy
          go_wp2
          go_ret
          exact ⟨ret_int hyv.out.symm, rfl⟩
      · have e2 : k = 2 := by omega
        subst e2
        have HV : Hid ((0 : Int) = t) := by
          show _ = _
          rw [← HT.out, if_pos (HA.out (by omega)), HB.out (by omega)]
        go_wp2
        go_ret
        exact ⟨ret_int HV.out, rfl⟩
set_option maxRecDepth 5000 in
set_option maxHeartbeats 800000 in
theorem spotOrder_grow (xa ya xb yb : Int) (w : World) (t : Int) (ht : ordJ (xa, ya) (xb, yb) = t) :
    Calls Try.prog 111 #[.agg #[.int .i64 xa, .int .i64 ya], .agg #[.int .i64 xb, .int .i64 yb]] w fun e w' => e = .returned (.int .i64 t) ∧ ∃ q os', w' = grow (w.drewN q) os' := by
  obtain ⟨u, hu⟩ : ∃ u, cmpJ ya yb = u := ⟨_, rfl⟩
  obtain ⟨v, hv⟩ : ∃ v, cmpJ xa xb = v := ⟨_, rfl⟩
  have HT : Hid ((if u = 0 then v else u) = t) := by show _ = _; rw [← ht, ← hu, ← hv]; rfl
  have HU := Lib.hid hu
  have HV := Lib.hid hv
  clear hu hv ht
  obtain ⟨W0, hW0⟩ : ∃ W0, W0 = (w.alloc (.cells #[.int .i64 xa, .int .i64 ya] 58)).alloc (.cells #[.int .i64 xb, .int .i64 yb] 58) := ⟨_, rfl⟩
  have d0 : W0.drew.cell? ⟨w.heap.size, 0, none⟩ = some (.int .i64 xa) := by rw [hW0]; simp [go_sem]
  have d1 : W0.drew.cell? ⟨w.heap.size, 1, none⟩ = some (.int .i64 ya) := by rw [hW0]; simp [go_sem]
  have d2 : W0.drew.cell? ⟨w.heap.size + 1, 0, none⟩ = some (.int .i64 xb) := by rw [hW0]; simp [go_sem]
  have d3 : W0.drew.cell? ⟨w.heap.size + 1, 1, none⟩ = some (.int .i64 yb) := by rw [hW0]; simp [go_sem]
  have HW : Hid (∀ c, W0.drew.alloc c = grow (w.drewN 1) (#[.cells #[.int .i64 xa, .int .i64 ya] 58, .cells #[.int .i64 xb, .int .i64 yb] 58] ++ #[c])) := fun c => by
    rw [hW0, alloc_eq_grow, alloc_eq_grow, alloc_eq_grow, grow_grow, drew_grow, grow_grow]
    rfl
  go_enter Try.func111, Try.ntmps111
  go_wp2_with fail
  rw [← hW0]
  refine wp_region_still_tail 10 (by kernel_rfl) (by kernel_rfl) ?_
  change wpStill _ _ W0.drew (fun a' => wpList _ _ _ _ a' W0.drew) _ _
  clear hW0
  generalize W0.drew = W1 at *
  simp only [List.take_succ_cons, List.take_zero, List.drop_succ_cons, List.drop_zero]
  (repeat still_step)
  still_call (compare_eq ya yb _ _ HU.out)
  (repeat still_step)
  still_call (compare_eq xa xb _ _ HV.out)
  (repeat still_step)
  refine wpStill_nil ?_
  clear d0 d1 d2 d3
  go_wp2_with fail
  refine (or2_eq _ u v _ (by simp [go_sem]) (by simp [go_sem]) _ HT.out).mono ?_
  rintro e w2 ⟨rfl, rfl⟩
  go_wp2
  go_ret
  exact ⟨rfl, 1, _, HW.out _⟩
end Go.Proofs.Ytmmanehdmnkekaa
