/- Lists of spots: contains, equal; the reference's has and same. -/
import Derived.Test.YtelaoimcaidoiaaGenF
namespace Go.Proofs.Ytelaoimcaidoiaa
open Go Go.RowKit
theorem pair_ne {x y x2 y2 : Int} (h : ¬ ((x, y) : Int × Int) = (x2, y2)) (h1 : x = x2) : ¬ y = y2 := fun e => h (by rw [h1, e])
def IdxRet (w : World) (yes : Bool) (e : Ending) (w' : World) : Prop := ∃ r : Int, e = .returned (.int .i64 r) ∧ decide (0 ≤ r) = yes ∧ w.Ext w'
theorem not_mem_of {xs : List (Int × Int)} {q : Int × Int} (h : ∀ i, i < xs.length → xs.getD i (0, 0) ≠ q) : decide (q ∈ xs) = false := by
  rw [decide_eq_false_iff_not]
  intro hm
  obtain ⟨i, hi, e⟩ := List.getElem_of_mem hm
  exact h i hi (by rw [List.getD_eq_getElem?_getD, List.getElem?_eq_getElem hi]; exact e)
theorem list_eq_of {xs ys : List (Int × Int)} (hl : xs.length = ys.length) (h : ∀ i, i < xs.length → xs.getD i (0, 0) = ys.getD i (0, 0)) : decide (xs = ys) = true := by
  rw [decide_eq_true_iff]
  refine List.ext_getElem hl fun i h1 h2 => ?_
  have := h i h1
  rw [List.getD_eq_getElem?_getD, List.getD_eq_getElem?_getD, List.getElem?_eq_getElem h1, List.getElem?_eq_getElem h2] at this
  exact this
theorem list_ne_of {xs ys : List (Int × Int)} {i : Nat} (h : xs.getD i (0, 0) ≠ ys.getD i (0, 0)) : decide (xs = ys) = false := by
  rw [decide_eq_false_iff_not]
  intro e
  exact h (by rw [e])

set_option maxRecDepth 5000 in
set_option maxHeartbeats 800000 in
theorem equalS_any (a : Option Addr) (c : Nat) (xs : List (Int × Int)) (a2 : Option Addr) (c2 : Nat) (ys : List (Int × Int)) (w : World) (hn : xs.length ≤ 1048576) (hm : RowP w a xs) (hm2 : RowP w a2 ys) :
    Calls Try.prog 23 #[.slice a xs.length c, .slice a2 ys.length c2] w fun e w' => e = .returned (.bool (decide (xs = ys))) ∧ w.Ext w' := by
  have HM : Hid (∀ w', w.Ext w' → RowP w' a xs) := fun w' hx => RowP.ext hm hx
  have HM2 : Hid (∀ w', w.Ext w' → RowP w' a2 ys) := fun w' hx => RowP.ext hm2 hx
  clear hm hm2
  by_cases hl : xs.length = ys.length
  · have HLN := Lib.hid hl
    have HNO : Hid (∀ k, xs.getD k (0, 0) ≠ ys.getD k (0, 0) → decide (xs = ys) = false) := fun k h => list_ne_of h
    have HYES : Hid ((∀ i, i < xs.length → xs.getD i (0, 0) = ys.getD i (0, 0)) → decide (xs = ys) = true) := list_eq_of hl
    rw [← hl]
    clear hl
    generalize decide (xs = ys) = t at *
    go_enter Try.func23, Try.ntmps23
    go_wp2
    go_loopw [5, 13] (fun _ i wr => ∃ k : Nat, k ≤ xs.length ∧ i = .int .i64 k ∧ Hid (w.Ext wr) ∧ Hid (∀ i, i < k → xs.getD i (0, 0) = ys.getD i (0, 0))) (fun _ i _ => xs.length - (intOf i).toNat)
    case atStart => exact ⟨0, Nat.zero_le _, rfl, .refl _, fun i hi => by omega⟩
    case round =>
      obtain ⟨k, hk, rfl, HX, HA⟩ := hrel
      obtain ⟨wo, rfl⟩ : ∃ wo : World, wo = wr := ⟨_, rfl⟩
      have hk0 : (0 : Int) ≤ (k : Int) := by omega
      by_cases hlt : k < xs.length
      · have hlt' : (k : Int) < (xs.length : Int) := by omega
        obtain ⟨b1, o1, rfl, c0, c1⟩ := (HM.out wo HX.out).at hlt
        obtain ⟨b2, o2, rfl, d0, d1⟩ := (HM2.out wo HX.out).at (show k < ys.length by rw [← HLN.out]; exact hlt)
        by_cases he : xs.getD k (0, 0) = ys.getD k (0, 0)
        · have HA1 : Hid (∀ i, i < k + 1 → xs.getD i (0, 0) = ys.getD i (0, 0)) := fun i hi => by
            by_cases e : i = k
            · rw [e]; exact he
            · exact HA.out i (by omega)
          rw [he] at c0 c1
          clear he HA
          generalize ys.getD k (0, 0) = q at c0 c1 d0 d1
          obtain ⟨x, y⟩ := q
          dsimp only at c0 c1 d0 d1
          go_wp2_with fail
          refine wp_region_over_lit (by kernel_rfl) (by kernel_rfl) ?_; (repeat (go_big_quiet_step (fail))); refine wpQuiet_nil ?_; rintro _ ⟨x1, rfl⟩
          have HX1 : Hid (w.Ext (wo.over x1)) := HX.out.trans ⟨x1, rfl⟩
          clear c0 c1 d0 d1 HX
          go_wp2
          go_roundw
          case rel => exact ⟨k + 1, by omega, by go_num, HX1, HA1⟩
          case measure => simp [intOf]; omega
        · have HT := Lib.hid (HNO.out k he)
          clear HNO HYES HA
          generalize xs.getD k (0, 0) = q at c0 c1 he
          generalize ys.getD k (0, 0) = r at d0 d1 he
          obtain ⟨x, y⟩ := q
          obtain ⟨x2, y2⟩ := r
          dsimp only at c0 c1 d0 d1
          by_cases h1 : x = x2
          · have h3 := pair_ne he h1
            clear he
            go_wp2_with fail
            refine wp_region_over_lit (by kernel_rfl) (by kernel_rfl) ?_; (repeat (go_big_quiet_step (fail))); refine wpQuiet_nil ?_; rintro _ ⟨x1, rfl⟩
            have HX1 : Hid (w.Ext (wo.over x1)) := HX.out.trans ⟨x1, rfl⟩
            clear c0 c1 d0 d1 HX
            go_wp2
            go_ret
            exact ⟨by rw [HT.out]; rfl, HX1.out⟩
          · clear he
            go_wp2_with fail
            refine wp_region_over_lit (by kernel_rfl) (by kernel_rfl) ?_; (repeat (go_big_quiet_step (fail))); refine wpQuiet_nil ?_; rintro _ ⟨x1, rfl⟩
            have HX1 : Hid (w.Ext (wo.over x1)) := HX.out.trans ⟨x1, rfl⟩
            clear c0 c1 d0 d1 HX
            go_wp2
            go_ret
            exact ⟨by rw [HT.out]; rfl, HX1.out⟩
      · have HT := Lib.hid (HYES.out fun i hi => HA.out i (by omega))
        clear HA HYES HNO
        go_wp2
        go_ret
        exact ⟨by rw [HT.out]; rfl, HX.out⟩
  · have ht : decide (xs = ys) = false := decide_eq_false fun e => hl (by rw [e])
    rw [ht]
    have hl' : ((xs.length : Int) == (ys.length : Int)) = false := by rw [beq_eq_false_iff_ne]; omega
    clear ht HM HM2
    generalize xs.length = n at *
    generalize ys.length = n2 at *
    go_enter Try.func23, Try.ntmps23
    go_wp2
    go_ret
    exact ⟨rfl, .refl _⟩
end Go.Proofs.Ytelaoimcaidoiaa
