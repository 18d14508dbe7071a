/- Lists of spots: contains, equal; the reference's has and same. -/
import Derived.Test.YtkpgelhmeokemaaGenF
namespace Go.Proofs.Ytkpgelhmeokemaa
open Go Go.RowKit
theorem pair_ne {x y x2 y2 : Int} (h : ¬ ((x, y) : Int × Int) = (x2, y2)) (h1 : x = x2) : ¬ y = y2 := fun e => h (by rw [h1, e])
def IdxRet (w : World) (yes : Bool) (e : Ending) (w' : World) : Prop := ∃ r : Int, e = .returned (.int .i64 r) ∧ decide (0 ≤ r) = yes ∧ w.Ext w'
theorem not_mem_of {xs : List (Int × Int)} {q : Int × Int} (h : ∀ i, i < xs.length → xs.getD i (0, 0) ≠ q) : decide (q ∈ xs) = false := by
  rw [decide_eq_false_iff_not]
  intro hm
  obtain ⟨i, hi, e⟩ := List.getElem_of_mem hm
  exact h i hi (by rw [List.getD_eq_getElem?_getD, List.getElem?_eq_getElem hi]; exact e)
theorem list_eq_of {xs ys : List (Int × Int)} (hl : xs.length = ys.length) (h : ∀ i, i < xs.length → xs.getD i (0, 0) = ys.getD i (0, 0)) : decide (xs = ys) = true := by
  rw [decide_eq_true_iff]
  refine List.ext_getElem hl fun i h1 h2 => ?_
  have := h i h1
  rw [List.getD_eq_getElem?_getD, List.getD_eq_getElem?_getD, List.getElem?_eq_getElem h1, List.getElem?_eq_getElem h2] at this
  exact this
theorem list_ne_of {xs ys : List (Int × Int)} {i : Nat} (h : xs.getD i (0, 0) ≠ ys.getD i (0, 0)) : decide (xs = ys) = false := by
  rw [decide_eq_false_iff_not]
  intro e
  exact h (by rw [e])

set_option maxRecDepth 5000 in
set_option maxHeartbeats 800000 in
theorem indexS_any (a : Option Addr) (c : Nat) (xs : List (Int × Int)) (qx qy : Int) (w : World) (hn : xs.length ≤ 1048576) (hm : RowP w a xs) :
    Calls Try.prog 101 #[.slice a xs.length c, .agg #[.int .i64 qx, .int .i64 qy]] w (IdxRet w (decide ((qx, qy) ∈ xs))) := by
  obtain ⟨W0, hW0⟩ : ∃ W0, W0 = w.alloc (.cells #[.int .i64 qx, .int .i64 qy] 45) := ⟨_, rfl⟩
  have hx0 : w.Ext W0 := by rw [hW0]; repeat (first | exact World.Ext.refl _ | exact ⟨_, rfl⟩ | assumption | refine World.Ext.over ?_ _ | refine World.Ext.drewN ?_ _ | refine World.Ext.drew ?_ | refine World.Ext.alloc ?_ _ | refine World.Ext.setCell ?_ (by simp) _)
  have d0 : W0.cell? ⟨w.heap.size, 0, none⟩ = some (.int .i64 qx) := by rw [hW0]; simp [go_sem]
  have d1 : W0.cell? ⟨w.heap.size, 1, none⟩ = some (.int .i64 qy) := by rw [hW0]; simp [go_sem]
  have HD : Hid (∀ w', W0.Ext w' → w'.cell? ⟨w.heap.size, 0, none⟩ = some (.int .i64 qx) ∧ w'.cell? ⟨w.heap.size, 1, none⟩ = some (.int .i64 qy)) := fun w' hx => ⟨hx.cell d0, hx.cell d1⟩
  have HM : Hid (∀ w', W0.Ext w' → RowP w' a xs) := fun w' hx => RowP.ext (RowP.ext hm hx0) hx
  have HYES : Hid (∀ w' k, W0.Ext w' → k < xs.length → xs.getD k (0, 0) = (qx, qy) → IdxRet w (decide ((qx, qy) ∈ xs)) (.returned (.int .i64 (k : Int))) w') := fun w' k hx hk he => ⟨k, rfl, by rw [decide_eq_true (show (0 : Int) ≤ (k : Int) by omega), decide_eq_true (by rw [← he]; exact getD_mem hk)], hx0.trans hx⟩
  have HNO : Hid (∀ w', W0.Ext w' → (∀ i, i < xs.length → xs.getD i (0, 0) ≠ (qx, qy)) → IdxRet w (decide ((qx, qy) ∈ xs)) (.returned (.int .i64 (-1))) w') := fun w' hx h => ⟨-1, rfl, by rw [not_mem_of h]; rfl, hx0.trans hx⟩
  clear hm hx0 d0 d1
  go_enter Try.func101, Try.ntmps101
  go_upto_region 1 with fail
  rw [← hW0]
  clear hW0
  generalize w.heap.size = p at *
  go_wp2
  go_loopw [5, 8] (fun _ i wr => ∃ k : Nat, k ≤ xs.length ∧ i = .int .i64 k ∧ Hid (W0.Ext wr) ∧ Hid (∀ i, i < k → xs.getD i (0, 0) ≠ (qx, qy))) (fun _ i _ => xs.length - (intOf i).toNat)
  case atStart => exact ⟨0, Nat.zero_le _, rfl, .refl _, fun i hi => by omega⟩
  case round =>
    obtain ⟨k, hk, rfl, HX, HA⟩ := hrel
    obtain ⟨wo, rfl⟩ : ∃ wo : World, wo = wr := ⟨_, rfl⟩
    have hk0 : (0 : Int) ≤ (k : Int) := by omega
    by_cases hlt : k < xs.length
    · have hlt' : (k : Int) < (xs.length : Int) := by omega
      obtain ⟨b1, o1, rfl, c0, c1⟩ := (HM.out wo HX.out).at hlt
      obtain ⟨d0, d1⟩ := HD.out wo HX.out
      by_cases he : xs.getD k (0, 0) = (qx, qy)
      · have HR := Lib.hid (fun w' hx => HYES.out w' k hx hlt he)
        rw [he] at c0 c1
        clear he HA HYES HNO
        dsimp only at c0 c1
        go_wp2_with fail
        refine wp_region_over_lit (by kernel_rfl) (by kernel_rfl) ?_; (repeat (go_big_quiet_step (fail))); refine wpQuiet_nil ?_; rintro _ ⟨x1, rfl⟩
        have HF := Lib.hid (HR.out (wo.over x1) (HX.out.trans ⟨x1, rfl⟩))
        clear c0 c1 d0 d1 HX HR
        go_wp2
        go_ret
        exact HF.out
      · have HA1 : Hid (∀ i, i < k + 1 → xs.getD i (0, 0) ≠ (qx, qy)) := fun i hi => by
          by_cases e : i = k
          · rw [e]; exact he
          · exact HA.out i (by omega)
        clear HA
        generalize xs.getD k (0, 0) = q at c0 c1 he
        obtain ⟨x, y⟩ := q
        dsimp only at c0 c1
        have he2 : ¬ ((qx, qy) : Int × Int) = (x, y) := fun e => he e.symm
        by_cases h1 : qx = x
        · have h3 := pair_ne he2 h1
          clear he he2
          go_wp2_with fail
          refine wp_region_over_lit (by kernel_rfl) (by kernel_rfl) ?_; (repeat (go_big_quiet_step (fail))); refine wpQuiet_nil ?_; rintro _ ⟨x1, rfl⟩
          have HX1 : Hid (W0.Ext (wo.over x1)) := HX.out.trans ⟨x1, rfl⟩
          clear c0 c1 d0 d1 HX
          go_wp2
          go_roundw
          case rel => exact ⟨k + 1, by omega, by go_num, HX1, HA1⟩
          case measure => simp [intOf]; omega
        · clear he he2
          go_wp2_with fail
          refine wp_region_over_lit (by kernel_rfl) (by kernel_rfl) ?_; (repeat (go_big_quiet_step (fail))); refine wpQuiet_nil ?_; rintro _ ⟨x1, rfl⟩
          have HX1 : Hid (W0.Ext (wo.over x1)) := HX.out.trans ⟨x1, rfl⟩
          clear c0 c1 d0 d1 HX
          go_wp2
          go_roundw
          case rel => exact ⟨k + 1, by omega, by go_num, HX1, HA1⟩
          case measure => simp [intOf]; omega
    · have HF := Lib.hid (HNO.out wo HX.out fun i hi => HA.out i (by omega))
      clear HA HYES HNO
      go_wp2
      go_ret
      exact HF.out
set_option maxHeartbeats 400000 in
theorem containsS_any (a : Option Addr) (c : Nat) (xs : List (Int × Int)) (qx qy : Int) (w : World) (hn : xs.length ≤ 1048576) (hm : RowP w a xs) :
    Calls Try.prog 58 #[.slice a xs.length c, .agg #[.int .i64 qx, .int .i64 qy]] w fun e w' => e = .returned (.bool (decide ((qx, qy) ∈ xs))) ∧ w.Ext w' := by
  obtain ⟨W0, hW0⟩ : ∃ W0, W0 = w.alloc (.cells #[.int .i64 qx, .int .i64 qy] 45) := ⟨_, rfl⟩
  have hx0 : w.Ext W0 := by rw [hW0]; repeat (first | exact World.Ext.refl _ | exact ⟨_, rfl⟩ | assumption | refine World.Ext.over ?_ _ | refine World.Ext.drewN ?_ _ | refine World.Ext.drew ?_ | refine World.Ext.alloc ?_ _ | refine World.Ext.setCell ?_ (by simp) _)
  have d0 : W0.cell? ⟨w.heap.size, 0, none⟩ = some (.int .i64 qx) := by rw [hW0]; simp [go_sem]
  have d1 : W0.cell? ⟨w.heap.size, 1, none⟩ = some (.int .i64 qy) := by rw [hW0]; simp [go_sem]
  have l0 := World.block_lt_of_cell? _ _ d0
  have HC := Lib.hid (indexS_any a c xs qx qy W0 hn (RowP.ext hm hx0))
  have HX0 := Lib.hid hx0
  clear hx0 hm
  generalize decide ((qx, qy) ∈ xs) = t at *
  generalize xs.length = n at *
  go_enter Try.func58, Try.ntmps58
  go_upto_region 1 with fail
  rw [← hW0]
  clear hW0
  generalize w.heap.size = p at *
  go_wp2_with fail
  refine HC.out.mono ?_
  rintro e w1 ⟨r, rfl, hr, hx1⟩
  have HR := Lib.hid hr
  have HX1 := Lib.hid (HX0.out.trans hx1)
  clear hr hx1 d0 d1 l0 HC
  go_wp2
  go_ret
  exact ⟨by rw [← HR.out]; rfl, HX1.out⟩
set_option maxRecDepth 5000 in
set_option maxHeartbeats 800000 in
theorem equalS_any (a : Option Addr) (c : Nat) (xs : List (Int × Int)) (a2 : Option Addr) (c2 : Nat) (ys : List (Int × Int)) (w : World) (hn : xs.length ≤ 1048576) (hm : RowP w a xs) (hm2 : RowP w a2 ys) :
    Calls Try.prog 60 #[.slice a xs.length c, .slice a2 ys.length c2] w fun e w' => e = .returned (.bool (decide (xs = ys))) ∧ w.Ext w' := by
  have HM : Hid (∀ w', w.Ext w' → RowP w' a xs) := fun w' hx => RowP.ext hm hx
  have HM2 : Hid (∀ w', w.Ext w' → RowP w' a2 ys) := fun w' hx => RowP.ext hm2 hx
  clear hm hm2
  by_cases hl : xs.length = ys.length
  · have HLN := Lib.hid hl
    have HNO : Hid (∀ k, xs.getD k (0, 0) ≠ ys.getD k (0, 0) → decide (xs = ys) = false) := fun k h => list_ne_of h
    have HYES : Hid ((∀ i, i < xs.length → xs.getD i (0, 0) = ys.getD i (0, 0)) → decide (xs = ys) = true) := list_eq_of hl
    rw [← hl]
    clear hl
    generalize decide (xs = ys) = t at *
    go_enter Try.func60, Try.ntmps60
    go_wp2
    go_loopw [5, 13] (fun _ i wr => ∃ k : Nat, k ≤ xs.length ∧ i = .int .i64 k ∧ Hid (w.Ext wr) ∧ Hid (∀ i, i < k → xs.getD i (0, 0) = ys.getD i (0, 0))) (fun _ i _ => xs.length - (intOf i).toNat)
    case atStart => exact ⟨0, Nat.zero_le _, rfl, .refl _, fun i hi => by omega⟩
    case round =>
      obtain ⟨k, hk, rfl, HX, HA⟩ := hrel
      obtain ⟨wo, rfl⟩ : ∃ wo : World, wo = wr := ⟨_, rfl⟩
      have hk0 : (0 : Int) ≤ (k : Int) := by omega
      by_cases hlt : k < xs.length
      · have hlt' : (k : Int) < (xs.length : Int) := by omega
        obtain ⟨b1, o1, rfl, c0, c1⟩ := (HM.out wo HX.out).at hlt
        obtain ⟨b2, o2, rfl, d0, d1⟩ := (HM2.out wo HX.out).at (show k < ys.length by rw [← HLN.out]; exact hlt)
        by_cases he : xs.getD k (0, 0) = ys.getD k (0, 0)
        · have HA1 : Hid (∀ i, i < k + 1 → xs.getD i (0, 0) = ys.getD i (0, 0)) := fun i hi => by
            by_cases e : i = k
            · rw [e]; exact he
            · exact HA.out i (by omega)
          rw [he] at c0 c1
          clear he HA
          generalize ys.getD k (0, 0) = q at c0 c1 d0 d1
          obtain ⟨x, y⟩ := q
          dsimp only at c0 c1 d0 d1
          go_wp2_with fail
          refine wp_region_over_lit (by kernel_rfl) (by kernel_rfl) ?_; (repeat (go_big_quiet_step (fail))); refine wpQuiet_nil ?_; rintro _ ⟨x1, rfl⟩
          have HX1 : Hid (w.Ext (wo.over x1)) := HX.out.trans ⟨x1, rfl⟩
          clear c0 c1 d0 d1 HX
          go_wp2
          go_roundw
          case rel => exact ⟨k + 1, by omega, by go_num, HX1, HA1⟩
          case measure => simp [intOf]; omega
        · have HT := Lib.hid (HNO.out k he)
          clear HNO HYES HA
          generalize xs.getD k (0, 0) = q at c0 c1 he
          generalize ys.getD k (0, 0) = r at d0 d1 he
          obtain ⟨x, y⟩ := q
          obtain ⟨x2, y2⟩ := r
          dsimp only at c0 c1 d0 d1
          by_cases h1 : x = x2
          · have h3 := pair_ne he h1
            clear he
            go_wp2_with fail
            refine wp_region_over_lit (by kernel_rfl) (by kernel_rfl) ?_; (repeat (go_big_quiet_step (fail))); refine wpQuiet_nil ?_; rintro _ ⟨x1, rfl⟩
            have HX1 : Hid (w.Ext (wo.over x1)) := HX.out.trans ⟨x1, rfl⟩
            clear c0 c1 d0 d1 HX
            go_wp2
            go_ret
            exact ⟨by rw [HT.out]; rfl, HX1.out⟩
          · clear he
            go_wp2_with fail
            refine wp_region_over_lit (by kernel_rfl) (by kernel_rfl) ?_; (repeat (go_big_quiet_step (fail))); refine wpQuiet_nil ?_; rintro _ ⟨x1, rfl⟩
            have HX1 : Hid (w.Ext (wo.over x1)) := HX.out.trans ⟨x1, rfl⟩
            clear c0 c1 d0 d1 HX
            go_wp2
            go_ret
            exact ⟨by rw [HT.out]; rfl, HX1.out⟩
      · have HT := Lib.hid (HYES.out fun i hi => HA.out i (by omega))
        clear HA HYES HNO
        go_wp2
        go_ret
        exact ⟨by rw [HT.out]; rfl, HX.out⟩
  · have ht : decide (xs = ys) = false := decide_eq_false fun e => hl (by rw [e])
    rw [ht]
    have hl' : ((xs.length : Int) == (ys.length : Int)) = false := by rw [beq_eq_false_iff_ne]; omega
    clear ht HM HM2
    generalize xs.length = n at *
    generalize ys.length = n2 at *
    go_enter Try.func60, Try.ntmps60
    go_wp2
    go_ret
    exact ⟨rfl, .refl _⟩
set_option maxRecDepth 5000 in
set_option maxHeartbeats 800000 in
theorem l03Has_any (p : Nat) (a : Option Addr) (c : Nat) (xs : List (Int × Int)) (qx qy : Int) (w : World) (hn : xs.length ≤ 1048576) (hp : w.cell? ⟨p, 0, none⟩ = some (.slice a xs.length c)) (hm : RowP w a xs) :
    Calls Try.prog 63 #[.pointer (some ⟨p, 0, none⟩), .agg #[.int .i64 qx, .int .i64 qy]] w fun e w' => e = .returned (.bool (decide ((qx, qy) ∈ xs))) ∧ w.Ext w' := by
  obtain ⟨W0, hW0⟩ : ∃ W0, W0 = w.alloc (.cells #[.int .i64 qx, .int .i64 qy] 45) := ⟨_, rfl⟩
  have hx0 : w.Ext W0 := by rw [hW0]; repeat (first | exact World.Ext.refl _ | exact ⟨_, rfl⟩ | assumption | refine World.Ext.over ?_ _ | refine World.Ext.drewN ?_ _ | refine World.Ext.drew ?_ | refine World.Ext.alloc ?_ _ | refine World.Ext.setCell ?_ (by simp) _)
  have d0 : W0.cell? ⟨w.heap.size, 0, none⟩ = some (.int .i64 qx) := by rw [hW0]; simp [go_sem]
  have d1 : W0.cell? ⟨w.heap.size, 1, none⟩ = some (.int .i64 qy) := by rw [hW0]; simp [go_sem]
  have HX0 := Lib.hid hx0
  have HD : Hid (∀ w', W0.Ext w' → w'.cell? ⟨w.heap.size, 0, none⟩ = some (.int .i64 qx) ∧ w'.cell? ⟨w.heap.size, 1, none⟩ = some (.int .i64 qy) ∧ w'.cell? ⟨p, 0, none⟩ = some (.slice a xs.length c)) := fun w' hx => ⟨hx.cell d0, hx.cell d1, (hx0.trans hx).cell hp⟩
  have HM : Hid (∀ w', W0.Ext w' → RowP w' a xs) := fun w' hx => RowP.ext (RowP.ext hm hx0) hx
  have HYES : Hid (∀ k, k < xs.length → xs.getD k (0, 0) = (qx, qy) → decide ((qx, qy) ∈ xs) = true) := fun k hk he => decide_eq_true (by rw [← he]; exact getD_mem hk)
  have HNO : Hid ((∀ i, i < xs.length → xs.getD i (0, 0) ≠ (qx, qy)) → decide ((qx, qy) ∈ xs) = false) := not_mem_of
  clear hm hx0 d0 d1 hp
  generalize decide ((qx, qy) ∈ xs) = t at *
  go_enter Try.func63, Try.ntmps63
  go_upto_region 1 with fail
  rw [← hW0]
  clear hW0
  generalize w.heap.size = p3 at *
  go_wp2
  go_loopw [5] (fun i wr => ∃ k : Nat, k ≤ xs.length ∧ i = .int .i64 k ∧ Hid (W0.Ext wr) ∧ Hid (∀ i, i < k → xs.getD i (0, 0) ≠ (qx, qy))) (fun i _ => xs.length - (intOf i).toNat)
  case atStart => exact ⟨0, Nat.zero_le _, rfl, .refl _, fun i hi => by omega⟩
  case round =>
    obtain ⟨k, hk, rfl, HX, HA⟩ := hrel
    obtain ⟨wo, rfl⟩ : ∃ wo : World, wo = wr := ⟨_, rfl⟩
    have hk0 : (0 : Int) ≤ (k : Int) := by omega
    obtain ⟨d0, d1, d2⟩ := HD.out wo HX.out
    by_cases hlt : k < xs.length
    · have hlt' : (k : Int) < (xs.length : Int) := by omega
      obtain ⟨b1, o1, rfl, c0, c1⟩ := (HM.out wo HX.out).at hlt
      by_cases he : xs.getD k (0, 0) = (qx, qy)
      · have HT := Lib.hid (HYES.out k hlt he)
        rw [he] at c0 c1
        clear he HA HYES HNO
        dsimp only at c0 c1
        go_wp2_with fail
        refine wp_region_over_lit (by kernel_rfl) (by kernel_rfl) ?_; (repeat (go_big_quiet_step (fail))); refine wpQuiet_nil ?_; rintro _ ⟨x1, rfl⟩
        have HX1 : Hid (W0.Ext (wo.over x1)) := HX.out.trans ⟨x1, rfl⟩
        clear c0 c1 d0 d1 d2 HX
        go_wp2
        go_ret
        exact ⟨by rw [HT.out]; rfl, HX0.out.trans HX1.out⟩
      · have HA1 : Hid (∀ i, i < k + 1 → xs.getD i (0, 0) ≠ (qx, qy)) := fun i hi => by
          by_cases e : i = k
          · rw [e]; exact he
          · exact HA.out i (by omega)
        clear HA
        generalize xs.getD k (0, 0) = q at c0 c1 he
        obtain ⟨x, y⟩ := q
        dsimp only at c0 c1
        by_cases h1 : x = qx
        · have h3 := pair_ne he h1
          clear he
          go_wp2_with fail
          refine wp_region_over_lit (by kernel_rfl) (by kernel_rfl) ?_; (repeat (go_big_quiet_step (fail))); refine wpQuiet_nil ?_; rintro _ ⟨x1, rfl⟩
          have HX1 : Hid (W0.Ext (wo.over x1)) := HX.out.trans ⟨x1, rfl⟩
          clear c0 c1 d0 d1 d2 HX
          go_wp2
          go_roundw
          case rel => exact ⟨k + 1, by omega, by go_num, HX1, HA1⟩
          case measure => simp [intOf]; omega
        · clear he
          go_wp2_with fail
          refine wp_region_over_lit (by kernel_rfl) (by kernel_rfl) ?_; (repeat (go_big_quiet_step (fail))); refine wpQuiet_nil ?_; rintro _ ⟨x1, rfl⟩
          have HX1 : Hid (W0.Ext (wo.over x1)) := HX.out.trans ⟨x1, rfl⟩
          clear c0 c1 d0 d1 d2 HX
          go_wp2
          go_roundw
          case rel => exact ⟨k + 1, by omega, by go_num, HX1, HA1⟩
          case measure => simp [intOf]; omega
    · have HT := Lib.hid (HNO.out fun i hi => HA.out i (by omega))
      clear HA HYES HNO
      go_wp2
      go_ret
      exact ⟨by rw [HT.out]; rfl, HX0.out.trans HX.out⟩
set_option maxRecDepth 5000 in
set_option maxHeartbeats 800000 in
theorem l03Same_el (p : Nat) (a : Option Addr) (c : Nat) (xs : List (Int × Int)) (p2 : Nat) (a2 : Option Addr) (c2 : Nat) (ys : List (Int × Int)) (w : World) (hn : xs.length ≤ 1048576)
    (hp : w.cell? ⟨p, 0, none⟩ = some (.slice a xs.length c)) (hp2 : w.cell? ⟨p2, 0, none⟩ = some (.slice a2 ys.length c2)) (hm : RowP w a xs) (hm2 : RowP w a2 ys) :
    Calls Try.prog 65 #[.pointer (some ⟨p, 0, none⟩), .pointer (some ⟨p2, 0, none⟩)] w fun e w' => e = .returned (.bool (decide (xs = ys))) ∧ w.Ext w' := by
  have HM : Hid (∀ w', w.Ext w' → RowP w' a xs) := fun w' hx => RowP.ext hm hx
  have HM2 : Hid (∀ w', w.Ext w' → RowP w' a2 ys) := fun w' hx => RowP.ext hm2 hx
  have HC : Hid (∀ w', w.Ext w' → w'.cell? ⟨p, 0, none⟩ = some (.slice a xs.length c) ∧ w'.cell? ⟨p2, 0, none⟩ = some (.slice a2 ys.length c2)) := fun w' hx => ⟨hx.cell hp, hx.cell hp2⟩
  clear hm hm2
  by_cases hl : xs.length = ys.length
  · have HLN := Lib.hid hl
    have HNO : Hid (∀ k, xs.getD k (0, 0) ≠ ys.getD k (0, 0) → decide (xs = ys) = false) := fun k h => list_ne_of h
    have HYES : Hid ((∀ i, i < xs.length → xs.getD i (0, 0) = ys.getD i (0, 0)) → decide (xs = ys) = true) := list_eq_of hl
    rw [← hl] at HC
    have hll : ((xs.length : Int) == (xs.length : Int)) = true := beq_self_eq_true _
    clear hl hp hp2
    generalize decide (xs = ys) = t at *
    go_enter Try.func65, Try.ntmps65
    go_wp2
    go_loopw [5] (fun i wr => ∃ k : Nat, k ≤ xs.length ∧ i = .int .i64 k ∧ Hid (w.Ext wr) ∧ Hid (∀ i, i < k → xs.getD i (0, 0) = ys.getD i (0, 0))) (fun i _ => xs.length - (intOf i).toNat)
    case atStart => exact ⟨0, Nat.zero_le _, rfl, .refl _, fun i hi => by omega⟩
    case round =>
      obtain ⟨k, hk, rfl, HX, HA⟩ := hrel
      obtain ⟨wo, rfl⟩ : ∃ wo : World, wo = wr := ⟨_, rfl⟩
      have hk0 : (0 : Int) ≤ (k : Int) := by omega
      obtain ⟨f0, f1⟩ := HC.out wo HX.out
      by_cases hlt : k < xs.length
      · have hlt' : (k : Int) < (xs.length : Int) := by omega
        have hld : decide ((k : Int) < (xs.length : Int)) = true := decide_eq_true hlt'
        obtain ⟨b1, o1, rfl, c0, c1⟩ := (HM.out wo HX.out).at hlt
        obtain ⟨b2, o2, rfl, d0, d1⟩ := (HM2.out wo HX.out).at (show k < ys.length by rw [← HLN.out]; exact hlt)
        have HCD : Hid (∀ w', wo.Ext w' → (w'.cell? ⟨b1, o1 + k * 2, none⟩ = some (.int .i64 (xs.getD k (0, 0)).1) ∧ w'.cell? ⟨b1, o1 + k * 2 + 1, none⟩ = some (.int .i64 (xs.getD k (0, 0)).2)) ∧ w'.cell? ⟨b2, o2 + k * 2, none⟩ = some (.int .i64 (ys.getD k (0, 0)).1) ∧ w'.cell? ⟨b2, o2 + k * 2 + 1, none⟩ = some (.int .i64 (ys.getD k (0, 0)).2)) := fun w' hx => ⟨⟨hx.cell c0, hx.cell c1⟩, hx.cell d0, hx.cell d1⟩
        clear c0 c1 d0 d1
        go_wp2_with fail
        refine wp_region_over_lit (by kernel_rfl) (by kernel_rfl) ?_; (repeat (go_big_quiet_step (fail))); refine wpQuiet_nil ?_; rintro _ ⟨x1, rfl⟩
        have HX1 : Hid (w.Ext (wo.over x1)) := HX.out.trans ⟨x1, rfl⟩
        obtain ⟨⟨c0, c1⟩, d0, d1⟩ := HCD.out (wo.over x1) ⟨x1, rfl⟩
        clear f0 f1 HX HCD
        obtain ⟨f0, f1⟩ := HC.out _ HX1.out
        generalize wo.over x1 = wp at *
        by_cases he : xs.getD k (0, 0) = ys.getD k (0, 0)
        · have HA1 : Hid (∀ i, i < k + 1 → xs.getD i (0, 0) = ys.getD i (0, 0)) := fun i hi => by
            by_cases e : i = k
            · rw [e]; exact he
            · exact HA.out i (by omega)
          rw [he] at c0 c1
          clear he HA
          generalize ys.getD k (0, 0) = q at c0 c1 d0 d1
          obtain ⟨x, y⟩ := q
          dsimp only at c0 c1 d0 d1
          go_wp2_with fail
          refine wp_region_over_lit (by kernel_rfl) (by kernel_rfl) ?_; (repeat (go_big_quiet_step (fail))); refine wpQuiet_nil ?_; rintro _ ⟨x1, rfl⟩
          have HX2 : Hid (w.Ext (wp.over x1)) := HX1.out.trans ⟨x1, rfl⟩
          clear c0 c1 d0 d1 f0 f1 HX1
          go_wp2
          go_roundw
          case rel => exact ⟨k + 1, by omega, by go_num, HX2, HA1⟩
          case measure => simp [intOf]; omega
        · have HT := Lib.hid (HNO.out k he)
          clear HNO HYES HA
          generalize xs.getD k (0, 0) = q at c0 c1 he
          generalize ys.getD k (0, 0) = r at d0 d1 he
          obtain ⟨x, y⟩ := q
          obtain ⟨x2, y2⟩ := r
          dsimp only at c0 c1 d0 d1
          by_cases h1 : x = x2
          · have h3 := pair_ne he h1
            clear he
            go_wp2_with fail
            refine wp_region_over_lit (by kernel_rfl) (by kernel_rfl) ?_; (repeat (go_big_quiet_step (fail))); refine wpQuiet_nil ?_; rintro _ ⟨x1, rfl⟩
            have HX2 : Hid (w.Ext (wp.over x1)) := HX1.out.trans ⟨x1, rfl⟩
            clear c0 c1 d0 d1 f0 f1 HX1
            go_wp2
            go_ret
            exact ⟨by rw [HT.out]; rfl, HX2.out⟩
          · clear he
            go_wp2_with fail
            refine wp_region_over_lit (by kernel_rfl) (by kernel_rfl) ?_; (repeat (go_big_quiet_step (fail))); refine wpQuiet_nil ?_; rintro _ ⟨x1, rfl⟩
            have HX2 : Hid (w.Ext (wp.over x1)) := HX1.out.trans ⟨x1, rfl⟩
            clear c0 c1 d0 d1 f0 f1 HX1
            go_wp2
            go_ret
            exact ⟨by rw [HT.out]; rfl, HX2.out⟩
      · have hld : decide ((k : Int) < (xs.length : Int)) = false := decide_eq_false (by omega)
        have HT := Lib.hid (HYES.out fun i hi => HA.out i (by omega))
        clear HA HYES HNO
        go_wp2_with fail
        refine wp_region_over_lit (by kernel_rfl) (by kernel_rfl) ?_; (repeat (go_big_quiet_step (fail))); refine wpQuiet_nil ?_; rintro _ ⟨x1, rfl⟩
        have HX1 : Hid (w.Ext (wo.over x1)) := HX.out.trans ⟨x1, rfl⟩
        clear f0 f1 HX
        obtain ⟨f0, f1⟩ := HC.out _ HX1.out
        generalize wo.over x1 = wp at *
        go_wp2_with fail
        refine wp_region_over_lit (by kernel_rfl) (by kernel_rfl) ?_; (repeat (go_big_quiet_step (fail))); refine wpQuiet_nil ?_; rintro _ ⟨x1, rfl⟩
        have HX2 : Hid (w.Ext (wp.over x1)) := HX1.out.trans ⟨x1, rfl⟩
        clear f0 f1 HX1
        go_wp2
        go_ret
        exact ⟨by rw [HT.out]; rfl, HX2.out⟩
  · have ht : decide (xs = ys) = false := decide_eq_false fun e => hl (by rw [e])
    rw [ht]
    have hl' : ((xs.length : Int) == (ys.length : Int)) = false := by rw [beq_eq_false_iff_ne]; omega
    have hl2 : ¬ (xs.length : Int) = (ys.length : Int) := by omega
    clear ht HM HM2
    generalize xs.length = n at *
    generalize ys.length = n2 at *
    clear hp hp2
    go_enter Try.func65, Try.ntmps65
    go_wp2
    go_loopw [5] (fun i wr => i = .int .i64 0 ∧ Hid (w.Ext wr)) (fun _ _ => 0)
    case atStart => exact ⟨rfl, .refl _⟩
    case round =>
      obtain ⟨rfl, HX⟩ := hrel
      obtain ⟨wo, rfl⟩ : ∃ wo : World, wo = wr := ⟨_, rfl⟩
      obtain ⟨f0, f1⟩ := HC.out wo HX.out
      by_cases hlt : 0 < n
      · have hlt' : (0 : Int) < (n : Int) := by omega
        have hld : decide ((0 : Int) < (n : Int)) = true := decide_eq_true hlt'
        go_wp2_with fail
        refine wp_region_over_lit (by kernel_rfl) (by kernel_rfl) ?_; (repeat (go_big_quiet_step (fail))); refine wpQuiet_nil ?_; rintro _ ⟨x1, rfl⟩
        have HX1 : Hid (w.Ext (wo.over x1)) := HX.out.trans ⟨x1, rfl⟩
        clear f0 f1 HX
        obtain ⟨f0, f1⟩ := HC.out _ HX1.out
        generalize wo.over x1 = wp at *
        go_wp2_with fail
        refine wp_region_over_lit (by kernel_rfl) (by kernel_rfl) ?_; (repeat (go_big_quiet_step (fail))); refine wpQuiet_nil ?_; rintro _ ⟨x1, rfl⟩
        have HX2 : Hid (w.Ext (wp.over x1)) := HX1.out.trans ⟨x1, rfl⟩
        clear f0 f1 HX1
        go_wp2
        go_ret
        exact ⟨rfl, HX2.out⟩
      · have hlt' : ¬ (0 : Int) < (n : Int) := by omega
        have hld : decide ((0 : Int) < (n : Int)) = false := decide_eq_false hlt'
        go_wp2_with fail
        refine wp_region_over_lit (by kernel_rfl) (by kernel_rfl) ?_; (repeat (go_big_quiet_step (fail))); refine wpQuiet_nil ?_; rintro _ ⟨x1, rfl⟩
        have HX1 : Hid (w.Ext (wo.over x1)) := HX.out.trans ⟨x1, rfl⟩
        clear f0 f1 HX
        obtain ⟨f0, f1⟩ := HC.out _ HX1.out
        generalize wo.over x1 = wp at *
        go_wp2_with fail
        refine wp_region_over_lit (by kernel_rfl) (by kernel_rfl) ?_; (repeat (go_big_quiet_step (fail))); refine wpQuiet_nil ?_; rintro _ ⟨x1, rfl⟩
        have HX2 : Hid (w.Ext (wp.over x1)) := HX1.out.trans ⟨x1, rfl⟩
        clear f0 f1 HX1
        go_wp2
        go_ret
        exact ⟨rfl, HX2.out⟩
end Go.Proofs.Ytkpgelhmeokemaa
