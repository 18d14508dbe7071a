/- Two pictures the same; how many pixels are black. -/
import Derived.Test.YtelaoimcaidoiaaDoorRunT
import Derived.Test.YtelaoimcaidoiaaDoorCount
namespace Go.Proofs.YtelaoimcaidoiaaDoor
open Go Go.RowKit
set_option maxHeartbeats 800000 in
theorem b10Same_any (a b : Option Addr) (c c' : Nat) (xs ys : List ByteArray) (w : World) (hn : xs.length ≤ 1000000) (ha : RowS w a xs) (hb : RowS w b ys) :
    Calls Tryd.prog 12 #[.agg #[.slice a xs.length c], .agg #[.slice b ys.length c']] w fun e w' => e = .returned (.bool (decide (xs = ys) && decide (0 < xs.length))) ∧ w.Ext w' := by
  obtain ⟨W0, hW0⟩ : ∃ W0, W0 = (w.alloc (.cells #[.slice a xs.length c] 26)).alloc (.cells #[.slice b ys.length c'] 26) := ⟨_, rfl⟩
  have hx0 : w.Ext W0 := by rw [hW0]; repeat (first | exact World.Ext.refl _ | exact ⟨_, rfl⟩ | assumption | refine World.Ext.over ?_ _ | refine World.Ext.drewN ?_ _ | refine World.Ext.drew ?_ | refine World.Ext.alloc ?_ _ | refine World.Ext.setCell ?_ (by simp) _)
  have d0 : W0.cell? ⟨w.heap.size, 0, none⟩ = some (.slice a xs.length c) := by rw [hW0]; simp [go_sem]
  have d1 : W0.cell? ⟨w.heap.size + 1, 0, none⟩ = some (.slice b ys.length c') := by rw [hW0]; simp [go_sem]
  have HD : Hid (∀ w', W0.Ext w' → w'.cell? ⟨w.heap.size, 0, none⟩ = some (.slice a xs.length c) ∧ w'.cell? ⟨w.heap.size + 1, 0, none⟩ = some (.slice b ys.length c')) := fun w' h => ⟨h.cell d0, h.cell d1⟩
  by_cases hl : xs.length = ys.length
  · have HT : Hid ((∀ i, i < xs.length → xs.getD i ByteArray.empty = ys.getD i ByteArray.empty) → decide (0 < xs.length) = (decide (xs = ys) && decide (0 < xs.length))) := fun h => by rw [decide_eq_true (listS_ext hl h), Bool.true_and]
    have HF : Hid (∀ i, i < xs.length → ¬ xs.getD i ByteArray.empty = ys.getD i ByteArray.empty → false = (decide (xs = ys) && decide (0 < xs.length))) := fun i _ h => by rw [decide_eq_false (fun e => h (by rw [e])), Bool.false_and]
    have HA := Lib.hid (RowOf.ext ha hx0)
    have HB := Lib.hid (RowOf.ext hb hx0)
    have HL := Lib.hid hl
    have HX0 := Lib.hid hx0
    clear ha hb hx0
    generalize (decide (xs = ys) && decide (0 < xs.length)) = t at *
    rw [← hl] at hW0 d1 HD ⊢
    clear hl
    go_enter Tryd.func12, Tryd.ntmps12
    go_upto_region 1 with fail
    rw [← hW0]
    clear hW0
    go_wp2
    clear d0 d1
    go_loopw [5] (fun i wr => ∃ k : Nat, k ≤ xs.length ∧ i = .int .i64 k ∧ Hid (∀ i, i < k → xs.getD i ByteArray.empty = ys.getD i ByteArray.empty) ∧ Hid (W0.Ext wr)) (fun i _ => xs.length - (intOf i).toNat)
    case atStart => exact ⟨0, Nat.zero_le _, rfl, fun i hi => by omega, .refl _⟩
    case round =>
      obtain ⟨k, hk, rfl, HK, HX⟩ := hrel
      obtain ⟨wo, rfl⟩ : ∃ wo : World, wo = wr := ⟨_, rfl⟩
      obtain ⟨d0, d1⟩ := HD.out wo HX.out
      have hk0 : (0 : Int) ≤ (k : Int) := by omega
      by_cases hlt : k < xs.length
      · obtain ⟨b1, o1, rfl, hc1⟩ := (RowOf.ext HA.out HX.out) k hlt
        obtain ⟨b2, o2, rfl, hc2⟩ := (RowOf.ext HB.out HX.out) k (by rw [← HL.out]; exact hlt)
        have hlt' : (k : Int) < (xs.length : Int) := by omega
        have HK1 : Hid (xs.getD k ByteArray.empty = ys.getD k ByteArray.empty → ∀ i, i < k + 1 → xs.getD i ByteArray.empty = ys.getD i ByteArray.empty) := fun h i hi => by
          by_cases e : i = k
          · rw [e]; exact h
          · exact HK.out i (by omega)
        have HFK := Lib.hid (HF.out k hlt)
        clear HK HT HF HD
        generalize xs.getD k ByteArray.empty = z at *
        generalize ys.getD k ByteArray.empty = z' at *
        by_cases hz : z = z'
        · subst hz
          have HK2 := Lib.hid (HK1.out rfl)
          clear HK1 HFK
          go_wp2_with fail
          refine wp_region_over_lit (by kernel_rfl) (by kernel_rfl) ?_; (repeat (go_big_quiet_step (fail))); refine wpQuiet_nil ?_; rintro _ ⟨x1, rfl⟩
          have HX2 : Hid (W0.Ext (wo.over x1)) := HX.out.trans ⟨x1, rfl⟩
          clear d0 d1 hc1 hc2
          go_wp2
          go_roundw
          case rel => exact ⟨k + 1, by omega, by go_num, HK2, HX2⟩
          case measure => simp [intOf]; omega
        · have hne : (z.toList == z'.toList) = false := str_ne hz
          have hf := HFK.out hz
          subst hf
          clear HK1 HFK hz
          go_wp2_with fail
          refine wp_region_over_lit (by kernel_rfl) (by kernel_rfl) ?_; (repeat (go_big_quiet_step (fail))); refine wpQuiet_nil ?_; rintro _ ⟨x1, rfl⟩
          have HX2 : Hid (w.Ext (wo.over x1)) := HX0.out.trans (HX.out.trans ⟨x1, rfl⟩)
          go_wp2
          go_ret
          exact ⟨rfl, HX2.out⟩
      · have : k = xs.length := by omega
        subst this
        have ht := HT.out HK.out
        subst ht
        have HX2 := Lib.hid (HX0.out.trans HX.out)
        clear HT HF HK
        go_wp2
        go_ret
        exact ⟨by simp, HX2.out⟩
  · have hd : decide (xs = ys) = false := decide_eq_false (fun e => hl (by rw [e]))
    rw [hd, Bool.false_and]
    have hne : ((xs.length : Int) != (ys.length : Int)) = true := by
      simp only [bne_iff_ne, ne_eq]
      omega
    have HX0 := Lib.hid hx0
    clear ha hb hd hl HD hx0
    generalize xs.length = n at *
    generalize ys.length = n' at *
    go_enter Tryd.func12, Tryd.ntmps12
    go_upto_region 1 with fail
    rw [← hW0]
    clear hW0
    go_wp2
    go_ret
    exact ⟨rfl, HX0.out⟩
set_option maxHeartbeats 800000 in
theorem countBlack_any (a : Option Addr) (c : Nat) (ss : List ByteArray) (w : World) (hb : PicBnd ss) (hok : picOk ss = true) (hm : RowS w a ss) :
    Calls Tryd.prog 10 #[.agg #[.slice a ss.length c]] w fun e w' => e = .returned (.tuple #[.int .i64 (spotsTo (picW ss) (picL ss) (ss.length * picW ss)).length, .bool true]) ∧ w.Ext w' := by
  obtain ⟨W0, hW0⟩ : ∃ W0, W0 = w.alloc (.cells #[.slice a ss.length c] 26) := ⟨_, rfl⟩
  have hx0 : w.Ext W0 := by rw [hW0]; repeat (first | exact World.Ext.refl _ | exact ⟨_, rfl⟩ | assumption | refine World.Ext.over ?_ _ | refine World.Ext.drewN ?_ _ | refine World.Ext.drew ?_ | refine World.Ext.alloc ?_ _ | refine World.Ext.setCell ?_ (by simp) _)
  obtain ⟨v1, v2, v3, v4, v5, -⟩ := picOk_spec hok
  have HI := Lib.hid (imageOf_any a c ss W0 hb.1 hb.2 (RowOf.ext hm hx0) true hok)
  have HCN := Lib.hid (fun w' b ab (hI : Img w' b ab (picW ss) ss.length (picL ss)) => count_any b ab _ _ _ w' (by omega) (by omega) hI)
  have HX0 := Lib.hid hx0
  clear hb hok hm hx0 v1 v2 v3 v4 v5
  generalize (spotsTo (picW ss) (picL ss) (ss.length * picW ss)).length = n at *
  go_enter Tryd.func10, Tryd.ntmps10
  go_wp2_with fail
  rw [← hW0]
  clear hW0
  refine HI.out.mono ?_
  intro e w1 h
  obtain ⟨b, ab, rfl, hx1, hI, -, -⟩ : ∃ b ab, e = .returned (.tuple #[.pointer (some ⟨b, 0, none⟩), .bool true]) ∧ W0.Ext w1 ∧ Img w1 b ab (picW ss) ss.length (picL ss) ∧ W0.heap.size ≤ b ∧ W0.heap.size ≤ ab := h
  have HC := Lib.hid (HCN.out w1 b ab hI)
  have HX1 := Lib.hid (HX0.out.trans hx1)
  clear hx1 hI
  go_wp2_with fail
  refine HC.out.mono ?_
  rintro e w2 ⟨rfl, hx2⟩
  have HR := Lib.hid (HX1.out.trans hx2)
  clear hx2 HC
  go_wp2
  go_ret2
  exact ⟨rfl, HR.out⟩
end Go.Proofs.YtelaoimcaidoiaaDoor
