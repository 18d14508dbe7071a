/- FnRuns: a picture comes back from its runs, which have its black pixels, and its edges are those at which neighbours differ. -/
import Derived.Test.YtkpgelhmeokemaaSumP
import Derived.Test.YtkpgelhmeokemaaGenA
namespace Go.Proofs.Ytkpgelhmeokemaa
open Go Go.RowKit
theorem listS_ext {xs ys : List ByteArray} (hl : xs.length = ys.length) (h : ∀ i, i < xs.length → xs.getD i ByteArray.empty = ys.getD i ByteArray.empty) : xs = ys := by
  apply List.ext_getElem hl
  intro i h1 h2
  have := h i h1
  rw [List.getD_eq_getElem?_getD, List.getD_eq_getElem?_getD, List.getElem?_eq_getElem h1, List.getElem?_eq_getElem h2] at this
  exact this
theorem str_ne {z z' : ByteArray} (h : ¬ z = z') : (z.toList == z'.toList) = false := by
  rw [beq_eq_false_iff_ne]
  intro e
  apply h
  rw [ByteArray.toList_eq, ByteArray.toList_eq] at e
  cases z; cases z'
  simp only [ByteArray.mk.injEq] at *
  exact Array.toList_inj.1 e
theorem rowStr_bits {s : ByteArray} (h : s.data.toList.all pixOk = true) : rowStr (rowBits s) = s := by
  obtain ⟨d⟩ := s
  unfold rowStr strOfNums rowBits
  rw [List.map_map, List.map_map]
  have e : List.map ((((fun n => UInt8.ofNat n.toNat) : Int → UInt8) ∘ byteOf) ∘ fun b => b == 35) d.toList = d.toList := by
    conv => rhs; rw [← List.map_id d.toList]
    refine List.map_congr_left fun b hb => ?_
    have h1 := List.all_eq_true.1 h b hb
    unfold pixOk at h1
    show UInt8.ofNat (byteOf (b == 35)).toNat = b
    cases h2 : (b == 35)
    · rw [h2, Bool.false_or] at h1
      rw [eq_of_beq h1]
      rfl
    · rw [eq_of_beq h2]
      rfl
  show ByteArray.mk (List.map _ d.toList).toArray = _
  rw [e, Array.toArray_toList]
theorem pic_self {ss : List ByteArray} (hok : picOk ss = true) : picRows (picW ss) ss.length (picL ss) = ss := by
  obtain ⟨v1, v2, v3, v4, v5, v6⟩ := picOk_spec hok
  refine listS_ext (picRows_len _ _ _) fun y hy => ?_
  rw [picRows_len] at hy
  rw [picRows_at _ _ _ hy]
  have hall : (ss.getD y ByteArray.empty).data.toList.all pixOk = true := by
    rw [List.all_eq_true]
    intro b hb
    obtain ⟨i, hi, e⟩ := List.getElem_of_mem hb
    have h := v6 y i hy (by rw [← v5.2 y hy]; simpa using hi)
    rw [List.getD_eq_getElem?_getD, List.getElem?_eq_getElem hi] at h
    rw [← e]
    exact h
  refine Eq.trans (congrArg rowStr ?_) (rowStr_bits hall)
  have hlen : (rowAt (picW ss) (picL ss) y).length = picW ss := rowAt_len _ ss.length _ _ (by rw [picL_len v5, Nat.mul_comm]) hy
  have hsz := v5.2 y hy
  apply List.ext_getElem (by rw [hlen, rowBits_len, hsz])
  intro i h1 h2
  have h1' := h1
  rw [hlen] at h1
  have e1 : (rowAt (picW ss) (picL ss) y)[i]? = some ((picL ss).getD (y * picW ss + i) false) := by
    unfold rowAt
    rw [List.getElem?_take, if_pos h1, List.getElem?_drop, List.getD_eq_getElem?_getD]
    have h3 : y * picW ss + i < (picL ss).length := by
      rw [picL_len v5]
      have := Nat.mul_le_mul_right (picW ss) (show y + 1 ≤ ss.length by omega)
      rw [Nat.succ_mul] at this
      omega
    rw [List.getElem?_eq_getElem h3]
    rfl
  have e2 := rowBits_at (ss.getD y ByteArray.empty) i (by rw [hsz]; exact h1)
  rw [List.getElem?_eq_getElem h1'] at e1
  rw [Option.some.inj e1, picL_at v5 i y h1 hy, ← e2, List.getD_eq_getElem?_getD, List.getElem?_eq_getElem h2]
  rfl
set_option maxHeartbeats 800000 in
theorem r8Same_any (a b : Option Addr) (c c' : Nat) (xs ys : List ByteArray) (w : World) (hn : xs.length ≤ 1000000) (ha : RowS w a xs) (hb : RowS w b ys) :
    Calls Try.prog 13 #[.agg #[.slice a xs.length c], .agg #[.slice b ys.length c']] w fun e w' => e = .returned (.bool (decide (xs = ys))) ∧ w.Ext w' := by
  obtain ⟨W0, hW0⟩ : ∃ W0, W0 = (w.alloc (.cells #[.slice a xs.length c] 26)).alloc (.cells #[.slice b ys.length c'] 26) := ⟨_, rfl⟩
  have hx0 : w.Ext W0 := by rw [hW0]; repeat (first | exact World.Ext.refl _ | exact ⟨_, rfl⟩ | assumption | refine World.Ext.over ?_ _ | refine World.Ext.drewN ?_ _ | refine World.Ext.drew ?_ | refine World.Ext.alloc ?_ _ | refine World.Ext.setCell ?_ (by simp) _)
  have d0 : W0.cell? ⟨w.heap.size, 0, none⟩ = some (.slice a xs.length c) := by rw [hW0]; simp [go_sem]
  have d1 : W0.cell? ⟨w.heap.size + 1, 0, none⟩ = some (.slice b ys.length c') := by rw [hW0]; simp [go_sem]
  have HD : Hid (∀ w', W0.Ext w' → w'.cell? ⟨w.heap.size, 0, none⟩ = some (.slice a xs.length c) ∧ w'.cell? ⟨w.heap.size + 1, 0, none⟩ = some (.slice b ys.length c')) := fun w' h => ⟨h.cell d0, h.cell d1⟩
  by_cases hl : xs.length = ys.length
  · have HT : Hid ((∀ i, i < xs.length → xs.getD i ByteArray.empty = ys.getD i ByteArray.empty) → true = decide (xs = ys)) := fun h => (decide_eq_true (listS_ext hl h)).symm
    have HF : Hid (∀ i, i < xs.length → ¬ xs.getD i ByteArray.empty = ys.getD i ByteArray.empty → false = decide (xs = ys)) := fun i _ h => (decide_eq_false (fun e => h (by rw [e]))).symm
    have HA := Lib.hid (RowOf.ext ha hx0)
    have HB := Lib.hid (RowOf.ext hb hx0)
    have HL := Lib.hid hl
    have HX0 := Lib.hid hx0
    clear ha hb hx0
    generalize decide (xs = ys) = t at *
    rw [← hl] at hW0 d1 HD ⊢
    clear hl
    go_enter Try.func13, Try.ntmps13
    go_upto_region 1 with fail
    rw [← hW0]
    clear hW0
    go_wp2
    clear d0 d1
    go_loopw [5] (fun i wr => ∃ k : Nat, k ≤ xs.length ∧ i = .int .i64 k ∧ Hid (∀ i, i < k → xs.getD i ByteArray.empty = ys.getD i ByteArray.empty) ∧ Hid (W0.Ext wr)) (fun i _ => xs.length - (intOf i).toNat)
    case atStart => exact ⟨0, Nat.zero_le _, rfl, fun i hi => by omega, .refl _⟩
    case round =>
      obtain ⟨k, hk, rfl, HK, HX⟩ := hrel
      obtain ⟨wo, rfl⟩ : ∃ wo : World, wo = wr := ⟨_, rfl⟩
      obtain ⟨d0, d1⟩ := HD.out wo HX.out
      have hk0 : (0 : Int) ≤ (k : Int) := by omega
      by_cases hlt : k < xs.length
      · obtain ⟨b1, o1, rfl, hc1⟩ := (RowOf.ext HA.out HX.out) k hlt
        obtain ⟨b2, o2, rfl, hc2⟩ := (RowOf.ext HB.out HX.out) k (by rw [← HL.out]; exact hlt)
        have hlt' : (k : Int) < (xs.length : Int) := by omega
        have HK1 : Hid (xs.getD k ByteArray.empty = ys.getD k ByteArray.empty → ∀ i, i < k + 1 → xs.getD i ByteArray.empty = ys.getD i ByteArray.empty) := fun h i hi => by
          by_cases e : i = k
          · rw [e]; exact h
          · exact HK.out i (by omega)
        have HFK := Lib.hid (HF.out k hlt)
        clear HK HT HF HD
        generalize xs.getD k ByteArray.empty = z at *
        generalize ys.getD k ByteArray.empty = z' at *
        by_cases hz : z = z'
        · subst hz
          have HK2 := Lib.hid (HK1.out rfl)
          clear HK1 HFK
          go_wp2_with fail
          refine wp_region_over_lit (by kernel_rfl) (by kernel_rfl) ?_; (repeat (go_big_quiet_step (fail))); refine wpQuiet_nil ?_; rintro _ ⟨x1, rfl⟩
          have HX2 : Hid (W0.Ext (wo.over x1)) := HX.out.trans ⟨x1, rfl⟩
          clear d0 d1 hc1 hc2
          go_wp2
          go_roundw
          case rel => exact ⟨k + 1, by omega, by go_num, HK2, HX2⟩
          case measure => simp [intOf]; omega
        · have hne : (z.toList == z'.toList) = false := str_ne hz
          have hf := HFK.out hz
          subst hf
          clear HK1 HFK hz
          go_wp2_with fail
          refine wp_region_over_lit (by kernel_rfl) (by kernel_rfl) ?_; (repeat (go_big_quiet_step (fail))); refine wpQuiet_nil ?_; rintro _ ⟨x1, rfl⟩
          have HX2 : Hid (w.Ext (wo.over x1)) := HX0.out.trans (HX.out.trans ⟨x1, rfl⟩)
          go_wp2
          go_ret
          exact ⟨rfl, HX2.out⟩
      · have : k = xs.length := by omega
        subst this
        have ht := HT.out HK.out
        subst ht
        have HX2 := Lib.hid (HX0.out.trans HX.out)
        clear HT HF HK
        go_wp2
        go_ret
        exact ⟨rfl, HX2.out⟩
  · have hd : decide (xs = ys) = false := decide_eq_false (fun e => hl (by rw [e]))
    rw [hd]
    have hne : ((xs.length : Int) != (ys.length : Int)) = true := by
      simp only [bne_iff_ne, ne_eq]
      omega
    have HX0 := Lib.hid hx0
    clear ha hb hd hl HD hx0
    generalize xs.length = n at *
    generalize ys.length = n' at *
    go_enter Try.func13, Try.ntmps13
    go_upto_region 1 with fail
    rw [← hW0]
    clear hW0
    go_wp2
    go_ret
    exact ⟨rfl, HX0.out⟩
end Go.Proofs.Ytkpgelhmeokemaa
