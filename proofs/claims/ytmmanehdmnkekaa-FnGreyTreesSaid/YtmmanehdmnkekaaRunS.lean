/- Runs, and a picture of runs: the reference. -/
import Derived.Test.YtmmanehdmnkekaaRunP
import Derived.Test.YtmmanehdmnkekaaWith
import Derived.Test.YtmmanehdmnkekaaListS
namespace Go.Proofs.Ytmmanehdmnkekaa
open Go Go.RowKit
theorem listI_ext {xs ys : List Int} (hl : xs.length = ys.length) (h : ∀ i, i < xs.length → xs.getD i 0 = ys.getD i 0) : xs = ys := by
  apply List.ext_getElem hl
  intro i h1 h2
  have := h i h1
  rw [List.getD_eq_getElem?_getD, List.getD_eq_getElem?_getD, List.getElem?_eq_getElem h1, List.getElem?_eq_getElem h2] at this
  exact this
theorem listM_ext {xs ys : List (List Int)} (hl : xs.length = ys.length) (h : ∀ i, i < xs.length → xs.getD i [] = ys.getD i []) : xs = ys := by
  apply List.ext_getElem hl
  intro i h1 h2
  have := h i h1
  rw [List.getD_eq_getElem?_getD, List.getD_eq_getElem?_getD, List.getElem?_eq_getElem h1, List.getElem?_eq_getElem h2] at this
  exact this
set_option maxHeartbeats 800000 in
theorem equalI_any (a b : Option Addr) (c c' : Nat) (xs ys : List Int) (w : World) (hn : xs.length ≤ maxLen) (_ : ys.length ≤ maxLen) (ha : RowI w a xs) (hb : RowI w b ys) :
    Calls Try.prog 81 #[.slice a xs.length c, .slice b ys.length c'] w fun e w' => e = .returned (.bool (decide (xs = ys))) ∧ w.Ext w' := by
  unfold maxLen at hn
  by_cases hl : xs.length = ys.length
  · have HT : Hid ((∀ i, i < xs.length → xs.getD i 0 = ys.getD i 0) → true = decide (xs = ys)) := fun h => (decide_eq_true (listI_ext hl h)).symm
    have HF : Hid (∀ i, i < xs.length → ¬ xs.getD i 0 = ys.getD i 0 → false = decide (xs = ys)) := fun i _ h => (decide_eq_false (fun e => h (by rw [e]))).symm
    have HA := Lib.hid ha
    have HB := Lib.hid hb
    have HL := Lib.hid hl
    clear ha hb
    generalize decide (xs = ys) = t at *
    rw [← hl]
    clear hl
    go_enter Try.func81, Try.ntmps81
    go_wp2
    go_loopw [5,13] (fun _ i wr => ∃ k : Nat, k ≤ xs.length ∧ i = .int .i64 k ∧ Hid (∀ i, i < k → xs.getD i 0 = ys.getD i 0) ∧ Hid (w.Ext wr)) (fun _ i _ => xs.length - (intOf i).toNat)
    case atStart => exact ⟨0, Nat.zero_le _, rfl, fun i hi => by omega, .refl _⟩
    case round =>
      obtain ⟨k, hk, rfl, HK, HX⟩ := hrel
      by_cases hlt : k < xs.length
      · obtain ⟨b1, o1, rfl, hc1⟩ := (RowOf.ext HA.out HX.out) k hlt
        obtain ⟨b2, o2, rfl, hc2⟩ := (RowOf.ext HB.out HX.out) k (by rw [← HL.out]; exact hlt)
        have hk0 : (0 : Int) ≤ (k : Int) := by omega
        have hlt' : (k : Int) < (xs.length : Int) := by omega
        have HK1 : Hid (xs.getD k 0 = ys.getD k 0 → ∀ i, i < k + 1 → xs.getD i 0 = ys.getD i 0) := fun h i hi => by
          by_cases e : i = k
          · rw [e]; exact h
          · exact HK.out i (by omega)
        have HFK := Lib.hid (HF.out k hlt)
        clear HK HT HF
        generalize xs.getD k 0 = z at *
        generalize ys.getD k 0 = z' at *
        by_cases hz : z = z'
        · subst hz
          have HK2 := Lib.hid (HK1.out rfl)
          clear HK1 HFK
          go_wp2_with fail
          refine wp_region_over_lit (by kernel_rfl) (by kernel_rfl) ?_; (repeat (go_big_quiet_step (fail))); refine wpQuiet_nil ?_; rintro _ ⟨x1, rfl⟩
          have HX2 : Hid (w.Ext (wr.over x1)) := HX.out.trans ⟨x1, rfl⟩
          go_wp2
          go_roundw
          case rel => exact ⟨k + 1, by omega, by go_num, HK2, HX2⟩
          case measure => simp [intOf]; omega
        · have hne : (z != z') = true := by simp [hz]
          have hf := HFK.out hz
          subst hf
          clear HK1 HFK hz
          go_wp2_with fail
          refine wp_region_over_lit (by kernel_rfl) (by kernel_rfl) ?_; (repeat (go_big_quiet_step (fail))); refine wpQuiet_nil ?_; rintro _ ⟨x1, rfl⟩
          have HX2 : Hid (w.Ext (wr.over x1)) := HX.out.trans ⟨x1, rfl⟩
          go_wp2
          go_ret
          exact ⟨rfl, HX2.out⟩
      · have : k = xs.length := by omega
        subst this
        have ht := HT.out HK.out
        subst ht
        clear HT HF HK
        go_wp2
        go_ret
        exact ⟨rfl, HX.out⟩
  · have hd : decide (xs = ys) = false := decide_eq_false (fun e => hl (by rw [e]))
    rw [hd]
    have hne : ((xs.length : Int) != (ys.length : Int)) = true := by
      simp only [bne_iff_ne, ne_eq]
      omega
    clear ha hb hd hl
    generalize xs.length = n at *
    generalize ys.length = n' at *
    go_enter Try.func81, Try.ntmps81
    go_wp2
    go_ret
    exact ⟨rfl, .refl _⟩
/-- A table that grows. -/
def MatSt (w : World) (m : List (List Int)) (v : Value) (wr : World) : Prop := ∃ A C, w.Ext wr ∧ GrowM w.heap.size 28 2 wr v A C m
theorem MatSt.ext {w : World} {m : List (List Int)} {v : Value} {wr w' : World} (h : MatSt w m v wr) (hx : wr.Ext w') : MatSt w m v w' := let ⟨A, C, h1, h2⟩ := h; ⟨A, C, h1.trans hx, h2.ext hx⟩
theorem MatSt.x {w : World} {m : List (List Int)} {v : Value} {wr : World} (h : MatSt w m v wr) : w.Ext wr := let ⟨_, _, h1, _⟩ := h; h1
theorem MatSt.start {w w1 : World} (hx : w.Ext w1) : MatSt w [] (.slice (some ⟨w1.heap.size, 0, none⟩) 0 0) (w1.alloc (.cells #[] 28)) := ⟨_, _, hx.alloc _, (GrowM.empty w1 hx.size)⟩
theorem MatSt.ret {w wr : World} {m : List (List Int)} {v : Value} (h : MatSt w m v wr) : MatRet w m (.returned v) wr := by
  obtain ⟨A, C, hx, hm⟩ := h
  obtain ⟨a, c, rfl, _⟩ := World.ownsRow.form hm.outer
  exact ⟨a, c, A, C, rfl, hx, hm⟩
/-- Three numbers, new in the memory. -/
theorem row3_new (w : World) (x y z : Int) (e : TypeId) : GrowOf (Value.int .i64) w.heap.size e (w.alloc (.cells #[.int .i64 x, .int .i64 y, .int .i64 z] e)) (.slice (some ⟨w.heap.size, 0, none⟩) 3 3) [x, y, z] :=
  ⟨by simp, .inr ⟨w.heap.size, 3, _, rfl, Nat.le_refl _, heap_alloc_new w _, Nat.le_refl _, by decide, by simp, by simp⟩⟩
/-- A row of three numbers is appended. -/
theorem MatSt.next3 {w w1 : World} {m : List (List Int)} {v : Value} (h : MatSt w m v w1) (x y z : Int) :
    ∃ pre : List Value, (∃ (A : Nat → Option Addr) (C : Nat → Nat), pre = (List.range m.length).map fun r => Value.slice (A r) (m.getD r []).length (C r)) ∧ (w1.alloc (.cells #[.int .i64 x, .int .i64 y, .int .i64 z] 2)).ownsRow w.heap.size 28 1 v m.length pre ∧
      ∀ (o : Obj) (v' : Value) (w4 : World), ((w1.alloc (.cells #[.int .i64 x, .int .i64 y, .int .i64 z] 2)).alloc o).grownBy w4 v.ownBlock → w4.ownsRow w.heap.size 28 1 v' (m.length + 1) (pre ++ [.slice (some ⟨w1.heap.size, 0, none⟩) 3 3]) → MatSt w (m ++ [[x, y, z]]) v' w4 := by
  obtain ⟨A, C, hx, hm⟩ := h
  have hx1 : w1.Ext (w1.alloc (.cells #[.int .i64 x, .int .i64 y, .int .i64 z] 2)) := by repeat (first | exact World.Ext.refl _ | exact ⟨_, rfl⟩ | assumption | refine World.Ext.over ?_ _ | refine World.Ext.drewN ?_ _ | refine World.Ext.drew ?_ | refine World.Ext.alloc ?_ _ | refine World.Ext.setCell ?_ (by simp) _)
  refine ⟨_, ⟨A, C, rfl⟩, World.ownsRow.ext hm.outer hx1, fun o v' w4 hgrow hown => ⟨(fun r => if r = m.length then some ⟨w1.heap.size, 0, none⟩ else A r), (fun r => if r = m.length then 3 else C r), GrowM.pushExt hm hx hx1 hgrow, GrowM.push (row := [x, y, z]) (by decide) hm hx1 (row3_new w1 x y z _) hx.size hgrow hown⟩⟩
end Go.Proofs.Ytmmanehdmnkekaa
