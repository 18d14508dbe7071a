/- Runs, and a picture of runs: the reference. -/
import Derived.Test.YtpdmfnndegcjjaaRunP
import Derived.Test.YtpdmfnndegcjjaaWith
import Derived.Test.YtpdmfnndegcjjaaListS
namespace Go.Proofs.Ytpdmfnndegcjjaa
open Go Go.RowKit
theorem listI_ext {xs ys : List Int} (hl : xs.length = ys.length) (h : ∀ i, i < xs.length → xs.getD i 0 = ys.getD i 0) : xs = ys := by
  apply List.ext_getElem hl
  intro i h1 h2
  have := h i h1
  rw [List.getD_eq_getElem?_getD, List.getD_eq_getElem?_getD, List.getElem?_eq_getElem h1, List.getElem?_eq_getElem h2] at this
  exact this
theorem listM_ext {xs ys : List (List Int)} (hl : xs.length = ys.length) (h : ∀ i, i < xs.length → xs.getD i [] = ys.getD i []) : xs = ys := by
  apply List.ext_getElem hl
  intro i h1 h2
  have := h i h1
  rw [List.getD_eq_getElem?_getD, List.getD_eq_getElem?_getD, List.getElem?_eq_getElem h1, List.getElem?_eq_getElem h2] at this
  exact this
set_option maxHeartbeats 800000 in
theorem l00Same_any (a b : Option Addr) (c c' : Nat) (xs ys : List Int) (w : World) (hn : xs.length ≤ maxLen) (_ : ys.length ≤ maxLen) (ha : RowI w a xs) (hb : RowI w b ys) :
    Calls Try.prog 237 #[.slice a xs.length c, .slice b ys.length c'] w fun e w' => e = .returned (.bool (decide (xs = ys))) ∧ w.Ext w' := by
  unfold maxLen at hn
  by_cases hl : xs.length = ys.length
  · have HT : Hid ((∀ i, i < xs.length → xs.getD i 0 = ys.getD i 0) → true = decide (xs = ys)) := fun h => (decide_eq_true (listI_ext hl h)).symm
    have HF : Hid (∀ i, i < xs.length → ¬ xs.getD i 0 = ys.getD i 0 → false = decide (xs = ys)) := fun i _ h => (decide_eq_false (fun e => h (by rw [e]))).symm
    have HA := Lib.hid ha
    have HB := Lib.hid hb
    have HL := Lib.hid hl
    clear ha hb
    generalize decide (xs = ys) = t at *
    rw [← hl]
    clear hl
    go_enter Try.func237, Try.ntmps237
    go_wp2
    go_loopw [5] (fun i wr => ∃ k : Nat, k ≤ xs.length ∧ i = .int .i64 k ∧ Hid (∀ i, i < k → xs.getD i 0 = ys.getD i 0) ∧ Hid (w.Ext wr)) (fun i _ => xs.length - (intOf i).toNat)
    case atStart => exact ⟨0, Nat.zero_le _, rfl, fun i hi => by omega, .refl _⟩
    case round =>
      obtain ⟨k, hk, rfl, HK, HX⟩ := hrel
      by_cases hlt : k < xs.length
      · obtain ⟨b1, o1, rfl, hc1⟩ := (RowOf.ext HA.out HX.out) k hlt
        obtain ⟨b2, o2, rfl, hc2⟩ := (RowOf.ext HB.out HX.out) k (by rw [← HL.out]; exact hlt)
        have hk0 : (0 : Int) ≤ (k : Int) := by omega
        have hlt' : (k : Int) < (xs.length : Int) := by omega
        have HK1 : Hid (xs.getD k 0 = ys.getD k 0 → ∀ i, i < k + 1 → xs.getD i 0 = ys.getD i 0) := fun h i hi => by
          by_cases e : i = k
          · rw [e]; exact h
          · exact HK.out i (by omega)
        have HFK := Lib.hid (HF.out k hlt)
        clear HK HT HF
        generalize xs.getD k 0 = z at *
        generalize ys.getD k 0 = z' at *
        by_cases hz : z = z'
        · subst hz
          have HK2 := Lib.hid (HK1.out rfl)
          clear HK1 HFK
          go_wp2_with fail
          refine wp_region_over_lit (by kernel_rfl) (by kernel_rfl) ?_; (repeat (go_big_quiet_step (fail))); refine wpQuiet_nil ?_; rintro _ ⟨x1, rfl⟩
          have HX2 : Hid (w.Ext (wr.over x1)) := HX.out.trans ⟨x1, rfl⟩
          go_wp2
          go_roundw
          case rel => exact ⟨k + 1, by omega, by go_num, HK2, HX2⟩
          case measure => simp [intOf]; omega
        · have hne : (z != z') = true := by simp [hz]
          have hf := HFK.out hz
          subst hf
          clear HK1 HFK hz
          go_wp2_with fail
          refine wp_region_over_lit (by kernel_rfl) (by kernel_rfl) ?_; (repeat (go_big_quiet_step (fail))); refine wpQuiet_nil ?_; rintro _ ⟨x1, rfl⟩
          have HX2 : Hid (w.Ext (wr.over x1)) := HX.out.trans ⟨x1, rfl⟩
          go_wp2
          go_ret
          exact ⟨rfl, HX2.out⟩
      · have : k = xs.length := by omega
        subst this
        have ht := HT.out HK.out
        subst ht
        clear HT HF HK
        go_wp2
        go_ret
        exact ⟨rfl, HX.out⟩
  · have hd : decide (xs = ys) = false := decide_eq_false (fun e => hl (by rw [e]))
    rw [hd]
    have hne : ((xs.length : Int) != (ys.length : Int)) = true := by
      simp only [bne_iff_ne, ne_eq]
      omega
    clear ha hb hd hl
    generalize xs.length = n at *
    generalize ys.length = n' at *
    go_enter Try.func237, Try.ntmps237
    go_wp2
    go_ret
    exact ⟨rfl, .refl _⟩
set_option maxHeartbeats 800000 in
theorem equalI_any (a b : Option Addr) (c c' : Nat) (xs ys : List Int) (w : World) (hn : xs.length ≤ maxLen) (_ : ys.length ≤ maxLen) (ha : RowI w a xs) (hb : RowI w b ys) :
    Calls Try.prog 227 #[.slice a xs.length c, .slice b ys.length c'] w fun e w' => e = .returned (.bool (decide (xs = ys))) ∧ w.Ext w' := by
  unfold maxLen at hn
  by_cases hl : xs.length = ys.length
  · have HT : Hid ((∀ i, i < xs.length → xs.getD i 0 = ys.getD i 0) → true = decide (xs = ys)) := fun h => (decide_eq_true (listI_ext hl h)).symm
    have HF : Hid (∀ i, i < xs.length → ¬ xs.getD i 0 = ys.getD i 0 → false = decide (xs = ys)) := fun i _ h => (decide_eq_false (fun e => h (by rw [e]))).symm
    have HA := Lib.hid ha
    have HB := Lib.hid hb
    have HL := Lib.hid hl
    clear ha hb
    generalize decide (xs = ys) = t at *
    rw [← hl]
    clear hl
    go_enter Try.func227, Try.ntmps227
    go_wp2
    go_loopw [5,13] (fun _ i wr => ∃ k : Nat, k ≤ xs.length ∧ i = .int .i64 k ∧ Hid (∀ i, i < k → xs.getD i 0 = ys.getD i 0) ∧ Hid (w.Ext wr)) (fun _ i _ => xs.length - (intOf i).toNat)
    case atStart => exact ⟨0, Nat.zero_le _, rfl, fun i hi => by omega, .refl _⟩
    case round =>
      obtain ⟨k, hk, rfl, HK, HX⟩ := hrel
      by_cases hlt : k < xs.length
      · obtain ⟨b1, o1, rfl, hc1⟩ := (RowOf.ext HA.out HX.out) k hlt
        obtain ⟨b2, o2, rfl, hc2⟩ := (RowOf.ext HB.out HX.out) k (by rw [← HL.out]; exact hlt)
        have hk0 : (0 : Int) ≤ (k : Int) := by omega
        have hlt' : (k : Int) < (xs.length : Int) := by omega
        have HK1 : Hid (xs.getD k 0 = ys.getD k 0 → ∀ i, i < k + 1 → xs.getD i 0 = ys.getD i 0) := fun h i hi => by
          by_cases e : i = k
          · rw [e]; exact h
          · exact HK.out i (by omega)
        have HFK := Lib.hid (HF.out k hlt)
        clear HK HT HF
        generalize xs.getD k 0 = z at *
        generalize ys.getD k 0 = z' at *
        by_cases hz : z = z'
        · subst hz
          have HK2 := Lib.hid (HK1.out rfl)
          clear HK1 HFK
          go_wp2_with fail
          refine wp_region_over_lit (by kernel_rfl) (by kernel_rfl) ?_; (repeat (go_big_quiet_step (fail))); refine wpQuiet_nil ?_; rintro _ ⟨x1, rfl⟩
          have HX2 : Hid (w.Ext (wr.over x1)) := HX.out.trans ⟨x1, rfl⟩
          go_wp2
          go_roundw
          case rel => exact ⟨k + 1, by omega, by go_num, HK2, HX2⟩
          case measure => simp [intOf]; omega
        · have hne : (z != z') = true := by simp [hz]
          have hf := HFK.out hz
          subst hf
          clear HK1 HFK hz
          go_wp2_with fail
          refine wp_region_over_lit (by kernel_rfl) (by kernel_rfl) ?_; (repeat (go_big_quiet_step (fail))); refine wpQuiet_nil ?_; rintro _ ⟨x1, rfl⟩
          have HX2 : Hid (w.Ext (wr.over x1)) := HX.out.trans ⟨x1, rfl⟩
          go_wp2
          go_ret
          exact ⟨rfl, HX2.out⟩
      · have : k = xs.length := by omega
        subst this
        have ht := HT.out HK.out
        subst ht
        clear HT HF HK
        go_wp2
        go_ret
        exact ⟨rfl, HX.out⟩
  · have hd : decide (xs = ys) = false := decide_eq_false (fun e => hl (by rw [e]))
    rw [hd]
    have hne : ((xs.length : Int) != (ys.length : Int)) = true := by
      simp only [bne_iff_ne, ne_eq]
      omega
    clear ha hb hd hl
    generalize xs.length = n at *
    generalize ys.length = n' at *
    go_enter Try.func227, Try.ntmps227
    go_wp2
    go_ret
    exact ⟨rfl, .refl _⟩
/-- A table that grows. -/
def MatSt (w : World) (m : List (List Int)) (v : Value) (wr : World) : Prop := ∃ A C, w.Ext wr ∧ GrowM w.heap.size 37 2 wr v A C m
theorem MatSt.ext {w : World} {m : List (List Int)} {v : Value} {wr w' : World} (h : MatSt w m v wr) (hx : wr.Ext w') : MatSt w m v w' := let ⟨A, C, h1, h2⟩ := h; ⟨A, C, h1.trans hx, h2.ext hx⟩
theorem MatSt.x {w : World} {m : List (List Int)} {v : Value} {wr : World} (h : MatSt w m v wr) : w.Ext wr := let ⟨_, _, h1, _⟩ := h; h1
theorem MatSt.start {w w1 : World} (hx : w.Ext w1) : MatSt w [] (.slice (some ⟨w1.heap.size, 0, none⟩) 0 0) (w1.alloc (.cells #[] 37)) := ⟨_, _, hx.alloc _, (GrowM.empty w1 hx.size)⟩
theorem MatSt.ret {w wr : World} {m : List (List Int)} {v : Value} (h : MatSt w m v wr) : MatRet w m (.returned v) wr := by
  obtain ⟨A, C, hx, hm⟩ := h
  obtain ⟨a, c, rfl, _⟩ := World.ownsRow.form hm.outer
  exact ⟨a, c, A, C, rfl, hx, hm⟩
/-- Three numbers, new in the memory. -/
theorem row3_new (w : World) (x y z : Int) (e : TypeId) : GrowOf (Value.int .i64) w.heap.size e (w.alloc (.cells #[.int .i64 x, .int .i64 y, .int .i64 z] e)) (.slice (some ⟨w.heap.size, 0, none⟩) 3 3) [x, y, z] :=
  ⟨by simp, .inr ⟨w.heap.size, 3, _, rfl, Nat.le_refl _, heap_alloc_new w _, Nat.le_refl _, by decide, by simp, by simp⟩⟩
/-- A row of three numbers is appended. -/
theorem MatSt.next3 {w w1 : World} {m : List (List Int)} {v : Value} (h : MatSt w m v w1) (x y z : Int) :
    ∃ pre : List Value, (∃ (A : Nat → Option Addr) (C : Nat → Nat), pre = (List.range m.length).map fun r => Value.slice (A r) (m.getD r []).length (C r)) ∧ (w1.alloc (.cells #[.int .i64 x, .int .i64 y, .int .i64 z] 2)).ownsRow w.heap.size 37 1 v m.length pre ∧
      ∀ (o : Obj) (v' : Value) (w4 : World), ((w1.alloc (.cells #[.int .i64 x, .int .i64 y, .int .i64 z] 2)).alloc o).grownBy w4 v.ownBlock → w4.ownsRow w.heap.size 37 1 v' (m.length + 1) (pre ++ [.slice (some ⟨w1.heap.size, 0, none⟩) 3 3]) → MatSt w (m ++ [[x, y, z]]) v' w4 := by
  obtain ⟨A, C, hx, hm⟩ := h
  have hx1 : w1.Ext (w1.alloc (.cells #[.int .i64 x, .int .i64 y, .int .i64 z] 2)) := by repeat (first | exact World.Ext.refl _ | exact ⟨_, rfl⟩ | assumption | refine World.Ext.over ?_ _ | refine World.Ext.drewN ?_ _ | refine World.Ext.drew ?_ | refine World.Ext.alloc ?_ _ | refine World.Ext.setCell ?_ (by simp) _)
  refine ⟨_, ⟨A, C, rfl⟩, World.ownsRow.ext hm.outer hx1, fun o v' w4 hgrow hown => ⟨(fun r => if r = m.length then some ⟨w1.heap.size, 0, none⟩ else A r), (fun r => if r = m.length then 3 else C r), GrowM.pushExt hm hx hx1 hgrow, GrowM.push (row := [x, y, z]) (by decide) hm hx1 (row3_new w1 x y z _) hx.size hgrow hown⟩⟩
set_option maxHeartbeats 800000 in
theorem l04Equal_any (a b : Option Addr) (c c' : Nat) (A B : Nat → Option Addr) (C D : Nat → Nat) (m m' : List (List Int)) (w : World) (hn : m.length ≤ maxLen) (_ : m'.length ≤ maxLen) (hr : ∀ r, (m.getD r []).length ≤ maxLen) (hr' : ∀ r, (m'.getD r []).length ≤ maxLen) (ha : MatAt w a A C m) (hb : MatAt w b B D m') :
    Calls Try.prog 168 #[.slice a m.length c, .slice b m'.length c'] w fun e w' => e = .returned (.bool (decide (m = m'))) ∧ w.Ext w' := by
  unfold maxLen at hn
  by_cases hl : m.length = m'.length
  · have HT : Hid ((∀ i, i < m.length → m.getD i [] = m'.getD i []) → true = decide (m = m')) := fun h => (decide_eq_true (listM_ext hl h)).symm
    have HF : Hid (∀ i, i < m.length → ¬ m.getD i [] = m'.getD i [] → false = decide (m = m')) := fun i _ h => (decide_eq_false (fun e => h (by rw [e]))).symm
    have HA := Lib.hid ha
    have HB := Lib.hid hb
    have HL := Lib.hid hl
    have HR := Lib.hid hr
    have HR' := Lib.hid hr'
    clear ha hb hr hr'
    generalize decide (m = m') = t at *
    rw [← hl]
    clear hl
    go_enter Try.func168, Try.ntmps168
    go_wp2
    go_loopw [5] (fun i wr => ∃ k : Nat, k ≤ m.length ∧ i = .int .i64 k ∧ Hid (∀ i, i < k → m.getD i [] = m'.getD i []) ∧ Hid (w.Ext wr)) (fun i _ => m.length - (intOf i).toNat)
    case atStart => exact ⟨0, Nat.zero_le _, rfl, fun i hi => by omega, .refl _⟩
    case round =>
      obtain ⟨k, hk, rfl, HK, HX⟩ := hrel
      by_cases hlt : k < m.length
      · obtain ⟨⟨b1, o1, rfl, hc1⟩, hr1⟩ := (HA.out.ext HX.out) k hlt
        obtain ⟨⟨b2, o2, rfl, hc2⟩, hr2⟩ := (HB.out.ext HX.out) k (by rw [← HL.out]; exact hlt)
        have hk0 : (0 : Int) ≤ (k : Int) := by omega
        have hlt' : (k : Int) < (m.length : Int) := by omega
        have HC : Hid (∀ x, Calls Try.prog 237 #[.slice (A k) (m.getD k []).length (C k), .slice (B k) (m'.getD k []).length (D k)] (wr.over x) fun e w' => e = .returned (.bool (decide (m.getD k [] = m'.getD k []))) ∧ (wr.over x).Ext w') := fun x =>
          l00Same_any _ _ _ _ _ _ _ (HR.out k) (HR'.out k) (RowOf.ext hr1 ⟨_, rfl⟩) (RowOf.ext hr2 ⟨_, rfl⟩)
        have HK1 : Hid (decide (m.getD k [] = m'.getD k []) = true → ∀ i, i < k + 1 → m.getD i [] = m'.getD i []) := fun h i hi => by
          by_cases e : i = k
          · rw [e]; exact of_decide_eq_true h
          · exact HK.out i (by omega)
        have HFK : Hid (decide (m.getD k [] = m'.getD k []) = false → false = t) := fun h => HF.out k hlt (of_decide_eq_false h)
        clear HK HT HF hr1 hr2
        generalize decide (m.getD k [] = m'.getD k []) = q at *
        generalize (m.getD k []).length = z at *
        generalize (m'.getD k []).length = z' at *
        cases q
        · have hf := HFK.out rfl
          subst hf
          clear HK1 HFK
          go_wp2_with fail
          refine wp_region_over_lit (by kernel_rfl) (by kernel_rfl) ?_; (repeat (go_big_quiet_step ((go_at_call 237; exact Calls.over_of (HC.out _))))); refine wpQuiet_nil ?_; rintro _ ⟨x1, rfl⟩
          have HX2 : Hid (w.Ext (wr.over x1)) := HX.out.trans ⟨x1, rfl⟩
          go_wp2
          go_ret
          exact ⟨rfl, HX2.out⟩
        · have HK2 := Lib.hid (HK1.out rfl)
          clear HK1 HFK
          go_wp2_with fail
          refine wp_region_over_lit (by kernel_rfl) (by kernel_rfl) ?_; (repeat (go_big_quiet_step ((go_at_call 237; exact Calls.over_of (HC.out _))))); refine wpQuiet_nil ?_; rintro _ ⟨x1, rfl⟩
          have HX2 : Hid (w.Ext (wr.over x1)) := HX.out.trans ⟨x1, rfl⟩
          go_wp2
          go_roundw
          case rel => exact ⟨k + 1, by omega, by go_num, HK2, HX2⟩
          case measure => simp [intOf]; omega
      · have : k = m.length := by omega
        subst this
        have ht := HT.out HK.out
        subst ht
        clear HT HF HK
        go_wp2
        go_ret
        exact ⟨rfl, HX.out⟩
  · have hd : decide (m = m') = false := decide_eq_false (fun e => hl (by rw [e]))
    rw [hd]
    have hne : ((m.length : Int) != (m'.length : Int)) = true := by
      simp only [bne_iff_ne, ne_eq]
      omega
    clear ha hb hd hl hr hr'
    generalize m.length = n at *
    generalize m'.length = n' at *
    go_enter Try.func168, Try.ntmps168
    go_wp2
    go_ret
    exact ⟨rfl, .refl _⟩
set_option maxRecDepth 5000 in
set_option maxHeartbeats 3200000 in
/-- The runs of a picture. -/
theorem l04Runs_any (p : Nat) (a : Option Addr) (c : Nat) (ss : List ByteArray) (w : World) (he : Even ss) (hW1 : 1 ≤ picW ss) (hW : picW ss ≤ 64) (hH : ss.length ≤ 64) (hp : w.cell? ⟨p, 0, none⟩ = some (.slice a ss.length c)) (hm : RowS w a ss) :
    Calls Try.prog 169 #[.pointer (some ⟨p, 0, none⟩)] w (MatRet w (runsTo (picW ss) (picL ss) (ss.length * picW ss))) := by
  obtain ⟨j0, hj, hy0, hy1, hy2⟩ := info_parts Try.infoRowG
  have HWS : Hid (∀ w', w.Ext w' → Calls Try.prog 96 #[.pointer (some ⟨p, 0, none⟩)] w' fun e w'' => e = .returned (.int .i64 (picW ss)) ∧ w'.Ext w'') := fun w' hx => l01Width_any p a c ss w' he.1 (by omega) (by omega) (hx.cell hp) (RowOf.ext hm hx)
  have HHS : Hid (∀ w', w.Ext w' → Calls Try.prog 97 #[.pointer (some ⟨p, 0, none⟩)] w' fun e w'' => e = .returned (.int .i64 ss.length) ∧ w'.Ext w'') := fun w' hx => l01Height_any p a c ss.length w' (by omega) (hx.cell hp)
  have HBL : Hid (∀ w', w.Ext w' → ∀ x y : Nat, ∀ t, pxl (picW ss) ss.length (picL ss) x y = t → Calls Try.prog 173 #[.pointer (some ⟨p, 0, none⟩), .int .i64 x, .int .i64 y] w' fun e w'' => e = .returned (.bool t) ∧ w'.Ext w'') := fun w' hx x y t ht => l01Black_any p a c ss x y w' he (by omega) (by omega) (hx.cell hp) (RowOf.ext hm hx) t ht
  have HLE := runsTo_len (picW ss) (picL ss)
  have HLE := Lib.hid HLE
  clear hp hm he
  generalize picW ss = W at *
  generalize ss.length = H at *
  generalize picL ss = L at *
  have hWH : H * W ≤ 4096 := Nat.mul_le_mul hH hW
  have HWH := Lib.hid hWH
  have HST := Lib.hid (MatSt.start (World.Ext.refl w))
  clear hWH
  go_enter Try.func169, Try.ntmps169
  go_wp2
  go_loopw [3, 4, 5, 6] (fun v i _ _ wr => ∃ y : Nat, y ≤ H ∧ i = .int .i64 y ∧ Hid (MatSt w (runsTo W L (y * W)) v wr)) (fun _ i _ _ _ => H - (intOf i).toNat)
  case atStart => exact ⟨0, Nat.zero_le _, rfl, by rw [Nat.zero_mul]; exact HST⟩
  case round =>
    obtain ⟨y, hy, rfl, HS⟩ := hrel
    clear HST
    obtain ⟨wo, rfl⟩ : ∃ wo : World, wo = wr := ⟨_, rfl⟩
    obtain ⟨vo, rfl⟩ : ∃ vo : Value, vo = u3 := ⟨_, rfl⟩
    go_wp2_with fail
    refine (HHS.out wo HS.out.x).mono ?_
    rintro e w1 ⟨rfl, hx1⟩
    have HS1 := Lib.hid (HS.out.ext hx1)
    clear hx1 HS
    by_cases hlty : y < H
    · have hlty' : (y : Int) < (H : Int) := by omega
      have HYW : Hid (y * W + W ≤ 4096) := by
        show _ ≤ _
        have := Nat.mul_le_mul_right W hlty
        rw [Nat.succ_mul] at this
        have := HWH.out
        omega
      go_wp2
      go_loopw [3, 5, 6] (fun v j _ wr => ∃ x : Nat, x ≤ W + 1 ∧ j = .int .i64 x ∧ Hid (x = 0 ∨ W ≤ x ∨ L.getD (y * W + x - 1) false = false) ∧ Hid (MatSt w (runsTo W L (y * W + min x W)) v wr)) (fun _ j _ _ => W + 1 - (intOf j).toNat)
      case atStart => exact ⟨0, Nat.zero_le _, rfl, .inl rfl, by rw [Nat.zero_min]; exact HS1⟩
      case round =>
        clear HS1
        obtain ⟨x, hx, rfl, HP, HS⟩ := hrel
        obtain ⟨wi, rfl⟩ : ∃ wi : World, wi = wr := ⟨_, rfl⟩
        obtain ⟨vi, rfl⟩ : ∃ vi : Value, vi = u3 := ⟨_, rfl⟩
        go_wp2_with fail
        refine (HWS.out wi HS.out.x).mono ?_
        rintro e w2 ⟨rfl, hx2⟩
        have HS2 := Lib.hid (HS.out.ext hx2)
        clear hx2 HS
        by_cases hltx : x < W
        · have hltx' : (x : Int) < (W : Int) := by omega
          have hpx := pxl_at W H L x y hltx hlty
          cases hb : L.getD (y * W + x) false
          · rw [hb] at hpx
            have HN : Hid (MatSt w (runsTo W L (y * W + min (x + 1) W)) vi w2) := by
              show MatSt _ _ _ _
              rw [Nat.min_eq_left (by omega), ← Nat.add_assoc, runsTo_no hb]
              have := HS2.out
              rw [Nat.min_eq_left (by omega)] at this
              exact this
            have HP2 : Hid (x + 1 = 0 ∨ W ≤ x + 1 ∨ L.getD (y * W + (x + 1) - 1) false = false) := .inr (.inr (by rw [← Nat.add_assoc, Nat.add_sub_cancel]; exact hb))
            clear hb HS2 HP
            go_wp2_with fail
            refine (HBL.out w2 HN.out.x x y _ hpx).mono ?_
            rintro e w3 ⟨rfl, hx3⟩
            have HN3 := Lib.hid (HN.out.ext hx3)
            clear hx3 HN hpx
            go_wp2
            go_roundw
            case rel => exact ⟨x + 1, by omega, by go_num, HP2, HN3⟩
            case measure => simp [intOf]; omega
          · rw [hb] at hpx
            have HB := Lib.hid hb
            have HS3 : Hid (MatSt w (runsTo W L (y * W + x)) vi w2) := by
              show MatSt _ _ _ _
              have := HS2.out
              rw [Nat.min_eq_left (by omega)] at this
              exact this
            clear hb HS2
            go_wp2_with fail
            refine (HBL.out w2 HS3.out.x x y _ hpx).mono ?_
            rintro e w3 ⟨rfl, hx3⟩
            have HS4 := Lib.hid (HS3.out.ext hx3)
            clear hx3 HS3 hpx
            go_wp2
            go_loopw [5] (fun j wr => ∃ z : Nat, x ≤ z ∧ z ≤ W ∧ j = .int .i64 z ∧ Hid (∀ i, x ≤ i → i < z → L.getD (y * W + i) false = true) ∧ Hid (MatSt w (runsTo W L (y * W + x)) vi wr)) (fun j _ => W - (intOf j).toNat)
            case atStart => exact ⟨x, Nat.le_refl _, by omega, rfl, fun i h1 h2 => by omega, HS4⟩
            case round =>
              clear HS4
              obtain ⟨z, hz1, hz2, rfl, HZ, HS⟩ := hrel
              obtain ⟨wj, rfl⟩ : ∃ wj : World, wj = wr := ⟨_, rfl⟩
              cases hq : pxl W H L z y
              · have hzx : x < z := by
                  rcases Nat.lt_or_ge x z with h | h
                  · exact h
                  · have : z = x := by omega
                    rw [this, pxl_at W H L x y hltx hlty, HB.out] at hq
                    cases hq
                have HPZ : Hid (z + 1 = 0 ∨ W ≤ z + 1 ∨ L.getD (y * W + (z + 1) - 1) false = false) := by
                  by_cases hzW : z < W
                  · rw [pxl_at W H L z y hzW hlty] at hq
                    exact .inr (.inr (by rw [← Nat.add_assoc, Nat.add_sub_cancel]; exact hq))
                  · exact .inr (.inl (by omega))
                have HRU : Hid (runsTo W L (y * W + min (z + 1) W) = runsTo W L (y * W + x) ++ [[(y : Int), (x : Int), (z : Int) - (x : Int)]]) := by
                  show _ = _
                  have h1 := runsTo_run (W := W) (l := L) (x := x) (y := y) (z - x - 1) (by omega) (fun i hi => by
                    rcases Nat.lt_or_ge (x + i) z with h | h
                    · exact HZ.out (x + i) (by omega) h
                    · omega) (by
                    rcases HP.out with h | h | h
                    · exact .inl h
                    · omega
                    · exact .inr h)
                  rw [show y * W + (x + (z - x - 1)) + 1 = y * W + z by omega, show ((z - x - 1 : Nat) : Int) + 1 = (z : Int) - (x : Int) by omega] at h1
                  by_cases hzW : z < W
                  · rw [pxl_at W H L z y hzW hlty] at hq
                    rw [Nat.min_eq_left (by omega), ← Nat.add_assoc, runsTo_no hq]
                    exact h1
                  · have : z = W := by omega
                    rw [Nat.min_eq_right (by omega), ← this]
                    rw [this] at h1 ⊢
                    exact h1
                obtain ⟨w4, hw4⟩ : ∃ w4, w4 = wj := ⟨_, rfl⟩
                go_wp2_with fail
                refine (HBL.out wj HS.out.x z y _ hq).mono ?_
                rintro e w5 ⟨rfl, hx5⟩
                obtain ⟨pre, -, hown, hnext⟩ := (HS.out.ext hx5).next3 (y : Int) (x : Int) ((z : Int) - (x : Int))
                rw [← HRU.out] at hnext
                have HNEXT := Lib.hid hnext
                have hlen := HLE.out (y * W + x)
                have HB1 : Hid ((runsTo W L (y * W + x)).length + 1 ≤ maxLen) := by show _ ≤ _; have := HYW.out; unfold maxLen; omega
                have HB2 : Hid (((runsTo W L (y * W + x)).length + 1) * 24 ≤ 140737488355328) := by show _ ≤ _; have := HYW.out; omega
                have HLO : ∀ o' : Obj, w.heap.size ≤ ((w5.alloc (.cells #[.int .i64 y, .int .i64 x, .int .i64 ((z : Int) - (x : Int))] 2)).alloc o').heap.size := fun o' => (((HS.out.x.trans hx5).alloc _).alloc o').size
                clear hnext HS hx5 HRU HZ HB HP hlen hq hw4
                generalize (runsTo W L (y * W + x)).length = n at *
                go_wp2_with ((at_builtin; refine wpList_append_own _ rfl _ _ 33 rfl w.heap.size 37 j0 (.slice none 0 0) 1 24 Try.underlying33 hj hy0 hy1 hy2 rfl (by decide) _ _ _ rfl (hown.alloc _) ⟨w5.heap.size + 1, 0, none⟩ 1 1 [.slice (some ⟨w5.heap.size, 0, none⟩) 3 3] rfl rfl (cell_one_at (by simp)) (by simp [Value.oneCell']) HB1.out HB2.out (HLO _) (fun v' w1 hown' hgrow _ => ?_)); have HS6 := Lib.hid (HNEXT.out _ _ _ hgrow hown'); clear hgrow hown' hown)
                go_roundw
                case rel => exact ⟨z + 1, by omega, by go_num, HPZ, HS6⟩
                case measure => simp [intOf]; omega
              · have hzW : z < W := by
                  rcases Nat.lt_or_ge z W with h | h
                  · exact h
                  · rw [pxl_out (by unfold hasB; rw [show inB (z : Int) 0 ((W : Int) - 1) = false by rw [Bool.eq_false_iff]; intro h2; have := inB_true.1 h2; omega]; rfl)] at hq
                    cases hq
                have HZ2 : Hid (∀ i, x ≤ i → i < z + 1 → L.getD (y * W + i) false = true) := fun i h1 h2 => by
                  by_cases e : i = z
                  · rw [e, ← pxl_at W H L z y hzW hlty]; exact hq
                  · exact HZ.out i h1 (by omega)
                clear HZ
                go_wp2_with fail
                refine (HBL.out wj HS.out.x z y _ hq).mono ?_
                rintro e w5 ⟨rfl, hx5⟩
                have HS5 := Lib.hid (HS.out.ext hx5)
                clear hx5 HS hq
                go_wp2
                go_roundw
                case rel => exact ⟨z + 1, by omega, by omega, by go_num, HZ2, HS5⟩
                case measure => simp [intOf]; omega
        · have hxe : ¬ (x : Int) < (W : Int) := by omega
          have HN : Hid (MatSt w (runsTo W L ((y + 1) * W)) vi w2) := by
            show MatSt _ _ _ _
            have := HS2.out
            rw [Nat.min_eq_right (by omega)] at this
            rw [Nat.succ_mul]
            exact this
          clear HS2 HP
          go_wp2
          go_roundw
          case rel => exact ⟨y + 1, by omega, by go_num, HN⟩
          case measure => simp [intOf]; omega
    · have : y = H := by omega
      subst this
      have hye : ¬ (y : Int) < (y : Int) := by omega
      have hret := HS1.out.ret
      have HR := Lib.hid hret
      clear hret HS1
      go_wp2
      go_ret
      exact HR.out
end Go.Proofs.Ytpdmfnndegcjjaa
