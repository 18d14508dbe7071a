/- Borders that are given: their steps, and the picture that they fill; plain. -/
import Derived.Test.YthgkmaccbcpaeaaBdgI
import Derived.Test.YthgkmaccbcpaeaaBfB
namespace Go.Proofs.Ythgkmaccbcpaeaa
open Go Go.RowKit
def gOf (b : Bord) (i : Nat) : Edg := gE b.1 b.2.1 b.2.2 i
def gEL (b : Bord) (n : Nat) : List Edg := (List.range n).map (gOf b)
def IsBdB (b : Bord) : Prop := IsBd b.1 b.2.1 b.2.2
theorem gEL_len (b : Bord) (n : Nat) : (gEL b n).length = n := by simp [gEL]
/-- The steps of the first j borders, and i of the next. -/
def stepsG (B : List Bord) (j i : Nat) : List Edg := (B.take j).flatMap (fun b => gEL b b.2.2.size) ++ gEL (B.getD j bd0) i
theorem stepsG_succ (B : List Bord) (j i : Nat) : stepsG B j (i + 1) = stepsG B j i ++ [gOf (B.getD j bd0) i] := by
  unfold stepsG gEL
  rw [List.range_succ, List.map_append, ← List.append_assoc]
  rfl
set_option maxRecDepth 20000 in
theorem stepsG_next {B : List Bord} {j : Nat} (hj : j < B.length) : stepsG B j (B.getD j bd0).2.2.size = stepsG B (j + 1) 0 := by
  unfold stepsG
  rw [List.take_succ_eq_append_getElem hj, List.flatMap_append]
  show _ = _ ++ []
  rw [List.append_nil]
  have e : B.getD j bd0 = B[j] := by rw [List.getD_eq_getElem?_getD, List.getElem?_eq_getElem hj]; rfl
  rw [e, List.flatMap_cons, List.flatMap_nil, List.append_nil]
set_option maxRecDepth 20000 in
theorem stepsG_len {B : List Bord} {j : Nat} (h : ∀ r, r < j → (B.getD r bd0).2.2.size ≤ 600) (i : Nat) : (stepsG B j i).length ≤ 600 * B.length + i := by
  unfold stepsG
  rw [List.length_append, gEL_len]
  have hl : ∀ C : List Bord, (∀ b, b ∈ C → b.2.2.size ≤ 600) → (C.flatMap fun b => gEL b b.2.2.size).length ≤ 600 * C.length := fun C => by
    induction C with
    | nil => intro _; exact Nat.le_refl _
    | cons b C ih =>
      intro hC
      rw [List.flatMap_cons, List.length_append, List.length_cons]
      have h1 := ih fun x hx => hC x (List.mem_cons_of_mem _ hx)
      have h2 := hC b List.mem_cons_self
      have h3 := gEL_len b b.2.2.size
      omega
  have h1 := hl (B.take j) fun b hb => by
    obtain ⟨r, hr, rfl⟩ := List.getElem_of_mem hb
    rw [List.length_take] at hr
    have := h r (by omega)
    rw [List.getD_eq_getElem?_getD, List.getElem?_eq_getElem (by omega)] at this
    rw [List.getElem_take]
    exact this
  have h2 : (B.take j).length ≤ B.length := by rw [List.length_take]; exact Nat.min_le_right _ _
  omega
def allG (B : List Bord) : List Edg := B.flatMap fun b => gEL b b.2.2.size
theorem stepsG_all (B : List Bord) : stepsG B B.length 0 = allG B := by
  unfold stepsG
  rw [List.take_length]
  exact List.append_nil _
/-- How often the first x spots of a row are gone round. -/
def insN (L : List Edg) (y : Nat) : Nat → Int
  | 0 => 0
  | x + 1 => insN L y x + upN L ((x : Int), (y : Int))
theorem insN_bnd (L : List Edg) (y : Nat) : ∀ x, -((x * L.length : Nat) : Int) ≤ insN L y x ∧ insN L y x ≤ ((x * L.length : Nat) : Int)
  | 0 => by
    rw [Nat.zero_mul]
    exact ⟨Int.le_refl _, Int.le_refl _⟩
  | x + 1 => by
    have h1 := insN_bnd L y x
    have h2 := upN_bnd L ((x : Int), (y : Int))
    have e : insN L y (x + 1) = insN L y x + upN L ((x : Int), (y : Int)) := rfl
    rw [e, Nat.add_mul, Nat.one_mul]
    omega
theorem insN_bnd2 {L : List Edg} {x : Nat} (y : Nat) (hx : x ≤ 20) (hL : L.length ≤ 100000) : -2000000 ≤ insN L y x ∧ insN L y x ≤ 2000000 := by
  have h1 := insN_bnd L y x
  have h2 : x * L.length ≤ 20 * 100000 := Nat.mul_le_mul hx hL
  omega
def fG (L : List Edg) (x y : Int) : Bool := decide (0 < insN L y.toNat (x.toNat + 1))
def picG (L : List Edg) (W H : Nat) : List Bool := mkl W H fun i j => fG L (i : Int) (j : Int)
theorem mkl_all {W H : Nat} (f : Int → Int → Bool) : (mkl W H fun i j => decide (j * W + i < H * W) && f (i : Int) (j : Int)) = mkl W H fun i j => f (i : Int) (j : Int) := mkl_congr fun x y hx hy => by
  rw [decide_eq_true (by
    have : (y + 1) * W ≤ H * W := Nat.mul_le_mul_right W hy
    rw [Nat.add_mul, Nat.one_mul] at this
    omega), Bool.true_and]
/-- What PictureOfBorders says of borders. -/
def PobOk (W H : Nat) (B : List Bord) : Prop := (∀ r, r < B.length → IsBdB (B.getD r bd0)) ∧ brds (pxl W H (picG (allG B) W H)) W (H * W) = B
end Go.Proofs.Ythgkmaccbcpaeaa
/- Borders that are equal or not. -/
namespace Go.Proofs.Ythgkmaccbcpaeaa
open Go Go.RowKit
def EqBdRet (w : World) (bs ds : List Bord) (e : Ending) (w' : World) : Prop := ∃ t : Bool, e = .returned (.bool t) ∧ (t = true ↔ bs = ds) ∧ w.Ext w'
theorem bytes_inj {s t : ByteArray} (h : s.toList = t.toList) : s = t := by
  rw [ByteArray.toList_eq, ByteArray.toList_eq] at h
  cases s
  cases t
  congr 1
  exact Array.toList_inj.1 h
theorem bd_ext {a b : List Bord} (h : a.length = b.length) (h2 : ∀ i, i < a.length → a.getD i bd0 = b.getD i bd0) : a = b := by
  apply List.ext_getElem h
  intro i h3 h4
  have := h2 i h3
  rwa [List.getD_eq_getElem?_getD, List.getD_eq_getElem?_getD, List.getElem?_eq_getElem h3, List.getElem?_eq_getElem h4] at this
set_option maxRecDepth 5000 in
set_option maxHeartbeats 1600000 in
theorem eqBords_any (a b : Option Addr) (c c' n m : Nat) (bs ds : List Bord) (w : World) (hl : bs.length = n) (hm : ds.length = m) (hn : n ≤ 262144) (hm2 : m ≤ 262144) (ha : RowBd w a bs) (hb : RowBd w b ds) :
    Calls Try.prog 105 #[.slice a n c, .slice b m c'] w (EqBdRet w bs ds) := by
  have HA := Lib.hid ha
  have HB := Lib.hid hb
  have HL := Lib.hid hl
  have HM := Lib.hid hm
  clear ha hb hl hm
  by_cases hnm : n = m
  rotate_left
  · have HNO : Hid (∀ w', w.Ext w' → EqBdRet w bs ds (.returned (.bool false)) w') := fun w' hx => ⟨false, rfl, ⟨(fun h => by cases h), fun h => absurd (by rw [← HL.out, ← HM.out, h]) hnm⟩, hx⟩
    have tb : ((n : Int) == (m : Int)) = false := by rw [beq_eq_false_iff_ne]; omega
    go_enter Try.func105, Try.ntmps105
    go_wp2
    go_ret
    exact HNO.out _ (.refl _)
  subst hnm
  go_enter Try.func105, Try.ntmps105
  go_wp2
  go_loopw [5, 13] (fun _ z wr => ∃ k : Nat, k ≤ n ∧ z = .int .i64 k ∧ Hid (w.Ext wr) ∧ Hid (∀ r, r < k → bs.getD r bd0 = ds.getD r bd0)) (fun _ z _ => n - (intOf z).toNat)
  case atStart => exact ⟨0, Nat.zero_le _, rfl, .refl _, fun r hr => by omega⟩
  case round =>
    obtain ⟨k, hk, rfl, HX, HP⟩ := hrel
    obtain ⟨wo, rfl⟩ : ∃ wo : World, wo = wr := ⟨_, rfl⟩
    have hk0 : (0 : Int) ≤ (k : Int) := by omega
    by_cases hlt : k < n
    · have hlt' : (k : Int) < (n : Int) := by omega
      obtain ⟨b1, o1, rfl, c0, c1, c2⟩ := (HA.out.ext HX.out) k (by rw [HL.out]; exact hlt)
      obtain ⟨b2, o2, rfl, d0, d1, d2⟩ := (HB.out.ext HX.out) k (by rw [HM.out]; exact hlt)
      have HYES : Hid (bs.getD k bd0 = ds.getD k bd0 → ∀ r, r < k + 1 → bs.getD r bd0 = ds.getD r bd0) := fun h r hr => by
        by_cases e : r = k
        · rw [e]; exact h
        · exact HP.out r (by omega)
      have HNO : Hid (bs.getD k bd0 ≠ ds.getD k bd0 → ∀ w', w.Ext w' → EqBdRet w bs ds (.returned (.bool false)) w') := fun h w' hx => ⟨false, rfl, ⟨(fun h => by cases h), fun h2 => absurd (by rw [h2]) h⟩, hx⟩
      generalize bs.getD k bd0 = d at *
      generalize ds.getD k bd0 = d' at *
      obtain ⟨x, y, s⟩ := d
      obtain ⟨x', y', s'⟩ := d'
      dsimp only at c0 c1 c2 d0 d1 d2
      have HTT : Hid (((x, y, s) : Bord) = (x', y', s') ↔ x = x' ∧ y = y' ∧ s.toList = s'.toList) := by
        show _ ↔ _
        rw [Prod.mk.injEq, Prod.mk.injEq]
        exact and_congr Iff.rfl (and_congr Iff.rfl ⟨fun h => by rw [h], bytes_inj⟩)
      by_cases q1 : x = x'
      rotate_left
      · have HN := Lib.hid (HNO.out fun h => q1 (HTT.out.1 h).1)
        have f1 : ((x == x' && y == y') && s.toList == s'.toList) = false := by simp [q1]
        clear HTT HNO HYES HP
        go_wp2_with fail
        refine wp_region_over_lit (by kernel_rfl) (by kernel_rfl) ?_; (repeat (go_big_quiet_step (fail))); refine wpQuiet_nil ?_; rintro _ ⟨x1, rfl⟩
        have HX2 : Hid (w.Ext (wo.over x1)) := HX.out.trans ⟨x1, rfl⟩
        clear c0 c1 c2 d0 d1 d2
        go_wp2
        go_ret
        exact HN.out _ HX2.out
      by_cases q2 : y = y'
      rotate_left
      · have HN := Lib.hid (HNO.out fun h => q2 (HTT.out.1 h).2.1)
        have f1 : ((x == x' && y == y') && s.toList == s'.toList) = false := by simp [q2]
        clear HTT HNO HYES HP
        go_wp2_with fail
        refine wp_region_over_lit (by kernel_rfl) (by kernel_rfl) ?_; (repeat (go_big_quiet_step (fail))); refine wpQuiet_nil ?_; rintro _ ⟨x1, rfl⟩
        have HX2 : Hid (w.Ext (wo.over x1)) := HX.out.trans ⟨x1, rfl⟩
        clear c0 c1 c2 d0 d1 d2
        go_wp2
        go_ret
        exact HN.out _ HX2.out
      by_cases q3 : s.toList = s'.toList
      rotate_left
      · have HN := Lib.hid (HNO.out fun h => q3 (HTT.out.1 h).2.2)
        have f1 : ((x == x' && y == y') && s.toList == s'.toList) = false := by simp [q3]
        clear HTT HNO HYES HP
        go_wp2_with fail
        refine wp_region_over_lit (by kernel_rfl) (by kernel_rfl) ?_; (repeat (go_big_quiet_step (fail))); refine wpQuiet_nil ?_; rintro _ ⟨x1, rfl⟩
        have HX2 : Hid (w.Ext (wo.over x1)) := HX.out.trans ⟨x1, rfl⟩
        clear c0 c1 c2 d0 d1 d2
        go_wp2
        go_ret
        exact HN.out _ HX2.out
      · have HP2 := Lib.hid (HYES.out (HTT.out.2 ⟨q1, q2, q3⟩))
        have f1 : ((x == x' && y == y') && s.toList == s'.toList) = true := by simp [q1, q2, q3]
        clear HTT HNO HYES HP
        go_wp2_with fail
        refine wp_region_over_lit (by kernel_rfl) (by kernel_rfl) ?_; (repeat (go_big_quiet_step (fail))); refine wpQuiet_nil ?_; rintro _ ⟨x1, rfl⟩
        have HX2 : Hid (w.Ext (wo.over x1)) := HX.out.trans ⟨x1, rfl⟩
        clear c0 c1 c2 d0 d1 d2
        go_wp2
        go_roundw
        case rel => exact ⟨k + 1, by omega, by go_num, HX2, HP2⟩
        case measure => simp [intOf]; omega
    · have : k = n := by omega
      subst this
      have hlt' : ¬ (k : Int) < (k : Int) := by omega
      have HY : Hid (∀ w', w.Ext w' → EqBdRet w bs ds (.returned (.bool true)) w') := fun w' hx => ⟨true, rfl, ⟨fun _ => bd_ext (by rw [HL.out, HM.out]) fun i hi => HP.out i (by rw [← HL.out]; exact hi), fun _ => rfl⟩, hx⟩
      clear HP
      go_wp2
      go_ret
      exact HY.out _ HX.out
end Go.Proofs.Ythgkmaccbcpaeaa
