/- FnThresholds, plain: the thresholds of a grey picture are nested, their stack is the picture; inverted tables. -/
import Derived.Test.YtkpgelhmeokemaaGreatDoorStA
import Derived.Test.YtkpgelhmeokemaaGreatDoorJoinF
import Derived.Test.YtkpgelhmeokemaaGreatDoorGenC
import Derived.Test.YtkpgelhmeokemaaGreatDoorThrG
import Derived.Test.YtkpgelhmeokemaaGreatDoorLPs
import Derived.Test.YtkpgelhmeokemaaGreatDoorGenT
import Derived.Test.YtkpgelhmeokemaaGreatDoorRgA
import Derived.Test.YtkpgelhmeokemaaGreatDoorRbkP
namespace Go.Proofs.YtkpgelhmeokemaaGreatDoor
open Go Go.RowKit
theorem grl_flattenT {W H : Nat} {l : List Int} (hW : 0 < W) (hl : l.length = H * W) : (grl W H l).flatten = l := by
  have hr : ∀ r, r < (grl W H l).length → ((grl W H l).getD r []).length = W := fun r h => by rw [grl_len] at h; exact grl_row h
  have hfl := flat_len W (grl W H l) hr
  rw [grl_len] at hfl
  apply List.ext_getElem?
  intro k
  by_cases hk : k < H * W
  · have e2 : ∀ (m : List Int), k < m.length → m[k]? = some (m.getD k 0) := fun m hm => by rw [List.getD_eq_getElem?_getD, List.getElem?_eq_getElem hm]; rfl
    have hx : k % W < W := Nat.mod_lt _ hW
    have hy : k / W < H := by rw [Nat.div_lt_iff_lt_mul hW]; exact hk
    have he : k / W * W + k % W = k := by rw [Nat.mul_comm]; exact Nat.div_add_mod _ _
    have h := flat_at W (grl W H l) _ _ hr (by rw [grl_len]; exact hy) hx
    rw [he, grl_at hx hy, he] at h
    rw [e2 _ (by rw [hfl, Nat.mul_comm]; exact hk), e2 _ (by rw [hl]; exact hk), h]
  · rw [List.getElem?_eq_none (by rw [hfl, Nat.mul_comm]; omega), List.getElem?_eq_none (by omega)]
theorem flat_le {m : List (List Int)} {z : Int} (hok : tableOk m z = true) {k : Nat} (hk : k < m.flatten.length) : 0 ≤ m.flatten.getD k 0 ∧ m.flatten.getD k 0 ≤ z := by
  obtain ⟨v1, v2, v3, v4, v5, v6⟩ := tableOk_spec hok
  have hl := flat_len (m.getD 0 []).length m v5
  have hW : 0 < (m.getD 0 []).length := by omega
  have hx : k % (m.getD 0 []).length < (m.getD 0 []).length := Nat.mod_lt _ hW
  have hy : k / (m.getD 0 []).length < m.length := by rw [Nat.div_lt_iff_lt_mul hW, Nat.mul_comm]; omega
  have he : k / (m.getD 0 []).length * (m.getD 0 []).length + k % (m.getD 0 []).length = k := by rw [Nat.mul_comm]; exact Nat.div_add_mod _ _
  have h := flat_at (m.getD 0 []).length m _ _ v5 hy hx
  rw [he] at h
  rw [h]
  exact v6 _ _ hy (by rw [v5 _ hy]; exact hx)
theorem ths_pic {m : List (List Int)} (t : Int) (hok : tableOk m 99 = true) : picOk (thrRows m t) = true ∧ picW (thrRows m t) = (m.getD 0 []).length ∧ (thrRows m t).length = m.length ∧ picL (thrRows m t) = thrL t m.flatten := by
  obtain ⟨v1, v2, v3, v4, v5, v6⟩ := tableOk_spec hok
  have hl : (thrL t m.flatten).length = (m.getD 0 []).length * m.length := by unfold thrL; rw [List.length_map, flat_len _ m v5]
  exact ⟨picOk_rows v3 v4 v1 v2 hl, picW_rows (by omega) hl, picRows_len _ _ _, picL_rows hl⟩
theorem thrL_at {t : Int} {l : List Int} {k : Nat} (hk : k < l.length) : (thrL t l).getD k false = decide (t ≤ l.getD k 0) := by
  unfold thrL
  rw [List.getD_eq_getElem?_getD, List.getElem?_map, List.getD_eq_getElem?_getD, List.getElem?_eq_getElem hk]
  rfl
theorem ths_like {m : List (List Int)} (t u : Int) (hok : tableOk m 99 = true) : likeP (thrRows m t) (thrRows m u) = true := by
  obtain ⟨a1, a2, a3, -⟩ := ths_pic t hok
  obtain ⟨b1, b2, b3, -⟩ := ths_pic u hok
  unfold likeP
  rw [a1, b1, a2, b2, a3, b3, decide_eq_true rfl, decide_eq_true rfl]
  rfl
theorem ths_in {m : List (List Int)} (t u : Int) (hok : tableOk m 99 = true) (h : u ≤ t) : (likeP (thrRows m t) (thrRows m u) && insB (picL (thrRows m t)) (picL (thrRows m u))) = true := by
  obtain ⟨-, -, -, a4⟩ := ths_pic t hok
  obtain ⟨-, -, -, b4⟩ := ths_pic u hok
  rw [ths_like t u hok, Bool.true_and, a4, b4]
  refine insideB_at.2 fun i hi h1 => ?_
  have hi2 : i < m.flatten.length := by unfold thrL at hi; rw [List.length_map] at hi; exact hi
  rw [thrL_at hi2] at h1 ⊢
  have := of_decide_eq_true h1
  exact decide_eq_true (by omega)
theorem ext_getDI {l l' : List Int} (h : l.length = l'.length) (h2 : ∀ k, k < l'.length → l.getD k 0 = l'.getD k 0) : l = l' := by
  apply List.ext_getElem h
  intro k h3 h4
  have := h2 k h4
  rw [List.getD_eq_getElem?_getD, List.getElem?_eq_getElem h3, List.getD_eq_getElem?_getD, List.getElem?_eq_getElem h4] at this
  exact this
/-- The thresholds at the levels 1 .. k. -/
def thrK (m : List (List Int)) (k : Nat) : List (List ByteArray) := (List.range k).map fun i => thrRows m ((i + 1 : Nat) : Int)
theorem thrK_len (m : List (List Int)) (k : Nat) : (thrK m k).length = k := by simp [thrK]
theorem thrK_at {m : List (List Int)} {k i : Nat} (h : i < k) : (thrK m k).getD i [] = thrRows m ((i + 1 : Nat) : Int) := by
  simp [thrK, List.getD_eq_getElem?_getD, h]
theorem thrK_succ (m : List (List Int)) (k : Nat) : thrK m (k + 1) = thrK m k ++ [thrRows m ((k + 1 : Nat) : Int)] := by simp [thrK, List.range_succ]
theorem ths_cnt {m : List (List Int)} (hok : tableOk m 99 = true) {n k : Nat} (hk : k < m.flatten.length) : ∀ j, j ≤ n → ((cntK (thrK m n) k j : Nat) : Int) = if (j : Int) ≤ m.flatten.getD k 0 then (j : Int) else m.flatten.getD k 0
  | 0, _ => by
    have h := (flat_le hok hk).1
    have e : ((cntK (thrK m n) k 0 : Nat) : Int) = 0 := rfl
    rw [e]
    generalize m.flatten.getD k 0 = v at *
    split <;> omega
  | j + 1, hj => by
    have ih := ths_cnt (n := n) hok hk j (by omega)
    have h0 := (flat_le hok hk).1
    obtain ⟨-, -, -, a4⟩ := ths_pic ((j + 1 : Nat) : Int) hok
    simp only [cntK]
    rw [thrK_at (by omega), a4, thrL_at hk]
    by_cases h1 : ((j + 1 : Nat) : Int) ≤ m.flatten.getD k 0
    · rw [decide_eq_true h1, if_pos rfl, if_pos h1]
      rw [if_pos (by omega)] at ih
      omega
    · rw [decide_eq_false h1, if_neg (by simp), if_neg h1]
      split at ih <;> omega
theorem ths_stk {m : List (List Int)} (hok : tableOk m 8 = true) : stkOk (thrK m 9) = true ∧ stkG (thrK m 9) = m := by
  have hok9 := tableOk_more hok (by omega : (8 : Int) ≤ 99)
  obtain ⟨v1, v2, v3, v4, v5, v6⟩ := tableOk_spec hok
  have hfl := flat_len _ m v5
  refine ⟨?_, ?_⟩
  · unfold stkOk
    rw [thrK_len, decide_eq_true (by omega), decide_eq_true (by omega), Bool.true_and, Bool.true_and]
    refine likeAll_true.2 fun i hi => ?_
    rw [thrK_len] at hi
    rw [thrK_at (by omega), thrK_at hi]
    exact ths_like _ _ hok9
  · obtain ⟨-, a2, a3, -⟩ := ths_pic ((0 + 1 : Nat) : Int) hok9
    unfold stkG
    rw [thrK_len, thrK_at (by omega), a2, a3]
    have : stkT (thrK m 9) (m.length * (m.getD 0 []).length) 9 0 = m.flatten := by
      refine ext_getDI (by rw [stkT_len, hfl, Nat.mul_comm]) fun k hk => ?_
      have h1 := stkT_at (m := thrK m 9) (n := m.length * (m.getD 0 []).length) (j := 9) (k0 := 0) (k := k) (by rw [Nat.mul_comm, ← hfl]; exact hk)
      have h2 := (flat_le hok hk).2
      rw [if_neg (by omega), ths_cnt hok9 hk 9 (by omega), if_neg (by omega)] at h1
      exact h1
    rw [this]
    exact grl_flat v5
theorem pic_bndT {ss : List ByteArray} (h : picOk ss = true) : PicBnd ss := by
  obtain ⟨v1, v2, v3, v4, v5, -⟩ := picOk_spec h
  refine ⟨by omega, fun y => ?_⟩
  by_cases hy : y < ss.length
  · rw [v5.2 y hy]; omega
  · rw [List.getD_eq_getElem?_getD, List.getElem?_eq_none (by omega)]; simp
theorem thrK_bnd {m : List (List Int)} (hok : tableOk m 99 = true) (k : Nat) (hk : k ≤ 9) : PcsBnd (thrK m k) := by
  refine ⟨by rw [thrK_len]; omega, fun r => ?_⟩
  by_cases hr : r < k
  · rw [thrK_at hr]
    exact pic_bndT (ths_pic _ hok).1
  · rw [getD_out (by rw [thrK_len]; omega)]
    exact picBnd_nil
/-- The inverted numbers. -/
def invL (l : List Int) : List Int := l.map fun z => 99 - z
def invM (m : List (List Int)) : List (List Int) := grl (m.getD 0 []).length m.length (invL m.flatten)
theorem invL_at {l : List Int} {k : Nat} (hk : k < l.length) : (invL l).getD k 0 = 99 - l.getD k 0 := by
  unfold invL
  rw [List.getD_eq_getElem?_getD, List.getElem?_map, List.getD_eq_getElem?_getD, List.getElem?_eq_getElem hk]
  rfl
theorem inv_facts {m : List (List Int)} (hok : tableOk m 99 = true) : tableOk (invM m) 99 = true ∧ (invM m).length = m.length ∧ (∀ r, r < m.length → ((invM m).getD r []).length = (m.getD 0 []).length) ∧ (invM m).flatten = invL m.flatten := by
  obtain ⟨v1, v2, v3, v4, v5, v6⟩ := tableOk_spec hok
  have hfl := flat_len _ m v5
  have hl : (invL m.flatten).length = m.length * (m.getD 0 []).length := by unfold invL; rw [List.length_map, hfl, Nat.mul_comm]
  refine ⟨tableOk_grl v3 v4 v1 v2 fun k hk => ?_, grl_len _ _ _, fun r hr => grl_row hr, grl_flattenT (by omega) hl⟩
  have hk2 : k < m.flatten.length := by rw [hfl, Nat.mul_comm]; exact hk
  rw [invL_at hk2]
  have := flat_le hok hk2
  omega
theorem inv_twice {m : List (List Int)} (hok : tableOk m 99 = true) : invM (invM m) = m := by
  obtain ⟨-, h2, h3, h4⟩ := inv_facts hok
  obtain ⟨v1, v2, v3, v4, v5, v6⟩ := tableOk_spec hok
  show grl ((invM m).getD 0 []).length (invM m).length (invL (invM m).flatten) = m
  rw [h2, h3 0 (by omega), h4]
  have : invL (invL m.flatten) = m.flatten := by
    unfold invL
    rw [List.map_map]
    have : ((fun z : Int => 99 - z) ∘ fun z : Int => 99 - z) = id := by funext z; simp only [Function.comp, id]; omega
    rw [this, List.map_id]
  rw [this]
  exact grl_flat v5
theorem inv_first {m : List (List Int)} (hok : tableOk m 8 = true) : ((invM m).getD 0 []).getD 0 0 ≠ (m.getD 0 []).getD 0 0 := by
  obtain ⟨v1, v2, v3, v4, v5, v6⟩ := tableOk_spec hok
  have hfl := flat_len _ m v5
  have h0 : 0 < m.flatten.length := by rw [hfl]; exact Nat.mul_pos (by omega) (by omega)
  have h1 : ((invM m).getD 0 []).getD 0 0 = (invL m.flatten).getD (0 * (m.getD 0 []).length + 0) 0 := grl_at (by omega) (by omega)
  have h2 := flat_at (m.getD 0 []).length m 0 0 v5 (by omega) (by omega)
  rw [Nat.zero_mul, Nat.zero_add] at h1 h2
  rw [h1, ← h2, invL_at h0]
  have := flat_le hok h0
  omega
end Go.Proofs.YtkpgelhmeokemaaGreatDoor

/- FnThresholds: inverted grey pictures; tables that differ at once. -/
namespace Go.Proofs.YtkpgelhmeokemaaGreatDoor
open Go Go.RowKit
set_option maxRecDepth 5000 in
set_option maxHeartbeats 800000 in
theorem inv1_any (p2 : Nat) (a : Option Addr) (c : Nat) (A : Nat → Option Addr) (C : Nat → Nat) (m : List (List Int)) (z : Int) (x y : Nat) (w : World) (hy : y < m.length) (hx : x < (m.getD y []).length) (hb1 : m.length ≤ 1000) (hb2 : (m.getD y []).length ≤ 1000) (hz : (m.getD y []).getD x 0 = z) (z0 : 0 ≤ z ∧ z ≤ 99)
    (hp : w.cell? ⟨p2, 0, none⟩ = some (.slice a m.length c)) (hm : MatAt w a A C m) :
    Calls Tryz.prog 29 #[.agg #[.int .i64 x, .int .i64 y], .pointer (some ⟨p2, 0, none⟩)] w fun e w' => e = .returned (.int .i64 (99 - z)) ∧ w.Ext w' := by
  obtain ⟨W0, hW0⟩ : ∃ W0, W0 = w.alloc (.cells #[.int .i64 x, .int .i64 y] 63) := ⟨_, rfl⟩
  have hx0 : w.Ext W0 := by rw [hW0]; repeat (first | exact World.Ext.refl _ | exact ⟨_, rfl⟩ | assumption | refine World.Ext.over ?_ _ | refine World.Ext.drewN ?_ _ | refine World.Ext.drew ?_ | refine World.Ext.alloc ?_ _ | refine World.Ext.setCell ?_ (by simp) _)
  have d0 : W0.cell? ⟨w.heap.size, 0, none⟩ = some (.int .i64 x) := by rw [hW0]; simp [go_sem]
  have d1 : W0.cell? ⟨w.heap.size, 1, none⟩ = some (.int .i64 y) := by rw [hW0]; simp [go_sem]
  have HAT : Hid (Calls Tryz.prog 30 #[.pointer (some ⟨p2, 0, none⟩), .agg #[.int .i64 x, .int .i64 y]] W0 fun e w'' => e = .returned (.int .i64 z) ∧ W0.Ext w'') := by
    have h := gAt_any p2 a c A C m x y W0 hy hx (by omega) (by omega) (hx0.cell hp) (hm.ext hx0)
    rw [hz] at h
    exact h
  have HX0 := Lib.hid hx0
  obtain ⟨z0, z1⟩ := z0
  clear hm hp hx0 hz hx hy hb1 hb2
  go_enter Tryz.func29, Tryz.ntmps29
  go_wp2_with fail
  rw [← hW0]
  clear hW0
  refine HAT.out.mono ?_
  rintro e w1 ⟨rfl, hx1⟩
  have HX : Hid (w.Ext w1) := HX0.out.trans hx1
  clear d0 d1 hx1
  go_wp2
  go_ret
  exact ⟨by go_num, HX.out⟩
theorem enters_inv1 : Enters 29 := enters_of Tryz.func29 (by kernel_rfl) (by kernel_rfl)
set_option maxRecDepth 5000 in
set_option maxHeartbeats 1600000 in
theorem implInv_any (a : Option Addr) (c : Nat) (A : Nat → Option Addr) (C : Nat → Nat) (m : List (List Int)) (w : World) (hok : tableOk m 99 = true) (hm : MatAt w a A C m) :
    Calls Tryz.prog 9 #[.agg #[.slice a m.length c]] w (GreyRet2 w (invM m) true) := by
  obtain ⟨v1, v2, v3, v4, v5, v6⟩ := tableOk_spec hok
  obtain ⟨W0, hW0⟩ : ∃ W0, W0 = (w.alloc (.cells #[.slice a m.length c] 26)).alloc (.cells #[.slice none 0 0] 26) := ⟨_, rfl⟩
  have hx0 : w.Ext W0 := by rw [hW0]; repeat (first | exact World.Ext.refl _ | exact ⟨_, rfl⟩ | assumption | refine World.Ext.over ?_ _ | refine World.Ext.drewN ?_ _ | refine World.Ext.drew ?_ | refine World.Ext.alloc ?_ _ | refine World.Ext.setCell ?_ (by simp) _)
  have d0 : W0.cell? ⟨w.heap.size, 0, none⟩ = some (.slice a m.length c) := by rw [hW0]; simp [go_sem]
  have hone : One W0 (w.heap.size + 1) 26 (.slice none 0 0) := by rw [hW0]; exact One.new _ _ _ _ (by simp)
  have HI : Hid (Calls Tryz.prog 12 #[.agg #[.slice a m.length c]] W0 fun e w' => e = .returned (.bool true) ∧ W0.Ext w') :=
    validGrey_any a c A C m W0 (by omega) (fun r => by
      by_cases hr : r < m.length
      · rw [v5 r hr]; omega
      · rw [List.getD_eq_getElem?_getD, List.getElem?_eq_none (by omega)]; simp) (hm.ext hx0) _ hok
  have HX0 := Lib.hid hx0
  have HO := Lib.hid hone
  have HD : Hid (∀ w', W0.Ext w' → w'.cell? ⟨w.heap.size, 0, none⟩ = some (.slice a m.length c)) := fun w' hx => hx.cell d0
  have hl0 : w.heap.size + 1 < W0.heap.size := hone.lt
  have hfl : m.flatten.length = m.length * (m.getD 0 []).length := by rw [flat_len _ m v5, Nat.mul_comm]
  have HRM : Hid (∀ w', W0.Ext w' → Calls Tryz.prog 28 #[.pointer (some ⟨w.heap.size, 0, none⟩), .func (.func 29) #[] #[.pointer (some ⟨w.heap.size, 0, none⟩)]] w' (GreyRet w' (invM m))) := fun w' hx =>
    remadeF_any w.heap.size 0 a c A C m 29 #[.pointer (some ⟨w.heap.size, 0, none⟩)] (flG (m.getD 0 []).length (invL m.flatten)) w' (by omega) (by omega) (by omega) enters_inv1 (hx.cell d0) ((hm.ext hx0).ext hx)
      (fun w'' hx' x y hxW hyH => by
        have hk : y * (m.getD 0 []).length + x < m.flatten.length := by
          rw [hfl]
          have := Nat.mul_le_mul_right (m.getD 0 []).length (show y + 1 ≤ m.length by omega)
          rw [Nat.succ_mul] at this
          omega
        have hv : flG (m.getD 0 []).length (invL m.flatten) x y = 99 - (m.getD y []).getD x 0 := by
          show (invL m.flatten).getD _ 0 = _
          rw [invL_at hk, flat_at (m.getD 0 []).length m y x v5 hyH hxW]
        rw [hv]
        have hvy := v5 y hyH
        exact inv1_any _ a c A C m _ x y w'' hyH (by omega) (by omega) (by omega) rfl (v6 y x hyH (by omega)) ((hx.trans hx').cell d0) (((hm.ext hx0).ext hx).ext hx'))
  clear hm hx0 d0 hone hok hfl v5 v6
  generalize invM m = m2 at *
  go_enter Tryz.func9, Tryz.ntmps9
  go_wp2_with fail
  rw [← hW0]
  clear hW0
  refine HI.out.mono ?_
  rintro e w1 ⟨rfl, hx1⟩
  have d0 := HD.out w1 hx1
  go_wp2_with fail
  refine (HRM.out w1 hx1).mono ?_
  rintro e w2 ⟨a6, c6, A6, C6, rfl, hx2, hm6⟩
  obtain ⟨r1, r2, r3, HR⟩ := Res.storeM (.slice a6 m2.length c6) (HX0.out.trans (hx1.trans hx2)) (by omega) (HO.out.ext (hx1.trans hx2)) (Nat.lt_of_lt_of_le hl0 hx1.size) hm6
  clear hx1 hx2 hm6 d0
  go_wp2
  exact bodyPost_ret (v := .tuple #[.agg #[.slice a6 m2.length c6], .bool true]) (by simp [results, Tryz.results9, go_sem, r3]) rfl ⟨a6, c6, A6, C6, rfl, HR.out.1, HR.out.2⟩
set_option maxHeartbeats 800000 in
theorem b10Nums_first (a b : Option Addr) (c c' : Nat) (xs ys : List Int) (w : World) (hn : xs.length ≤ 1000000) (h0 : 0 < xs.length) (hl : ys.length = xs.length) (hne : xs.getD 0 0 ≠ ys.getD 0 0) (ha : RowI w a xs) (hb : RowI w b ys) :
    Calls Tryz.prog 36 #[.slice a xs.length c, .slice b ys.length c'] w fun e w' => e = .returned (.bool false) ∧ w.Ext w' := by
  rw [hl]
  have HA := Lib.hid ha
  have HB := Lib.hid hb
  have HL := Lib.hid hl
  have HNE : Hid (∀ k, k = 0 → xs.getD k 0 ≠ ys.getD k 0) := fun k hk => by subst hk; exact hne
  clear ha hb hl hne
  have h0' : (0 : Int) < (xs.length : Int) := by omega
  go_enter Tryz.func36, Tryz.ntmps36
  go_wp2
  go_loopw [5] (fun i wr => ∃ k : Nat, k = 0 ∧ i = .int .i64 k ∧ Hid (wr = w)) (fun i _ => 1 - (intOf i).toNat)
  case atStart => exact ⟨0, rfl, rfl, rfl⟩
  case round =>
    obtain ⟨k, hk, rfl, HW⟩ := hrel
    have hlt : k < xs.length := by omega
    have hlt' : (k : Int) < (xs.length : Int) := by omega
    have hk0 : (0 : Int) ≤ (k : Int) := by omega
    obtain ⟨b1, o1, rfl, hc1⟩ := HA.out k hlt
    obtain ⟨b2, o2, rfl, hc2⟩ := HB.out k (by rw [HL.out]; exact hlt)
    have hne := HNE.out k hk
    rw [← HW.out] at hc1 hc2
    clear hk
    generalize xs.getD k 0 = z1 at *
    generalize ys.getD k 0 = z2 at *
    go_wp2_with fail
    refine wp_region_over_lit (by kernel_rfl) (by kernel_rfl) ?_; (repeat (go_big_quiet_step (fail))); refine wpQuiet_nil ?_; rintro _ ⟨x1, rfl⟩
    go_wp2
    go_ret
    exact ⟨rfl, by rw [← HW.out]; exact ⟨x1, rfl⟩⟩
set_option maxHeartbeats 800000 in
theorem b10Tables_first (a b : Option Addr) (c c' : Nat) (A B : Nat → Option Addr) (C D : Nat → Nat) (m m' : List (List Int)) (w : World) (hn : m.length ≤ 1000000) (h0 : 0 < m.length) (hl : m'.length = m.length) (hr : (m.getD 0 []).length ≤ 1000000) (hr0 : 0 < (m.getD 0 []).length) (hl0 : (m'.getD 0 []).length = (m.getD 0 []).length) (hne : (m.getD 0 []).getD 0 0 ≠ (m'.getD 0 []).getD 0 0) (ha : MatAt w a A C m) (hb : MatAt w b B D m') :
    Calls Tryz.prog 13 #[.slice a m.length c, .slice b m'.length c'] w fun e w' => e = .returned (.bool false) ∧ w.Ext w' := by
  rw [hl]
  have HA := Lib.hid ha
  have HB := Lib.hid hb
  have HL := Lib.hid hl
  have HC : Hid (∀ k x, k = 0 → Calls Tryz.prog 36 #[.slice (A k) (m.getD k []).length (C k), .slice (B k) (m'.getD k []).length (D k)] (w.over x) fun e w' => e = .returned (.bool false) ∧ (w.over x).Ext w') := fun k x hk => by
    subst hk
    exact b10Nums_first _ _ _ _ _ _ _ hr hr0 hl0 hne (RowOf.ext (ha 0 h0).2 ⟨_, rfl⟩) (RowOf.ext (hb 0 (by omega)).2 ⟨_, rfl⟩)
  clear ha hb hne hl0 hl
  have h0' : (0 : Int) < (m.length : Int) := by omega
  go_enter Tryz.func13, Tryz.ntmps13
  go_wp2
  go_loopw [5] (fun i wr => ∃ k : Nat, k = 0 ∧ i = .int .i64 k ∧ Hid (wr = w)) (fun i _ => 1 - (intOf i).toNat)
  case atStart => exact ⟨0, rfl, rfl, rfl⟩
  case round =>
    obtain ⟨k, hk, rfl, HW⟩ := hrel
    have hlt : k < m.length := by omega
    have hlt' : (k : Int) < (m.length : Int) := by omega
    have hk0 : (0 : Int) ≤ (k : Int) := by omega
    obtain ⟨⟨b1, o1, rfl, hc1⟩, -⟩ := HA.out k hlt
    obtain ⟨⟨b2, o2, rfl, hc2⟩, -⟩ := HB.out k (by rw [HL.out]; exact hlt)
    have hcc := Lib.hid (fun x => HC.out k x hk)
    rw [← HW.out] at hc1 hc2 hcc
    clear hk
    generalize (m.getD k []).length = z1 at *
    generalize (m'.getD k []).length = z2 at *
    go_wp2_with fail
    refine wp_region_over_lit (by kernel_rfl) (by kernel_rfl) ?_; (repeat (go_big_quiet_step ((go_at_call 36; exact Calls.over_of (hcc.out _))))); refine wpQuiet_nil ?_; rintro _ ⟨x1, rfl⟩
    go_wp2
    go_ret
    exact ⟨rfl, by rw [← HW.out]; exact ⟨x1, rfl⟩⟩
end Go.Proofs.YtkpgelhmeokemaaGreatDoor

/- ThresholdGrey of a grey picture, with the type of the memory that is returned. -/
namespace Go.Proofs.YtkpgelhmeokemaaGreatDoor
open Go Go.RowKit
def PicValT (w : World) (rows : List ByteArray) (e : Ending) (w' : World) : Prop :=
  ∃ a c, e = .returned (.agg #[.slice a rows.length c]) ∧ w.Ext w' ∧ OwnOf Value.string ByteArray.empty w.heap.size w'.heap.size w' a rows ∧ Tag w' a 9
def PicRetT (w : World) (rows : List ByteArray) (e : Ending) (w' : World) : Prop :=
  ∃ a c, e = .returned (.tuple #[.agg #[.slice a rows.length c], .bool true]) ∧ w.Ext w' ∧ OwnOf Value.string ByteArray.empty w.heap.size w'.heap.size w' a rows ∧ Tag w' a 9
set_option maxRecDepth 5000 in
set_option maxHeartbeats 1600000 in
theorem told_tag (b ab W H : Nat) (l : List Bool) (w : World) (hW1 : 1 ≤ W) (hW : W ≤ 64) (hH : H ≤ 64) (hI : Img w b ab W H l) :
    Calls Tryz.prog 19 #[.pointer (some ⟨b, 0, none⟩)] w (PicValT w (picRows W H l)) := by
  obtain ⟨iu, hiu, hu0, hu1, hu2⟩ := info_parts Tryz.infoU8
  obtain ⟨is, his, hs0, hs1, hs2⟩ := info_parts Tryz.infoStr
  obtain ⟨hp4, hp5, hx0⟩ := toldStart w 31
  have HS : Hid (Rowed w w.heap.size (w.heap.size + 1) 31 9 W l 0 _) := ⟨hx0, Nat.le_refl _, by omega, by omega, hp4, _, hp5, GrowOf.nilStart _ _ _⟩
  have hlm : l.length ≤ 4096 := by rw [hI.len]; exact Nat.mul_le_mul hW hH
  have HI := Lib.hid hI
  have h0 := hI.c0
  have h1 := hI.c1
  have hlt := hI.lt
  clear hI hp4 hp5 hx0
  go_enter Tryz.func19, Tryz.ntmps19
  go_wp2
  obtain ⟨p4, hp4⟩ : ∃ p4, p4 = w.heap.size := ⟨_, rfl⟩
  obtain ⟨p5, hp5⟩ : ∃ p5, p5 = w.heap.size + 1 := ⟨_, rfl⟩
  rw [← hp5] at HS ⊢
  rw [← hp4] at HS ⊢
  generalize (w.alloc (.cells #[.slice none 0 0] 31)).alloc (.cells #[.slice none 0 0] 31) = W0 at HS ⊢
  clear hp4 hp5
  go_loopw [4, 5, 6, 12] (fun _ _ _ i wr => ∃ y : Nat, y ≤ H ∧ i = .int .i64 y ∧ Hid (Rowed w p4 p5 31 9 W l y wr)) (fun _ _ _ i _ => H - (intOf i).toNat)
  case atStart => exact ⟨0, Nat.zero_le _, rfl, HS⟩
  case round =>
    obtain ⟨y, hy, rfl, HW⟩ := hrel
    obtain ⟨wo, rfl⟩ : ∃ wo : World, wo = wr := ⟨_, rfl⟩
    by_cases hlty : y < H
    · have hrow := rowAt_len W H l y HI.out.len hlty
      have hFW : y * W + W ≤ l.length := by
        rw [HI.out.len]
        have := Nat.mul_le_mul_right W hlty
        rw [Nat.succ_mul] at this
        rw [Nat.mul_comm W H]; exact this
      have hg0 := GrowOf.empty (f := Value.int .u8) (lo := wo.heap.size) (e := 5) wo (Nat.le_refl _)
      have hx0 : wo.Ext (wo.alloc (.cells #[] 5)) := by repeat (first | exact World.Ext.refl _ | exact ⟨_, rfl⟩ | assumption | refine World.Ext.over ?_ _ | refine World.Ext.drewN ?_ _ | refine World.Ext.drew ?_ | refine World.Ext.alloc ?_ _ | refine World.Ext.setCell ?_ (by simp) _)
      have hc0 := (HW.out.ext.trans hx0).cell h0
      have HG0 := Lib.hid hg0
      have HX0 := Lib.hid hx0
      have hy0 : (0 : Int) ≤ (y : Int) := by omega
      clear hg0 hx0
      go_wp2
      clear hc0
      go_loopw [5, 6, 20] (fun v _ i w2 => ∃ x : Nat, x ≤ W ∧ i = .int .i64 x ∧ Hid (wo.Ext w2) ∧ Hid (GrowOf (Value.int .u8) wo.heap.size 5 w2 v (((l.drop (y * W)).take x).map byteOf))) (fun _ _ i _ => W - (intOf i).toNat)
      case atStart => exact ⟨0, Nat.zero_le _, rfl, HX0, HG0⟩
      case round =>
        obtain ⟨x, hx, rfl, HX, HG⟩ := hrel
        by_cases hltx : x < W
        · have hlen : (((l.drop (y * W)).take x).map byteOf).length = x := by simp; omega
          have hown := HG.out
          have hbyte := row_bytes l (y * W) x (by omega)
          have hltx' : (x : Int) < (W : Int) := by omega
          have HLEN := Lib.hid hlen
          unfold GrowOf at hown
          rw [hlen] at hown
          have hlx : x + 1 ≤ maxLen := by unfold maxLen; omega
          have hlb : (x + 1) * 1 ≤ 140737488355328 := by omega
          have HLX := Lib.hid hlx
          have HLB := Lib.hid hlb
          have hle : ∀ (wz : World) (o : Obj), wr.Ext wz → wo.heap.size ≤ (wz.alloc o).heap.size := fun wz o hz => ((HX.out.trans hz).alloc o).size
          have hnext : ∀ (wz : World) (o : Obj) (v' : Value) (w1 : World), wr.Ext wz → (wz.alloc o).grownBy w1 u5.ownBlock → w1.ownsRow wo.heap.size 5 1 v' (x + 1) ((((l.drop (y * W)).take x).map byteOf).map (Value.int .u8) ++ [Value.int .u8 (byteOf (l.getD (y * W + x) false))]) →
              wo.Ext w1 ∧ GrowOf (Value.int .u8) wo.heap.size 5 w1 v' (((l.drop (y * W)).take (x + 1)).map byteOf) := fun wz o v' w1 hz hgrow hown' => by
            refine ⟨(HG.out.ext hz).pushExt (HX.out.trans hz) hgrow, ?_⟩
            rw [← hbyte]
            exact GrowOf.push (by rw [hlen]; exact hown')
          have HNEXT := Lib.hid hnext
          have HLE := Lib.hid hle
          have HOWN : Hid (∀ wz : World, wr.Ext wz → wz.ownsRow wo.heap.size 5 1 u5 x ((((l.drop (y * W)).take x).map byteOf).map (Value.int .u8))) := fun wz hz => by
            have := HG.out.ext hz
            unfold GrowOf at this
            rwa [hlen] at this
          have HIM := Lib.hid ((HI.out.ext HW.out.ext).ext HX.out)
          clear hlx hlb hlen hbyte hnext hle hown
          cases hv : l.getD (y * W + x) false
          · have HP : Hid (pxl W H l (x : Int) (y : Int) = false) := by show _ = _; rw [pxl_at W H l x y hltx hlty]; exact hv
            rw [hv] at HNEXT
            clear hv
            go_wp2_with fail
            refine (get_any b ab W H l x y _ hW hH HIM.out _ HP.out).mono ?_
            rintro e w5 ⟨rfl, hz⟩
            have hown := HOWN.out w5 hz
            have HZ := Lib.hid hz
            clear hz
            go_wp2_with ((at_builtin; refine wpList_append_own _ rfl _ _ 22 rfl wo.heap.size 5 iu (.int .u8 0) 1 1 Tryz.underlying22 hiu hu0 hu1 hu2 rfl (by decide) _ _ _ rfl (hown.alloc _) ⟨w5.heap.size, 0, none⟩ 1 1 [.int .u8 46] rfl rfl (cell_one_new _ _ _) (by simp [Value.oneCell']) HLX.out HLB.out (HLE.out w5 _ HZ.out) (fun v' w1 hown' hgrow _ => ?_)); obtain ⟨hx1, hg1⟩ := HNEXT.out w5 _ _ _ HZ.out hgrow hown'; have HX1 := Lib.hid hx1; have HG1 := Lib.hid hg1; clear hx1 hg1 hgrow hown' hown)
            go_roundw
            case rel => exact ⟨x + 1, by omega, by go_num, HX1, HG1⟩
            case measure => simp [intOf]; omega
          · have HP : Hid (pxl W H l (x : Int) (y : Int) = true) := by show _ = _; rw [pxl_at W H l x y hltx hlty]; exact hv
            rw [hv] at HNEXT
            clear hv
            go_wp2_with fail
            refine (get_any b ab W H l x y _ hW hH HIM.out _ HP.out).mono ?_
            rintro e w5 ⟨rfl, hz⟩
            have hown := HOWN.out w5 hz
            have HZ := Lib.hid hz
            clear hz
            go_wp2_with ((at_builtin; refine wpList_append_own _ rfl _ _ 22 rfl wo.heap.size 5 iu (.int .u8 0) 1 1 Tryz.underlying22 hiu hu0 hu1 hu2 rfl (by decide) _ _ _ rfl (hown.alloc _) ⟨w5.heap.size, 0, none⟩ 1 1 [.int .u8 35] rfl rfl (cell_one_new _ _ _) (by simp [Value.oneCell']) HLX.out HLB.out (HLE.out w5 _ HZ.out) (fun v' w1 hown' hgrow _ => ?_)); obtain ⟨hx1, hg1⟩ := HNEXT.out w5 _ _ _ HZ.out hgrow hown'; have HX1 := Lib.hid hx1; have HG1 := Lib.hid hg1; clear hx1 hg1 hgrow hown' hown)
            go_roundw
            case rel => exact ⟨x + 1, by omega, by go_num, HX1, HG1⟩
            case measure => simp [intOf]; omega
        · have : x = W := by omega
          subst this
          have hbl : (((l.drop (y * x)).take x).map byteOf).length = x := by simp; omega
          obtain ⟨g, cap, rfl, hg1, hg2, hcell⟩ := HG.out.some (by omega)
          rw [hbl] at hcell ⊢
          have hcv := run_convert_bytes_arg (P := Tryz.prog) wr 22 5 Tryz.underlying22 Tryz.underlying5 g 0 x cap (((l.drop (y * x)).take x).map byteOf) hbl
            (by intro i hi; rw [Nat.zero_add]; exact hcell 0 i hi) 9 Tryz.underlying9
          have hstr : strOfNums (((l.drop (y * x)).take x).map byteOf) = rowStr (rowAt x l y) := rfl
          rw [hstr] at hcv
          have hM := HW.out.move HX.out
          obtain ⟨v, hv, hgv⟩ := hM.str
          have hown := hgv
          unfold GrowOf at hown
          rw [picRows_len] at hown
          have hy1 : y + 1 ≤ maxLen := by unfold maxLen; omega
          have hy2 : (y + 1) * 16 ≤ 140737488355328 := by omega
          have hnext : ∀ (o : Obj) (v' : Value) (w1 : World), (wr.alloc o).grownBy w1 v.ownBlock → w1.ownsRow w.heap.size 9 1 v' (y + 1) ((picRows x y l).map Value.string ++ [Value.string (rowStr (rowAt x l y))]) →
              (∃ a1 c1, v' = .slice a1 (y + 1) c1) ∧ (w1.cell? ⟨p5, 0, none⟩ = some v ∧ w1.frozen? ⟨p5, 0, none⟩ = false) ∧ Rowed w p4 p5 31 9 x l (y + 1) (w1.setCell ⟨p5, 0, none⟩ v') := fun o v' w1 hgrow hown' => by
            have h5 := (hv.ext ((World.Ext.refl _).alloc o)).grown hgrow (hgv.ne hv (by decide))
            have hfm : ∃ a1 c1, v' = .slice a1 (y + 1) c1 := by
              obtain ⟨a1, c1, h1, _⟩ := GrowOf.form (f := Value.string) (xs := picRows x y l ++ [rowStr (rowAt x l y)]) (GrowOf.push (by rw [picRows_len]; exact hown'))
              exact ⟨a1, c1, by rw [h1]; simp [picRows_len]⟩
            exact ⟨hfm, ⟨h5.cell, h5.free⟩, hM.next (by decide) hv hgv hgrow (by rw [picRows_len]; exact hown')⟩
          have hle : ∀ o : Obj, w.heap.size ≤ (wr.alloc o).heap.size := fun o => (hM.ext.alloc o).size
          have hc5 := hv.cell
          have HNEXT := Lib.hid hnext
          have HLE := Lib.hid hle
          have HY1 := Lib.hid hy1
          have HY2 := Lib.hid hy2
          clear hnext hle hy1 hy2 hM hv hgv hcell hbl hg1 hg2 hrow
          generalize rowStr (rowAt x l y) = st at *
          go_wp2_with ((at_builtin; refine wpList_append_own _ rfl _ _ 29 rfl w.heap.size 9 is (.string ByteArray.empty) 1 16 Tryz.underlying29 his hs0 hs1 hs2 rfl (by decide) _ _ _ rfl (hown.alloc _) ⟨wr.heap.size, 0, none⟩ 1 1 [.string st] rfl rfl (cell_one_new _ _ _) (by simp [Value.oneCell']) HY1.out HY2.out (HLE.out _) (fun v' w1 hown' hgrow _ => ?_)); obtain ⟨⟨a1, c1, rfl⟩, ⟨hc6, hf6⟩, hR⟩ := HNEXT.out _ _ _ hgrow hown'; have HRN := Lib.hid hR; clear hR hown' hgrow hc5)
          go_roundw
          case rel => exact ⟨y + 1, by omega, by go_num, HRN⟩
          case measure => simp [intOf]; omega
    · have : y = H := by omega
      subst this
      obtain ⟨v, hv, hgv⟩ := HW.out.str
      obtain ⟨a', c', rfl, _⟩ := hgv.form
      rw [picRows_len] at *
      have hc5 := hv.cell
      have hc4 := HW.out.res.cell
      have hf4 := HW.out.res.free
      have hres := HW.out.res
      have hx4 := HW.out.ext.setCell (p := ⟨p4, 0, none⟩) HW.out.le4 (.slice a' y c')
      have ho4 := (hgv.setCell (a := ⟨p4, 0, none⟩) (hgv.ne hres (by decide)) (.slice a' y c')).own ByteArray.empty
      have ht4 := (hgv.setCell (a := ⟨p4, 0, none⟩) (hgv.ne hres (by decide)) (.slice a' y c')).tag
      have hr4 := (hres.set (.slice a' y c')).cell
      have HT4 := Lib.hid ht4
      have HX4 := Lib.hid hx4
      have HO4 := Lib.hid ho4
      clear hx4 ho4 ht4 hv hgv hres
      go_wp2
      exact bodyPost_ret (v := .agg #[.slice a' y c']) (by simp [results, Tryz.results19, go_sem, hr4]) rfl ⟨a', c', by rw [picRows_len], HX4.out, HO4.out, HT4.out⟩
set_option maxRecDepth 5000 in
set_option maxHeartbeats 800000 in
theorem implThr_tag (a : Option Addr) (c : Nat) (A : Nat → Option Addr) (C : Nat → Nat) (m : List (List Int)) (level : Int) (w : World) (hok : tableOk m 99 = true) (hl : inB level 0 100 = true) (hm : MatAt w a A C m) :
    Calls Tryz.prog 6 #[.agg #[.slice a m.length c], .int .i64 level] w (PicRetT w (thrRows m level)) := by
  obtain ⟨q1, q2, q3, q4, q5, _⟩ := tableOk_spec hok
  have HM := Lib.hid hm
  have HR : Hid (∀ r, (m.getD r []).length ≤ 1048576) := fun r => by
    by_cases hr : r < m.length
    · rw [q5 r hr]; omega
    · rw [List.getD_eq_getElem?_getD, List.getElem?_eq_none (by omega)]; simp
  have HN : Hid (m.length ≤ 1048576) := by show _ ≤ _; omega
  have HOK := Lib.hid hok
  have HL := Lib.hid hl
  have HW1 : Hid (1 ≤ (m.getD 0 []).length) := q3
  have HW2 : Hid ((m.getD 0 []).length ≤ 64) := by show _ ≤ _; omega
  have HH2 : Hid (m.length ≤ 64) := by show _ ≤ _; omega
  have HH1 : Hid (0 < m.length) := q1
  clear hm hok hl q1 q2 q3 q4 q5
  go_enter Tryz.func6, Tryz.ntmps6
  go_wp2_with fail
  refine (validGrey_any a c A C m _ HN.out HR.out (HM.out.ext (by repeat (first | exact World.Ext.refl _ | exact ⟨_, rfl⟩ | assumption | refine World.Ext.over ?_ _ | refine World.Ext.drewN ?_ _ | refine World.Ext.drew ?_ | refine World.Ext.alloc ?_ _ | refine World.Ext.setCell ?_ (by simp) _))) _ HOK.out).mono ?_
  rintro e w' ⟨rfl, x1, rfl⟩
  go_wp2_with fail
  refine (in_any _ _ _ _ _ HL.out).mono ?_
  rintro e w' ⟨rfl, x2, rfl⟩
  go_wp2_with fail
  refine (threshold_any w.heap.size a c A C m level _ HOK.out (by simp [go_sem]) (HM.out.ext (by repeat (first | exact World.Ext.refl _ | exact ⟨_, rfl⟩ | assumption | refine World.Ext.over ?_ _ | refine World.Ext.drewN ?_ _ | refine World.Ext.drew ?_ | refine World.Ext.alloc ?_ _ | refine World.Ext.setCell ?_ (by simp) _)))).mono ?_
  rintro e w3 ⟨b, ab, rfl, hx3, hI, _, _⟩
  have hx0 : w.Ext ((((w.alloc (.cells #[.slice a m.length c] 26)).alloc (.cells #[.slice none 0 0] 31)).over x1).over x2) := by repeat (first | exact World.Ext.refl _ | exact ⟨_, rfl⟩ | assumption | refine World.Ext.over ?_ _ | refine World.Ext.drewN ?_ _ | refine World.Ext.drew ?_ | refine World.Ext.alloc ?_ _ | refine World.Ext.setCell ?_ (by simp) _)
  have hres := (((One.new (w.alloc (.cells #[.slice a m.length c] 26)) (.slice none 0 0) 31 (w.heap.size + 1) (by simp)).ext ⟨x1, rfl⟩).ext ⟨x2, rfl⟩).ext hx3
  have hx30 := hx0.trans hx3
  have HX3 := Lib.hid hx30
  have HRES := Lib.hid hres
  have HIM := Lib.hid hI
  clear hx3 hI hx30 hx0
  have hlt : w.heap.size + 1 < w3.heap.size := hres.lt
  go_wp2_with fail
  refine (told_tag b ab (m.getD 0 []).length m.length (thrL level m.flatten) _ HW1.out HW2.out HH2.out HIM.out).mono ?_
  rintro e w4 ⟨a4, c4, rfl, hx4, ho4, ht4⟩
  rw [picRows_len]
  have hr4 := HRES.out.ext hx4
  have hc4 := hr4.cell
  have hf4 := hr4.free
  have hx5 := (HX3.out.trans hx4).setCell (p := ⟨w.heap.size + 1, 0, none⟩) (by simp) (.slice a4 m.length c4)
  have ho5 := (ho4.wrote (S := fun b => b = w.heap.size + 1) (Wrote.setCell (S := fun b => b = w.heap.size + 1) (Wrote.refl _ w4) (p := ⟨w.heap.size + 1, 0, none⟩) rfl (.slice a4 m.length c4)) (fun k h1 h2 => by omega)).mono (lo' := w.heap.size) (hi' := (w4.setCell ⟨w.heap.size + 1, 0, none⟩ (.slice a4 m.length c4)).heap.size) (HX3.out.size) (by simp)
  have ht5 : Tag (w4.setCell ⟨w.heap.size + 1, 0, none⟩ (.slice a4 m.length c4)) a4 9 := ht4.keep fun b o s e => by
    obtain ⟨b', o', e1, e2, -⟩ := ho4 0 (by rw [picRows_len]; exact HH1.out)
    rw [e] at e1
    simp only [Option.some.injEq, Addr.mk.injEq] at e1
    exact Below.heap_setCell w4 ⟨w.heap.size + 1, 0, none⟩ _ b (by simp only; omega)
  have HT5 := Lib.hid ht5
  have hr5 := (hr4.set (.slice a4 m.length c4)).cell
  have HX5 := Lib.hid hx5
  have HO5 := Lib.hid ho5
  clear hx5 ho5 ht5 ht4 hx4 ho4 hres hlt hr4
  go_wp2
  exact bodyPost_ret (v := .tuple #[.agg #[.slice a4 m.length c4], .bool true]) (by simp [results, Tryz.results6, go_sem, hr5]) rfl ⟨a4, c4, by rw [show (thrRows m level).length = m.length from picRows_len _ _ _], HX5.out, HO5.out, HT5.out⟩
end Go.Proofs.YtkpgelhmeokemaaGreatDoor

/- FnThresholds: the list of thresholds grows. -/
namespace Go.Proofs.YtkpgelhmeokemaaGreatDoor
open Go Go.RowKit
/-- Pictures gathered in a list of the call's own. -/
structure LvSt (w0 : World) (m : List (List ByteArray)) (v : Value) (wr : World) : Prop where
  x : w0.Ext wr
  st : ∃ (A : Nat → Option Addr) (C : Nat → Nat), GrowOf (fun r : Nat => Value.slice (A r) (m.getD r []).length (C r)) w0.heap.size 31 wr v (List.range m.length) ∧ ∀ r, r < m.length → RowS wr (A r) (m.getD r []) ∧ Tag wr (A r) 9
theorem LvSt.ext {w0 wr w' : World} {m : List (List ByteArray)} {v : Value} (h : LvSt w0 m v wr) (hx : wr.Ext w') : LvSt w0 m v w' := by
  obtain ⟨A, C, h1, h2⟩ := h.st
  exact ⟨h.x.trans hx, A, C, h1.ext hx, fun r hr => ⟨RowOf.ext (h2 r hr).1 hx, (h2 r hr).2.ext hx⟩⟩
theorem LvSt.start {w0 w1 : World} (hx : w0.Ext w1) : LvSt w0 [] (.slice (some ⟨w1.heap.size, 0, none⟩) 0 0) (w1.alloc (.cells #[] 31)) :=
  ⟨hx.alloc _, fun _ => none, fun _ => 0, GrowOf.empty w1 hx.size, fun r hr => by cases hr⟩
theorem LvSt.next {w0 w1 w3 : World} {m : List (List ByteArray)} {v : Value} (h : LvSt w0 m v w1) (hx : w1.Ext w3) {a : Option Addr} {c : Nat} {row : List ByteArray} (hr : RowS w3 a row) (ht : Tag w3 a 9) :
    ∃ pre, w3.ownsRow w0.heap.size 31 1 v m.length pre ∧ ∀ (o : Obj) (v' : Value) (w4 : World), (w3.alloc o).grownBy w4 v.ownBlock → w4.ownsRow w0.heap.size 31 1 v' (m.length + 1) (pre ++ [.slice a row.length c]) → LvSt w0 (m ++ [row]) v' w4 := by
  obtain ⟨A, C, h1, h2⟩ := h.st
  have h3 := h1.ext hx
  refine ⟨(List.range m.length).map fun r => Value.slice (A r) (m.getD r []).length (C r), by have := h3; unfold GrowOf at this; rwa [List.length_range] at this, fun o v' w4 hgrow hown => ?_⟩
  have getl : ∀ r, r < m.length → (m ++ [row]).getD r [] = m.getD r [] := fun r hr => by
    rw [List.getD_eq_getElem?_getD, List.getElem?_append_left hr, ← List.getD_eq_getElem?_getD]
  have getr : (m ++ [row]).getD m.length [] = row := by
    rw [List.getD_eq_getElem?_getD, List.getElem?_append_right (Nat.le_refl _), Nat.sub_self]
    rfl
  refine ⟨h3.pushExt (h.x.trans hx) hgrow, fun r => if r = m.length then a else A r, fun r => if r = m.length then c else C r, ?_, fun r hr' => ?_⟩
  · unfold GrowOf
    rw [List.length_range, List.length_append]
    have e : (List.range (m.length + [row].length)).map (fun r : Nat => Value.slice (if r = m.length then a else A r) ((m ++ [row]).getD r []).length (if r = m.length then c else C r)) = (List.range m.length).map (fun r => Value.slice (A r) (m.getD r []).length (C r)) ++ [.slice a row.length c] := by
      rw [List.length_singleton, List.range_succ, List.map_append, List.map_singleton, if_pos rfl, if_pos rfl, getr]
      congr 1
      refine List.map_congr_left fun r hr => ?_
      have hlt := List.mem_range.1 hr
      rw [if_neg (by omega), if_neg (by omega), getl r hlt]
    rw [e]
    exact hown
  · rw [List.length_append, List.length_singleton] at hr'
    by_cases e : r = m.length
    · subst e
      dsimp only
      rw [if_pos rfl, getr]
      exact row_grown hr ht h3 (by decide) hgrow
    · dsimp only
      rw [if_neg e, getl r (by omega)]
      exact row_grown (RowOf.ext (h2 r (by omega)).1 hx) ((h2 r (by omega)).2.ext hx) h3 (by decide) hgrow
theorem LvSt.form {w0 wr : World} {m : List (List ByteArray)} {v : Value} (h : LvSt w0 m v wr) : ∃ a A C c, v = .slice a m.length c ∧ PcsAt wr a A C m := by
  obtain ⟨A, C, h1, h2⟩ := h.st
  obtain ⟨a, c, rfl, _⟩ := h1.form
  refine ⟨a, A, C, c, by rw [List.length_range], fun r hr => ⟨?_, (h2 r hr).1⟩⟩
  obtain ⟨b, o, e1, _, _, e2, _⟩ := (h1.own 0) r (by rw [List.length_range]; exact hr)
  refine ⟨b, o, e1, ?_⟩
  rw [e2]
  simp [List.getD_eq_getElem?_getD, hr]
end Go.Proofs.YtkpgelhmeokemaaGreatDoor

/- FnThresholds: thresholds are nested and their stack is the picture; inverting twice gives the picture back, once not; the text of a grey picture reads back. -/
namespace Go.Proofs.YtkpgelhmeokemaaGreatDoor
open Go Go.RowKit
theorem ths_bnd {m : List (List Int)} {N : Int} (hok : tableOk m N = true) : MatBnd m := by
  obtain ⟨v1, v2, v3, v4, v5, v6⟩ := tableOk_spec hok
  refine ⟨by omega, fun r => ?_⟩
  by_cases hr : r < m.length
  · rw [v5 r hr]; omega
  · rw [List.getD_eq_getElem?_getD, List.getElem?_eq_none (by omega)]; simp
theorem greyT_small {m : List (List Int)} (ht : tableOk m 99 = true) : (greyT m).length ≤ 1048576 := by
  have hl := (tableOk_spec ht).2.1
  have hrl : ∀ k, ((m.map rowT).getD k []).length ≤ 48 := fun k => by
    by_cases hk : k < m.length
    · rw [getD_map rowT m k [] [] hk]
      have h2 := (few_of ht k hk).1
      unfold rowT
      have h3 := jn_take_le 44 ((m.getD k []).map Lib.itoa) 2 (itoa_few h2) (m.getD k []).length
      rw [List.take_of_length_le (by simp)] at h3
      have := h2.1
      omega
    · rw [List.getD_eq_getElem?_getD, List.getElem?_eq_none (by simp; omega)]
      simp
  have h3 := jn_take_le 47 (m.map rowT) 48 hrl m.length
  rw [List.take_of_length_le (by simp)] at h3
  unfold greyT
  omega
theorem gtxT_size {m : List (List Int)} (ht : tableOk m 99 = true) : (gtxT m).size ≤ 1048576 := by
  unfold gtxT
  rw [ht, if_pos rfl]
  exact greyT_small ht
set_option maxRecDepth 5000 in
set_option maxHeartbeats 6400000 in
theorem fnThresholds_any (a : Option Addr) (c : Nat) (zs : List Int) (a2 : Option Addr) (c2 : Nat) (ys : List Int) (w : World) (hd : DoorW w) (h : CodeAt w a zs) (h2 : CodeAt w a2 ys) :
    Calls Tryz.prog 3 #[.slice a zs.length c, .slice a2 ys.length c2] w fun e w' => e = .returned (.bool true) ∧ w.Ext w' := by
  obtain ⟨j0, hj, hz0, hz1, hz2⟩ := info_parts Tryz.infoPicS
  have HLO := Lib.hid (long_any a zs.length c a2 ys.length c2 w h.2.2 h2.2.2)
  have HGR := Lib.hid (fun w' (hx : w.Ext w') => b10Grey_any a c zs w' (h.ext hx))
  have HDW := Lib.hid hd
  clear h h2 hd
  go_enter Tryz.func3, Tryz.ntmps3
  have HWB : Hid (w.Ext w) := .refl _
  have HX : Hid (w.Ext w) := .refl _
  go_wp2_with fail
  refine (HLO.out).mono ?_
  rintro e v1 ⟨t, rfl, hx, -⟩
  have HX_ := Lib.hid (HX.out.trans hx)
  clear HX
  have HX := HX_
  clear HX_
  clear hx
  cases t
  rotate_left
  · go_wp2
    go_ret
    exact ⟨rfl, HX.out⟩
  go_wp2_with fail
  refine (HGR.out v1 (HWB.out.trans HX.out)).mono ?_
  rintro e v2 ⟨ga, gc, GA, GC, m, rfl, hgt, hx, hrow⟩
  have HX_ := Lib.hid (HX.out.trans hx)
  clear HX
  have HX := HX_
  clear HX_
  have HGT := Lib.hid hgt
  have HROW := Lib.hid hrow.mat
  clear hgt hrow
  clear hx
  obtain ⟨b2, hb2⟩ : ∃ b2, b2 = v2.alloc (.cells #[.slice ga m.length gc] 26) := ⟨_, rfl⟩
  have hxb : v2.Ext b2 := by rw [hb2]; repeat (first | exact World.Ext.refl _ | exact ⟨_, rfl⟩ | assumption | refine World.Ext.over ?_ _ | refine World.Ext.drewN ?_ _ | refine World.Ext.drew ?_ | refine World.Ext.alloc ?_ _ | refine World.Ext.setCell ?_ (by simp) _)
  have c5_ : b2.cell? ⟨v2.heap.size, 0, none⟩ = some (.slice ga m.length gc) := by rw [hb2]; simp [go_sem]
  have HALL_ : Hid (∀ w', b2.Ext w' → w'.cell? ⟨v2.heap.size, 0, none⟩ = some (.slice ga m.length gc) ∧ MatAt w' ga GA GC m ∧ True) := fun w' hx' => ⟨hx'.cell c5_, HROW.out.ext (hxb.trans hx'), trivial⟩
  have HWB_ := Lib.hid (HWB.out.trans (HX.out.trans hxb))
  have HX_ : Hid (b2.Ext b2) := .refl _
  clear hxb c5_ HWB HX
  have HALL := HALL_
  have HWB := HWB_
  have HX := HX_
  clear HALL_ HWB_ HX_
  have hok8 : tableOk m 8 = true := HGT.out.1
  have hok : tableOk m 99 = true := tableOk_more hok8 (by omega)
  obtain ⟨v1, v2, v3, v4, v5, v6⟩ := tableOk_spec hok
  have HTH : Hid (∀ (w' : World) (k : Nat) (L : Int), L = ((k + 1 : Nat) : Int) → k < 9 → MatAt w' ga GA GC m → Calls Tryz.prog 6 #[.agg #[.slice ga m.length gc], .int .i64 L] w' (PicRetT w' (thrRows m ((k + 1 : Nat) : Int)))) := fun w' k L hL hk h1 => by
    subst hL
    exact implThr_tag ga gc GA GC m _ w' hok (inB_true.2 (by omega)) h1
  have HTL : Hid (∀ k : Int, (thrRows m k).length = m.length) := fun k => picRows_len _ _ _
  have HIN : Hid (∀ (w' : World) (x y : Option Addr) (cx cy j : Nat), RowS w' x (thrRows m ((j + 1 + 1 : Nat) : Int)) → RowS w' y (thrRows m ((j + 1 : Nat) : Int)) → Calls Tryz.prog 7 #[.agg #[.slice x m.length cx], .agg #[.slice y m.length cy]] w' fun e w'' => e = .returned (.bool true) ∧ w'.Ext w'') := fun w' x y cx cy j h1 h2 => by
    have h := implInside_any x cx (thrRows m ((j + 1 + 1 : Nat) : Int)) y cy (thrRows m ((j + 1 : Nat) : Int)) w' (pic_bndT (ths_pic _ hok).1) (pic_bndT (ths_pic _ hok).1) h1 h2
    rw [ths_in _ _ hok (by omega), HTL.out, HTL.out] at h
    exact h
  have HST : Hid (∀ (w' : World) (x : Option Addr) (cx : Nat) (X : Nat → Option Addr) (Y : Nat → Nat), PcsAt w' x X Y (thrK m 9) → Calls Tryz.prog 8 #[.slice x 9 cx] w' (GreyRet2 w' m true)) := fun w' x cx X Y h1 => by
    have h := implStk_any x cx X Y (thrK m 9) w' (thrK_bnd hok 9 (Nat.le_refl _)) h1
    rw [(ths_stk hok8).1, (ths_stk hok8).2, thrK_len] at h
    exact h
  have HIV : Hid (∀ (w' : World), MatAt w' ga GA GC m → Calls Tryz.prog 9 #[.agg #[.slice ga m.length gc]] w' (GreyRet2 w' (invM m) true)) := fun w' h1 => implInv_any ga gc GA GC m w' hok h1
  have HIL : Hid ((invM m).length = m.length) := (inv_facts hok).2.1
  have HIV2 : Hid (∀ (w' : World) (x : Option Addr) (cx : Nat) (X : Nat → Option Addr) (Y : Nat → Nat), MatAt w' x X Y (invM m) → Calls Tryz.prog 9 #[.agg #[.slice x m.length cx]] w' (GreyRet2 w' m true)) := fun w' x cx X Y h1 => by
    have h := implInv_any x cx X Y (invM m) w' (inv_facts hok).1 h1
    rw [inv_twice hok, HIL.out] at h
    exact h
  have HTX : Hid (∀ (w' : World), MatAt w' ga GA GC m → Calls Tryz.prog 10 #[.agg #[.slice ga m.length gc]] w' fun e w'' => e = .returned (.tuple #[.string (gtxT m), .bool true]) ∧ w'.Ext w'') := fun w' h1 => by
    have h := implGtx_any ga gc GA GC m w' (ths_bnd hok) h1
    rw [hok] at h
    exact h
  have HRD : Hid (∀ (w' : World), w.Ext w' → Calls Tryz.prog 11 #[.string (gtxT m)] w' (GreyRet2 w' m true)) := fun w' hx => by
    have e : gtxT m = bstr (greyT m) := by unfold gtxT; rw [hok, if_pos rfl]
    have h := implRdg_any (gtxT m) w' (HDW.out.ext hx) (gtxT_size hok)
    rw [e, show (bstr (greyT m)).data.toList = greyT m from rfl, (grey_back hok).1, (grey_back hok).2] at h
    rw [e]
    exact h
  have HVG : Hid (∀ (w' : World), MatAt w' ga GA GC m → Calls Tryz.prog 12 #[.agg #[.slice ga m.length gc]] w' fun e w'' => e = .returned (.bool true) ∧ w'.Ext w'') := fun w' h1 => validGrey_any ga gc GA GC m w' (ths_bnd hok).1 (ths_bnd hok).2 h1 _ hok
  have HBT : Hid (∀ (w' : World) (x : Option Addr) (cx : Nat) (X : Nat → Option Addr) (Y : Nat → Nat), MatAt w' x X Y m → MatAt w' ga GA GC m → Calls Tryz.prog 13 #[.slice x m.length cx, .slice ga m.length gc] w' fun e w'' => e = .returned (.bool true) ∧ w'.Ext w'') := fun w' x cx X Y h1 h2 =>
    b10Tables_true x ga cx gc X GA Y GC m w' (by omega) (by omega) (fun k => by
      by_cases hk : k < m.length
      · rw [v5 k hk]; omega
      · rw [List.getD_eq_getElem?_getD, List.getElem?_eq_none (by omega)]; simp) h1 h2
  have HBF : Hid (∀ (w' : World) (x : Option Addr) (cx : Nat) (X : Nat → Option Addr) (Y : Nat → Nat), MatAt w' x X Y (invM m) → MatAt w' ga GA GC m → Calls Tryz.prog 13 #[.slice x m.length cx, .slice ga m.length gc] w' fun e w'' => e = .returned (.bool false) ∧ w'.Ext w'') := fun w' x cx X Y h1 h2 => by
    have h3 := (inv_facts hok).2.2.1 0 (by omega)
    have h := b10Tables_first x ga cx gc X GA Y GC (invM m) m w' (by rw [HIL.out]; omega) (by rw [HIL.out]; omega) HIL.out.symm (by rw [h3]; omega) (by rw [h3]; omega) h3.symm (inv_first hok8) h1 h2
    rw [HIL.out] at h
    exact h
  have hmp : 0 < m.length := by omega
  have hml : m.length ≤ 16 := v2
  clear v1 v2 v3 v4 v5 v6 hok hok8
  go_upto_region 4 with fail
  rw [← hb2]
  clear hb2
  generalize v2.heap.size = q5 at *
  have HLV0 : Hid (LvSt b2 (thrK m 0) (.slice (some ⟨b2.heap.size, 0, none⟩) 0 0) (b2.alloc (.cells #[] 31))) := LvSt.start (.refl _)
  go_wp2
  go_loopw [6, 7, 8, 9] (fun v i _ _ wr => ∃ (k : Nat) (L : Int), k ≤ 9 ∧ L = ((k + 1 : Nat) : Int) ∧ i = .int .i64 L ∧ Hid (LvSt b2 (thrK m k) v wr)) (fun _ i _ _ _ => 10 - (intOf i).toNat)
  case atStart => exact ⟨0, 1, by omega, rfl, rfl, HLV0⟩
  case round =>
    clear HX HLV0
    obtain ⟨k, L, hk, hL, rfl, HLV⟩ := hrel
    have HX : Hid (b2.Ext wr) := HLV.out.x
    obtain ⟨wa, rfl⟩ : ∃ wa : World, wa = wr := ⟨_, rfl⟩
    by_cases hlt : k < 9
    · have hlt' : L ≤ 9 := by omega
      have hL0 : 1 ≤ L := by omega
      have HLK := Lib.hid hL
      clear hL
      have c5 := (HALL.out wa HX.out).1
      have lc5 := World.block_lt_of_cell? _ _ c5
      go_wp2_with fail
      refine (HTH.out wa k L HLK.out hlt (HALL.out wa HX.out).2.1).mono ?_
      rintro e v3 ⟨a8, c8, rfl, hx, ho, ht⟩
      clear lc5 c5
      have HX_ := Lib.hid (HX.out.trans hx)
      clear HX
      have HX := HX_
      clear HX_
      have HXA := Lib.hid hx
      have HO8 := Lib.hid ho.row
      have HT8 := Lib.hid ht
      clear ho ht
      clear hx
      rw [HTL.out]
      obtain ⟨b3, hb3⟩ : ∃ b3, b3 = v3.alloc (.cells #[.slice a8 m.length c8] 31) := ⟨_, rfl⟩
      have hxb : v3.Ext b3 := by rw [hb3]; repeat (first | exact World.Ext.refl _ | exact ⟨_, rfl⟩ | assumption | refine World.Ext.over ?_ _ | refine World.Ext.drewN ?_ _ | refine World.Ext.drew ?_ | refine World.Ext.alloc ?_ _ | refine World.Ext.setCell ?_ (by simp) _)
      have c8x_ : b3.cell? ⟨v3.heap.size, 0, none⟩ = some (.slice a8 m.length c8) := by rw [hb3]; simp [go_sem]
      have HALL_ : Hid (∀ w', b3.Ext w' → w'.cell? ⟨q5, 0, none⟩ = some (.slice ga m.length gc) ∧ MatAt w' ga GA GC m ∧ w'.cell? ⟨v3.heap.size, 0, none⟩ = some (.slice a8 m.length c8) ∧ RowS w' a8 (thrRows m ((k + 1 : Nat) : Int)) ∧ Tag w' a8 9 ∧ wa.Ext w' ∧ True) := fun w' hx' => ⟨(HALL.out w' ((HX.out.trans hxb).trans hx')).1, (HALL.out w' ((HX.out.trans hxb).trans hx')).2.1, hx'.cell c8x_, RowOf.ext HO8.out (hxb.trans hx'), HT8.out.ext (hxb.trans hx'), HXA.out.trans (hxb.trans hx'), trivial⟩
      have HWB_ := Lib.hid (HWB.out.trans (HX.out.trans hxb))
      have HX_ : Hid (b3.Ext b3) := .refl _
      clear hxb c8x_ HWB HX HALL
      have HALL := HALL_
      have HWB := HWB_
      have HX := HX_
      clear HALL_ HWB_ HX_
      go_upto_region 9 with fail
      rw [← hb3]
      clear hb3
      generalize v3.heap.size = q8 at *
      have hx8 := Lib.hid ((HALL.out b3 HX.out).2.2.2.2.2.1)
      have hr8 := Lib.hid ((HALL.out b3 HX.out).2.2.2.1)
      have ht8 := Lib.hid ((HALL.out b3 HX.out).2.2.2.2.1)
      have hc8 := Lib.hid ((HALL.out b3 HX.out).2.2.1)
      have HNEXT : Hid (∀ x1, ∃ pre, (b3.over x1).ownsRow b2.heap.size 31 1 u6 k pre ∧ ∀ (o : Obj) (v' : Value) (w4 : World), ((b3.over x1).alloc o).grownBy w4 u6.ownBlock → w4.ownsRow b2.heap.size 31 1 v' (k + 1) (pre ++ [.slice a8 m.length c8]) → LvSt b2 (thrK m (k + 1)) v' w4) := fun x1 => by
        have h := HLV.out.next (hx8.out.trans ⟨x1, rfl⟩) (RowOf.ext hr8.out ⟨x1, rfl⟩) (Tag.ext ht8.out ⟨x1, rfl⟩) (c := c8)
        rw [thrK_len, HTL.out, ← thrK_succ] at h
        exact h
      have HLE : Hid (∀ (x1 : _) (o : Obj), b2.heap.size ≤ ((b3.over x1).alloc o).heap.size) := fun x1 o => ((HLV.out.x.trans (hx8.out.trans ⟨x1, rfl⟩)).alloc o).size
      have HB1 : Hid (k + 1 ≤ maxLen) := by show _ ≤ _; unfold maxLen; omega
      have HB2 : Hid ((k + 1) * 24 ≤ 140737488355328) := by show _ ≤ _; omega
      have HFM := Lib.hid ((HLV.out.ext hx8.out).form)
      have c8x := hc8.out
      have lc8x := World.block_lt_of_cell? _ _ c8x
      by_cases hk0 : k = 0
      · have hL1 : L = 1 := by have := HLK.out; omega
        clear hk0
        subst hL1
        clear HFM
        go_wp2_with fail
        refine wp_region_over_lit (by kernel_rfl) (by kernel_rfl) ?_; (repeat (go_big_quiet_step (fail))); refine wpQuiet_nil ?_; rintro _ ⟨x1, rfl⟩
        have d8 : (b3.over x1).cell? ⟨q8, 0, none⟩ = some (.slice a8 m.length c8) := World.Ext.cell ⟨x1, rfl⟩ hc8.out
        have l8 := World.block_lt_of_cell? _ _ d8
        obtain ⟨pre, hown, hnext⟩ := HNEXT.out x1
        have HN2 := Lib.hid hnext
        have HL2 := Lib.hid (HLE.out x1)
        clear hnext c8x lc8x
        generalize b3.over x1 = wz at *
        go_wp2_with (at_builtin; refine wpList_append_own _ rfl _ _ 28 rfl b2.heap.size 31 j0 (.agg #[.slice none 0 0]) 1 24 Tryz.underlying28 hj hz0 hz1 hz2 rfl (by decide) _ _ _ rfl (hown.alloc _) ⟨wz.heap.size, 0, none⟩ 1 1 [.slice a8 m.length c8] rfl rfl (cell_one_at (by simp)) (by simp [Value.oneCell']) HB1.out HB2.out (HL2.out _) (fun v' w1 hown' hgrow _ => ?_); have HRN := Lib.hid (HN2.out _ _ _ hgrow hown'); clear hgrow hown' hown d8 l8; obtain ⟨a', A', C', c', rfl, -⟩ := HRN.out.form)
        go_roundw
        case rel => exact ⟨k + 1, ((k + 1 + 1 : Nat) : Int), by omega, rfl, by have h := HLK.out; first | exact congrArg (Value.int IntKind.i64) (by omega) | (have h2 : (1 : Int) + 1 = ((k + 1 + 1 : Nat) : Int) := by omega; rw [← h2]; go_num), HRN⟩
        case measure => have := HLK.out; simp [intOf] <;> omega
      · obtain ⟨j, hj1⟩ : ∃ j : Nat, j + 1 = k := ⟨k - 1, by omega⟩
        have hL1 : (1 : Int) < L := by have := HLK.out; omega
        have hidx : L - 2 = (j : Int) := by have := HLK.out; omega
        obtain ⟨a6, A6, C6, c6, rfl, hp⟩ := HFM.out
        rw [thrK_len]
        rw [thrK_len] at HNEXT
        obtain ⟨⟨b6, o6, rfl, hc6⟩, hrow6⟩ := hp j (by rw [thrK_len]; omega)
        rw [thrK_at (by omega), HTL.out] at hc6
        rw [thrK_at (by omega)] at hrow6
        have HINS := Lib.hid (fun x => HIN.out (b3.over x) a8 (A6 j) c8 (C6 j) j (by have h := hr8.out; rw [← hj1] at h; exact RowOf.ext h ⟨x, rfl⟩) (RowOf.ext hrow6 ⟨x, rfl⟩))
        have hj0 : (0 : Int) ≤ (j : Int) := by omega
        have hjk : (j : Int) < (k : Int) := by omega
        have HJ1 := Lib.hid hj1
        clear hk0 hj1
        clear hp hrow6 HFM
        go_wp2_with fail
        refine wp_region_over_lit (by kernel_rfl) (by kernel_rfl) ?_; (repeat (go_big_quiet_step ((go_at_call 7; exact Calls.over_of (HINS.out _))))); refine wpQuiet_nil ?_; rintro _ ⟨x1, rfl⟩
        clear hc6
        have d8 : (b3.over x1).cell? ⟨q8, 0, none⟩ = some (.slice a8 m.length c8) := World.Ext.cell ⟨x1, rfl⟩ hc8.out
        have l8 := World.block_lt_of_cell? _ _ d8
        obtain ⟨pre, hown, hnext⟩ := HNEXT.out x1
        have HN2 := Lib.hid hnext
        have HL2 := Lib.hid (HLE.out x1)
        clear hnext c8x lc8x
        generalize b3.over x1 = wz at *
        go_wp2_with (at_builtin; refine wpList_append_own _ rfl _ _ 28 rfl b2.heap.size 31 j0 (.agg #[.slice none 0 0]) 1 24 Tryz.underlying28 hj hz0 hz1 hz2 rfl (by decide) _ _ _ rfl (hown.alloc _) ⟨wz.heap.size, 0, none⟩ 1 1 [.slice a8 m.length c8] rfl rfl (cell_one_at (by simp)) (by simp [Value.oneCell']) HB1.out HB2.out (HL2.out _) (fun v' w1 hown' hgrow _ => ?_); have HRN := Lib.hid (HN2.out _ _ _ hgrow hown'); clear hgrow hown' hown d8 l8; obtain ⟨a', A', C', c', rfl, -⟩ := HRN.out.form)
        go_roundw
        case rel => exact ⟨k + 1, ((k + 1 + 1 : Nat) : Int), by omega, rfl, by have h := HLK.out; first | exact congrArg (Value.int IntKind.i64) (by omega) | (have h2 : L + 1 = ((k + 1 + 1 : Nat) : Int) := by omega; rw [← h2]; go_num), HRN⟩
        case measure => have := HLK.out; simp [intOf] <;> omega
    · have hlt' : ¬ L ≤ 9 := by omega
      have hk9 : k = 9 := by omega
      subst hk9
      clear hlt hk hL
      obtain ⟨a6, A6, C6, c6, rfl, hp⟩ := HLV.out.form
      rw [thrK_len]
      have HP6 := Lib.hid hp
      clear hp HLV HTH HTL HIN HLO HGR HDW
      go_wp2_with fail
      refine (HST.out wa a6 c6 A6 C6 HP6.out).mono ?_
      rintro e v4 ⟨a10, c10, A10, C10, rfl, hx, ho⟩
      have HX_ := Lib.hid (HX.out.trans hx)
      clear HX
      have HX := HX_
      clear HX_
      have HO10 := Lib.hid ho.mat
      clear ho HST HP6
      clear hx
      obtain ⟨b4, hb4⟩ : ∃ b4, b4 = v4.alloc (.cells #[.slice a10 m.length c10] 26) := ⟨_, rfl⟩
      have hxb : v4.Ext b4 := by rw [hb4]; repeat (first | exact World.Ext.refl _ | exact ⟨_, rfl⟩ | assumption | refine World.Ext.over ?_ _ | refine World.Ext.drewN ?_ _ | refine World.Ext.drew ?_ | refine World.Ext.alloc ?_ _ | refine World.Ext.setCell ?_ (by simp) _)
      have c10x_ : b4.cell? ⟨v4.heap.size, 0, none⟩ = some (.slice a10 m.length c10) := by rw [hb4]; simp [go_sem]
      have HALL_ : Hid (∀ w', b4.Ext w' → w'.cell? ⟨q5, 0, none⟩ = some (.slice ga m.length gc) ∧ MatAt w' ga GA GC m ∧ w'.cell? ⟨v4.heap.size, 0, none⟩ = some (.slice a10 m.length c10) ∧ MatAt w' a10 A10 C10 m ∧ True) := fun w' hx' => ⟨(HALL.out w' ((HX.out.trans hxb).trans hx')).1, (HALL.out w' ((HX.out.trans hxb).trans hx')).2.1, hx'.cell c10x_, HO10.out.ext (hxb.trans hx'), trivial⟩
      have HWB_ := Lib.hid (HWB.out.trans (HX.out.trans hxb))
      have HX_ : Hid (b4.Ext b4) := .refl _
      clear hxb c10x_ HWB HX HALL
      have HALL := HALL_
      have HWB := HWB_
      have HX := HX_
      clear HALL_ HWB_ HX_
      go_upto_region 13 with fail
      rw [← hb4]
      clear hb4
      generalize v4.heap.size = q10 at *
      have c5 := (HALL.out b4 HX.out).1
      have lc5 := World.block_lt_of_cell? _ _ c5
      go_wp2_with fail
      refine (HIV.out b4 (HALL.out b4 HX.out).2.1).mono ?_
      rintro e v5 ⟨a12, c12, A12, C12, rfl, hx, ho⟩
      clear lc5 c5
      have HX_ := Lib.hid (HX.out.trans hx)
      clear HX
      have HX := HX_
      clear HX_
      rw [HIL.out]
      have HO12 := Lib.hid ho.mat
      clear ho HO10 HIV
      clear hx
      obtain ⟨b5, hb5⟩ : ∃ b5, b5 = v5.alloc (.cells #[.slice a12 m.length c12] 26) := ⟨_, rfl⟩
      have hxb : v5.Ext b5 := by rw [hb5]; repeat (first | exact World.Ext.refl _ | exact ⟨_, rfl⟩ | assumption | refine World.Ext.over ?_ _ | refine World.Ext.drewN ?_ _ | refine World.Ext.drew ?_ | refine World.Ext.alloc ?_ _ | refine World.Ext.setCell ?_ (by simp) _)
      have c12x_ : b5.cell? ⟨v5.heap.size, 0, none⟩ = some (.slice a12 m.length c12) := by rw [hb5]; simp [go_sem]
      have HALL_ : Hid (∀ w', b5.Ext w' → w'.cell? ⟨q5, 0, none⟩ = some (.slice ga m.length gc) ∧ MatAt w' ga GA GC m ∧ w'.cell? ⟨q10, 0, none⟩ = some (.slice a10 m.length c10) ∧ MatAt w' a10 A10 C10 m ∧ w'.cell? ⟨v5.heap.size, 0, none⟩ = some (.slice a12 m.length c12) ∧ MatAt w' a12 A12 C12 (invM m) ∧ True) := fun w' hx' => ⟨(HALL.out w' ((HX.out.trans hxb).trans hx')).1, (HALL.out w' ((HX.out.trans hxb).trans hx')).2.1, (HALL.out w' ((HX.out.trans hxb).trans hx')).2.2.1, (HALL.out w' ((HX.out.trans hxb).trans hx')).2.2.2.1, hx'.cell c12x_, HO12.out.ext (hxb.trans hx'), trivial⟩
      have HWB_ := Lib.hid (HWB.out.trans (HX.out.trans hxb))
      have HX_ : Hid (b5.Ext b5) := .refl _
      clear hxb c12x_ HWB HX HALL
      have HALL := HALL_
      have HWB := HWB_
      have HX := HX_
      clear HALL_ HWB_ HX_
      go_upto_region 14 with fail
      rw [← hb5]
      clear hb5
      generalize v5.heap.size = q12 at *
      have c12x := (HALL.out b5 HX.out).2.2.2.2.1
      have lc12x := World.block_lt_of_cell? _ _ c12x
      go_wp2_with fail
      refine (HIV2.out b5 a12 c12 A12 C12 (HALL.out b5 HX.out).2.2.2.2.2.1).mono ?_
      rintro e v6 ⟨a14, c14, A14, C14, rfl, hx, ho⟩
      clear lc12x c12x
      have HX_ := Lib.hid (HX.out.trans hx)
      clear HX
      have HX := HX_
      clear HX_
      have HO14 := Lib.hid ho.mat
      clear ho HO12 HIV2
      clear hx
      obtain ⟨b6, hb6⟩ : ∃ b6, b6 = v6.alloc (.cells #[.slice a14 m.length c14] 26) := ⟨_, rfl⟩
      have hxb : v6.Ext b6 := by rw [hb6]; repeat (first | exact World.Ext.refl _ | exact ⟨_, rfl⟩ | assumption | refine World.Ext.over ?_ _ | refine World.Ext.drewN ?_ _ | refine World.Ext.drew ?_ | refine World.Ext.alloc ?_ _ | refine World.Ext.setCell ?_ (by simp) _)
      have c14x_ : b6.cell? ⟨v6.heap.size, 0, none⟩ = some (.slice a14 m.length c14) := by rw [hb6]; simp [go_sem]
      have HALL_ : Hid (∀ w', b6.Ext w' → w'.cell? ⟨q5, 0, none⟩ = some (.slice ga m.length gc) ∧ MatAt w' ga GA GC m ∧ w'.cell? ⟨q10, 0, none⟩ = some (.slice a10 m.length c10) ∧ MatAt w' a10 A10 C10 m ∧ w'.cell? ⟨q12, 0, none⟩ = some (.slice a12 m.length c12) ∧ MatAt w' a12 A12 C12 (invM m) ∧ w'.cell? ⟨v6.heap.size, 0, none⟩ = some (.slice a14 m.length c14) ∧ MatAt w' a14 A14 C14 m ∧ True) := fun w' hx' => ⟨(HALL.out w' ((HX.out.trans hxb).trans hx')).1, (HALL.out w' ((HX.out.trans hxb).trans hx')).2.1, (HALL.out w' ((HX.out.trans hxb).trans hx')).2.2.1, (HALL.out w' ((HX.out.trans hxb).trans hx')).2.2.2.1, (HALL.out w' ((HX.out.trans hxb).trans hx')).2.2.2.2.1, (HALL.out w' ((HX.out.trans hxb).trans hx')).2.2.2.2.2.1, hx'.cell c14x_, HO14.out.ext (hxb.trans hx'), trivial⟩
      have HWB_ := Lib.hid (HWB.out.trans (HX.out.trans hxb))
      have HX_ : Hid (b6.Ext b6) := .refl _
      clear hxb c14x_ HWB HX HALL
      have HALL := HALL_
      have HWB := HWB_
      have HX := HX_
      clear HALL_ HWB_ HX_
      go_upto_region 15 with fail
      rw [← hb6]
      clear hb6
      generalize v6.heap.size = q14 at *
      have c5 := (HALL.out b6 HX.out).1
      have lc5 := World.block_lt_of_cell? _ _ c5
      go_wp2_with fail
      refine (HTX.out b6 (HALL.out b6 HX.out).2.1).mono ?_
      rintro e v7 ⟨rfl, hx⟩
      clear lc5 c5
      have HX_ := Lib.hid (HX.out.trans hx)
      clear HX
      have HX := HX_
      clear HX_
      clear HO14 HTX
      clear hx
      go_wp2_with fail
      refine (HRD.out v7 (HWB.out.trans HX.out)).mono ?_
      rintro e v8 ⟨a18, c18, A18, C18, rfl, hx, ho⟩
      have HX_ := Lib.hid (HX.out.trans hx)
      clear HX
      have HX := HX_
      clear HX_
      have HO18 := Lib.hid ho.mat
      clear ho HRD
      clear hx
      obtain ⟨b8, hb8⟩ : ∃ b8, b8 = v8.alloc (.cells #[.slice a18 m.length c18] 26) := ⟨_, rfl⟩
      have hxb : v8.Ext b8 := by rw [hb8]; repeat (first | exact World.Ext.refl _ | exact ⟨_, rfl⟩ | assumption | refine World.Ext.over ?_ _ | refine World.Ext.drewN ?_ _ | refine World.Ext.drew ?_ | refine World.Ext.alloc ?_ _ | refine World.Ext.setCell ?_ (by simp) _)
      have c18x_ : b8.cell? ⟨v8.heap.size, 0, none⟩ = some (.slice a18 m.length c18) := by rw [hb8]; simp [go_sem]
      have HALL_ : Hid (∀ w', b8.Ext w' → w'.cell? ⟨q5, 0, none⟩ = some (.slice ga m.length gc) ∧ MatAt w' ga GA GC m ∧ w'.cell? ⟨q10, 0, none⟩ = some (.slice a10 m.length c10) ∧ MatAt w' a10 A10 C10 m ∧ w'.cell? ⟨q12, 0, none⟩ = some (.slice a12 m.length c12) ∧ MatAt w' a12 A12 C12 (invM m) ∧ w'.cell? ⟨q14, 0, none⟩ = some (.slice a14 m.length c14) ∧ MatAt w' a14 A14 C14 m ∧ w'.cell? ⟨v8.heap.size, 0, none⟩ = some (.slice a18 m.length c18) ∧ MatAt w' a18 A18 C18 m ∧ True) := fun w' hx' => ⟨(HALL.out w' ((HX.out.trans hxb).trans hx')).1, (HALL.out w' ((HX.out.trans hxb).trans hx')).2.1, (HALL.out w' ((HX.out.trans hxb).trans hx')).2.2.1, (HALL.out w' ((HX.out.trans hxb).trans hx')).2.2.2.1, (HALL.out w' ((HX.out.trans hxb).trans hx')).2.2.2.2.1, (HALL.out w' ((HX.out.trans hxb).trans hx')).2.2.2.2.2.1, (HALL.out w' ((HX.out.trans hxb).trans hx')).2.2.2.2.2.2.1, (HALL.out w' ((HX.out.trans hxb).trans hx')).2.2.2.2.2.2.2.1, hx'.cell c18x_, HO18.out.ext (hxb.trans hx'), trivial⟩
      have HWB_ := Lib.hid (HWB.out.trans (HX.out.trans hxb))
      have HX_ : Hid (b8.Ext b8) := .refl _
      clear hxb c18x_ HWB HX HALL
      have HALL := HALL_
      have HWB := HWB_
      have HX := HX_
      clear HALL_ HWB_ HX_
      go_upto_region 17 with fail
      rw [← hb8]
      clear hb8
      generalize v8.heap.size = q18 at *
      clear HO18
      have c5 := (HALL.out b8 HX.out).1
      have lc5 := World.block_lt_of_cell? _ _ c5
      have c10x := (HALL.out b8 HX.out).2.2.1
      have lc10x := World.block_lt_of_cell? _ _ c10x
      have c12x := (HALL.out b8 HX.out).2.2.2.2.1
      have lc12x := World.block_lt_of_cell? _ _ c12x
      have c14x := (HALL.out b8 HX.out).2.2.2.2.2.2.1
      have lc14x := World.block_lt_of_cell? _ _ c14x
      have c18x := (HALL.out b8 HX.out).2.2.2.2.2.2.2.2.1
      have lc18x := World.block_lt_of_cell? _ _ c18x
      go_wp2_with fail
      refine (HVG.out b8 (HALL.out b8 HX.out).2.1).mono ?_
      rintro e v9 ⟨rfl, hx⟩
      clear lc5 c5 lc10x c10x lc12x c12x lc14x c14x lc18x c18x
      have HX_ := Lib.hid (HX.out.trans hx)
      clear HX
      have HX := HX_
      clear HX_
      clear hx
      have c5 := (HALL.out v9 HX.out).1
      have lc5 := World.block_lt_of_cell? _ _ c5
      have c10x := (HALL.out v9 HX.out).2.2.1
      have lc10x := World.block_lt_of_cell? _ _ c10x
      have c12x := (HALL.out v9 HX.out).2.2.2.2.1
      have lc12x := World.block_lt_of_cell? _ _ c12x
      have c14x := (HALL.out v9 HX.out).2.2.2.2.2.2.1
      have lc14x := World.block_lt_of_cell? _ _ c14x
      have c18x := (HALL.out v9 HX.out).2.2.2.2.2.2.2.2.1
      have lc18x := World.block_lt_of_cell? _ _ c18x
      go_wp2_with fail
      refine (HBT.out v9 a10 c10 A10 C10 (HALL.out v9 HX.out).2.2.2.1 (HALL.out v9 HX.out).2.1).mono ?_
      rintro e v10 ⟨rfl, hx⟩
      clear lc5 c5 lc10x c10x lc12x c12x lc14x c14x lc18x c18x
      have HX_ := Lib.hid (HX.out.trans hx)
      clear HX
      have HX := HX_
      clear HX_
      clear hx
      have c5 := (HALL.out v10 HX.out).1
      have lc5 := World.block_lt_of_cell? _ _ c5
      have c10x := (HALL.out v10 HX.out).2.2.1
      have lc10x := World.block_lt_of_cell? _ _ c10x
      have c12x := (HALL.out v10 HX.out).2.2.2.2.1
      have lc12x := World.block_lt_of_cell? _ _ c12x
      have c14x := (HALL.out v10 HX.out).2.2.2.2.2.2.1
      have lc14x := World.block_lt_of_cell? _ _ c14x
      have c18x := (HALL.out v10 HX.out).2.2.2.2.2.2.2.2.1
      have lc18x := World.block_lt_of_cell? _ _ c18x
      go_wp2_with fail
      refine (HBT.out v10 a14 c14 A14 C14 (HALL.out v10 HX.out).2.2.2.2.2.2.2.1 (HALL.out v10 HX.out).2.1).mono ?_
      rintro e v11 ⟨rfl, hx⟩
      clear lc5 c5 lc10x c10x lc12x c12x lc14x c14x lc18x c18x
      have HX_ := Lib.hid (HX.out.trans hx)
      clear HX
      have HX := HX_
      clear HX_
      clear hx
      have c5 := (HALL.out v11 HX.out).1
      have lc5 := World.block_lt_of_cell? _ _ c5
      have c10x := (HALL.out v11 HX.out).2.2.1
      have lc10x := World.block_lt_of_cell? _ _ c10x
      have c12x := (HALL.out v11 HX.out).2.2.2.2.1
      have lc12x := World.block_lt_of_cell? _ _ c12x
      have c14x := (HALL.out v11 HX.out).2.2.2.2.2.2.1
      have lc14x := World.block_lt_of_cell? _ _ c14x
      have c18x := (HALL.out v11 HX.out).2.2.2.2.2.2.2.2.1
      have lc18x := World.block_lt_of_cell? _ _ c18x
      go_wp2_with fail
      refine (HBT.out v11 a18 c18 A18 C18 (HALL.out v11 HX.out).2.2.2.2.2.2.2.2.2.1 (HALL.out v11 HX.out).2.1).mono ?_
      rintro e v12 ⟨rfl, hx⟩
      clear lc5 c5 lc10x c10x lc12x c12x lc14x c14x lc18x c18x
      have HX_ := Lib.hid (HX.out.trans hx)
      clear HX
      have HX := HX_
      clear HX_
      clear hx
      have c5 := (HALL.out v12 HX.out).1
      have lc5 := World.block_lt_of_cell? _ _ c5
      have c10x := (HALL.out v12 HX.out).2.2.1
      have lc10x := World.block_lt_of_cell? _ _ c10x
      have c12x := (HALL.out v12 HX.out).2.2.2.2.1
      have lc12x := World.block_lt_of_cell? _ _ c12x
      have c14x := (HALL.out v12 HX.out).2.2.2.2.2.2.1
      have lc14x := World.block_lt_of_cell? _ _ c14x
      have c18x := (HALL.out v12 HX.out).2.2.2.2.2.2.2.2.1
      have lc18x := World.block_lt_of_cell? _ _ c18x
      go_wp2_with fail
      refine (HBF.out v12 a12 c12 A12 C12 (HALL.out v12 HX.out).2.2.2.2.2.1 (HALL.out v12 HX.out).2.1).mono ?_
      rintro e v13 ⟨rfl, hx⟩
      clear lc5 c5 lc10x c10x lc12x c12x lc14x c14x lc18x c18x
      have HX_ := Lib.hid (HX.out.trans hx)
      clear HX
      have HX := HX_
      clear HX_
      clear hx
      have HXF := Lib.hid (HWB.out.trans HX.out)
      clear HALL HX HWB HVG HBT HBF
      go_wp2
      go_ret
      exact ⟨rfl, HXF.out⟩
end Go.Proofs.YtkpgelhmeokemaaGreatDoor
