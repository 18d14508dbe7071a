/- ReconstructGrey, both sides. -/
import Derived.Test.YthgkmaccbcpaeaaGrA
namespace Go.Proofs.Ythgkmaccbcpaeaa
open Go Go.RowKit
def leL (a b : List Int) : Bool := (List.range a.length).all fun k => decide (a.getD k 0 ≤ b.getD k 0)
theorem leL_true {a b : List Int} : leL a b = true ↔ ∀ k, k < a.length → a.getD k 0 ≤ b.getD k 0 := by
  unfold leL
  rw [List.all_eq_true]
  simp only [List.mem_range, decide_eq_true_iff]
/-- Two valid tables of one size. -/
def sizeOk2 (m1 m2 : List (List Int)) : Bool := decide (m1.length = m2.length) && decide ((m1.getD 0 []).length = (m2.getD 0 []).length)
def recOk (m1 m2 : List (List Int)) : Bool := tableOk m1 99 && (tableOk m2 99 && (sizeOk2 m1 m2 && leL m1.flatten m2.flatten))
def RecO (m1 m2 : List (List Int)) (res : List Int) : Prop := recOk m1 m2 = true → PasR (greC (m2.getD 0 []).length m2.length m2.flatten) (greV (m2.getD 0 []).length m2.length m2.flatten) m2.flatten.length m1.flatten res
theorem rec_under {m1 m2 : List (List Int)} (h1 : tableOk m1 99 = true) (h2 : tableOk m2 99 = true) (hs : sizeOk2 m1 m2 = true) (hl : leL m1.flatten m2.flatten = true) : Under m2.flatten m1.flatten := by
  unfold sizeOk2 at hs
  rw [Bool.and_eq_true, decide_eq_true_iff, decide_eq_true_iff] at hs
  have e1 := flat_len _ m1 (tableOk_spec h1).2.2.2.2.1
  have e2 := flat_len _ m2 (tableOk_spec h2).2.2.2.2.1
  exact ⟨by rw [e1, e2, hs.1, hs.2], fun k hk => ⟨(flat_get h1 hk).1, leL_true.1 hl k hk⟩⟩
theorem RecO.ex (m1 m2 : List (List Int)) : ∃ res, RecO m1 m2 res := by
  by_cases hc : recOk m1 m2 = true
  · have hc2 := hc
    unfold recOk at hc2
    rw [Bool.and_eq_true, Bool.and_eq_true, Bool.and_eq_true] at hc2
    obtain ⟨res, hr⟩ := GreR.ex (m2.getD 0 []).length m2.length (rec_under hc2.1 hc2.2.1 hc2.2.2.1 hc2.2.2.2)
    exact ⟨res, fun _ => hr⟩
  · exact ⟨[], fun h2 => absurd h2 hc⟩
theorem rec_bnd (m1 m2 : List (List Int)) (l : List Int) : MatBnd (optM (recOk m1 m2) (grl (m2.getD 0 []).length m2.length l)) ∧ offM (optM (recOk m1 m2) (grl (m2.getD 0 []).length m2.length l)) (optM (recOk m1 m2) (grl (m2.getD 0 []).length m2.length l)).length ≤ 1048576 := by
  cases hc : recOk m1 m2
  · exact ⟨⟨by simp [optM], fun r => by simp [optM]⟩, by simp [optM, offM]⟩
  · unfold recOk at hc
    rw [Bool.and_eq_true, Bool.and_eq_true] at hc
    obtain ⟨v1, v2, v3, v4, -, -⟩ := tableOk_spec hc.2.1
    exact optM_bnd true _ _ _ (by omega) (by omega)
end Go.Proofs.Ythgkmaccbcpaeaa

/- ReconstructGrey: the program's side. -/
namespace Go.Proofs.Ythgkmaccbcpaeaa
open Go Go.RowKit
theorem grid_all {W H : Nat} {a b : List Int} (_ : 0 < W) (ha : a.length = H * W) : ((gridP W H).all fun s => decide (nbV W a s.1 s.2 ≤ nbV W b s.1 s.2)) = leL a b := by
  unfold gridP leL
  rw [List.all_map, ha]
  rw [Bool.eq_iff_iff, List.all_eq_true, List.all_eq_true]
  have e : ∀ (l : List Int) (k : Nat), nbV W l ((k % W : Nat) : Int) ((k / W : Nat) : Int) = l.getD k 0 := fun l k => by
    unfold nbV
    rw [show (((k / W : Nat) : Int) * (W : Int) + ((k % W : Nat) : Int)).toNat = k by rw [← Int.natCast_mul, ← Int.natCast_add, Int.toNat_natCast, Nat.mul_comm]; exact Nat.div_add_mod _ _]
  constructor
  · intro h k hk
    have := h k hk
    simp only [Function.comp] at this
    rw [e, e] at this
    exact this
  · intro h k hk
    simp only [Function.comp]
    rw [e, e]
    exact h k hk
set_option maxRecDepth 5000 in
set_option maxHeartbeats 800000 in
theorem recG1_any (p2 p3 : Nat) (a : Option Addr) (c : Nat) (A : Nat → Option Addr) (C : Nat → Nat) (m : List (List Int)) (a' : Option Addr) (c' : Nat) (A' : Nat → Option Addr) (C' : Nat → Nat) (q : List (List Int)) (z1 z2 : Int) (x y : Nat) (w : World) (_ : p2 ≠ p3)
    (hy : y < m.length) (hx : x < (m.getD y []).length) (hb1 : m.length ≤ 1000) (hb2 : (m.getD y []).length ≤ 1000) (hz1 : (m.getD y []).getD x 0 = z1) (hyq : y < q.length) (hxq : x < (q.getD y []).length) (hb3 : q.length ≤ 1000) (hb4 : (q.getD y []).length ≤ 1000) (hz2 : (q.getD y []).getD x 0 = z2)
    (hp : w.cell? ⟨p2, 0, none⟩ = some (.slice a m.length c)) (hp3 : w.cell? ⟨p3, 0, none⟩ = some (.slice a' q.length c')) (hm : MatAt w a A C m) (hmq : MatAt w a' A' C' q) :
    Calls Try.prog 153 #[.agg #[.int .i64 x, .int .i64 y], .pointer (some ⟨p2, 0, none⟩), .pointer (some ⟨p3, 0, none⟩)] w fun e w' => e = .returned (.bool (decide (z1 ≤ z2))) ∧ w.Ext w' := by
  obtain ⟨W0, hW0⟩ : ∃ W0, W0 = w.alloc (.cells #[.int .i64 x, .int .i64 y] 45) := ⟨_, rfl⟩
  have hx0 : w.Ext W0 := by rw [hW0]; repeat (first | exact World.Ext.refl _ | exact ⟨_, rfl⟩ | assumption | refine World.Ext.over ?_ _ | refine World.Ext.drewN ?_ _ | refine World.Ext.drew ?_ | refine World.Ext.alloc ?_ _ | refine World.Ext.setCell ?_ (by simp) _)
  have d0 : W0.cell? ⟨w.heap.size, 0, none⟩ = some (.int .i64 x) := by rw [hW0]; simp [go_sem]
  have d1 : W0.cell? ⟨w.heap.size, 1, none⟩ = some (.int .i64 y) := by rw [hW0]; simp [go_sem]
  have HAT : Hid (∀ x1, Calls Try.prog 149 #[.pointer (some ⟨p2, 0, none⟩), .agg #[.int .i64 x, .int .i64 y]] (W0.over x1) fun e w'' => e = .returned (.int .i64 z1) ∧ (W0.over x1).Ext w'') := fun x1 => by
    have h := gAt_any p2 a c A C m x y (W0.over x1) hy hx (by omega) (by omega) (World.Ext.cell ⟨x1, rfl⟩ (hx0.cell hp)) ((hm.ext hx0).ext ⟨x1, rfl⟩)
    rw [hz1] at h
    exact h
  have HAQ : Hid (∀ x1, Calls Try.prog 149 #[.pointer (some ⟨p3, 0, none⟩), .agg #[.int .i64 x, .int .i64 y]] (W0.over x1) fun e w'' => e = .returned (.int .i64 z2) ∧ (W0.over x1).Ext w'') := fun x1 => by
    have h := gAt_any p3 a' c' A' C' q x y (W0.over x1) hyq hxq (by omega) (by omega) (World.Ext.cell ⟨x1, rfl⟩ (hx0.cell hp3)) ((hmq.ext hx0).ext ⟨x1, rfl⟩)
    rw [hz2] at h
    exact h
  have HX0 := Lib.hid hx0
  clear hm hmq hp hp3 hx0 hz1 hz2 hx hy hb1 hb2 hyq hxq hb3 hb4
  go_enter Try.func153, Try.ntmps153
  go_wp2_with fail
  rw [← hW0]
  clear hW0
  refine wp_region_over_lit (by kernel_rfl) (by kernel_rfl) ?_; (repeat (go_big_quiet_step ((first | (go_at_call_of 149 (Value.pointer (some ⟨p2, 0, none⟩)); exact Calls.over_of (HAT.out _)) | (go_at_call_of 149 (Value.pointer (some ⟨p3, 0, none⟩)); exact Calls.over_of (HAQ.out _)))))); refine wpQuiet_nil ?_; rintro _ ⟨x1, rfl⟩
  have HX : Hid (w.Ext (W0.over x1)) := HX0.out.trans ⟨x1, rfl⟩
  clear d0 d1
  go_wp2
  go_ret
  exact ⟨rfl, HX.out⟩
theorem enters_recG1 : Enters 153 := enters_of Try.func153 (by kernel_rfl) (by kernel_rfl)
set_option maxRecDepth 5000 in
set_option maxHeartbeats 1600000 in
theorem implRecG_any (a : Option Addr) (c : Nat) (A : Nat → Option Addr) (C : Nat → Nat) (m : List (List Int)) (a' : Option Addr) (c' : Nat) (A' : Nat → Option Addr) (C' : Nat → Nat) (q : List (List Int)) (res : List Int) (hR : RecO m q res) (w : World) (hb : MatBnd m) (hbq : MatBnd q) (hm : MatAt w a A C m) (hmq : MatAt w a' A' C' q) :
    Calls Try.prog 59 #[.agg #[.slice a m.length c], .agg #[.slice a' q.length c']] w (GreyRet2 w (optM (recOk m q) (grl (q.getD 0 []).length q.length res)) (recOk m q)) := by
  obtain ⟨W0, hW0⟩ : ∃ W0, W0 = ((w.alloc (.cells #[.slice a m.length c] 84)).alloc (.cells #[.slice a' q.length c'] 84)).alloc (.cells #[.slice none 0 0] 84) := ⟨_, rfl⟩
  have hx0 : w.Ext W0 := by rw [hW0]; repeat (first | exact World.Ext.refl _ | exact ⟨_, rfl⟩ | assumption | refine World.Ext.over ?_ _ | refine World.Ext.drewN ?_ _ | refine World.Ext.drew ?_ | refine World.Ext.alloc ?_ _ | refine World.Ext.setCell ?_ (by simp) _)
  have d0 : W0.cell? ⟨w.heap.size, 0, none⟩ = some (.slice a m.length c) := by rw [hW0]; simp [go_sem]
  have d1 : W0.cell? ⟨w.heap.size + 1, 0, none⟩ = some (.slice a' q.length c') := by rw [hW0]; simp [go_sem]
  have hone : One W0 (w.heap.size + 1 + 1) 84 (.slice none 0 0) := by rw [hW0]; exact One.new _ _ _ _ (by simp)
  have HI : Hid (Calls Try.prog 145 #[.agg #[.slice a m.length c]] W0 fun e w' => e = .returned (.bool (tableOk m 99)) ∧ W0.Ext w') := validGrey_any a c A C m W0 hb.1 hb.2 (hm.ext hx0) _ rfl
  have HJ : Hid (∀ w', W0.Ext w' → Calls Try.prog 145 #[.agg #[.slice a' q.length c']] w' fun e w'' => e = .returned (.bool (tableOk q 99)) ∧ w'.Ext w'') := fun w' hx => validGrey_any a' c' A' C' q w' hbq.1 hbq.2 ((hmq.ext hx0).ext hx) _ rfl
  have HX0 := Lib.hid hx0
  have HO := Lib.hid hone
  have HD : Hid (∀ w', W0.Ext w' → w'.cell? ⟨w.heap.size, 0, none⟩ = some (.slice a m.length c) ∧ w'.cell? ⟨w.heap.size + 1, 0, none⟩ = some (.slice a' q.length c')) := fun w' hx => ⟨hx.cell d0, hx.cell d1⟩
  have hl0 : w.heap.size + 1 + 1 < W0.heap.size := hone.lt
  unfold RecO recOk at hR
  unfold recOk
  cases hok : tableOk m 99
  · rw [hok] at HI
    clear hb hbq hm hmq hx0 d0 d1 hone hok hR HJ
    show Calls _ _ _ _ (GreyRet2 w [] false)
    go_enter Try.func59, Try.ntmps59
    go_wp2_with fail
    rw [← hW0]
    refine HI.out.mono ?_
    rintro e w1 ⟨rfl, hx1⟩
    obtain ⟨r1, r2, r3, HR⟩ := Res.storeM (lo := w.heap.size + 3) (.slice none 0 0) (HX0.out.trans hx1) (by omega) (HO.out.ext hx1) (by omega) (OwnMat.none _ _ _ none)
    clear hx1 hW0
    go_wp2
    exact bodyPost_ret (v := .tuple #[.agg #[.slice none 0 0], .bool false]) (by simp [results, Try.results59, go_sem, r3]) rfl (GreyRet2.no HR.out.1)
  · rw [hok] at HI
    cases hoq : tableOk q 99
    · rw [hoq] at HJ
      clear hb hbq hm hmq hx0 d0 d1 hone hok hoq hR
      show Calls _ _ _ _ (GreyRet2 w [] false)
      go_enter Try.func59, Try.ntmps59
      go_wp2_with fail
      rw [← hW0]
      refine HI.out.mono ?_
      rintro e w1 ⟨rfl, hx1⟩
      obtain ⟨d0, d1⟩ := HD.out w1 hx1
      have l1 := World.block_lt_of_cell? _ _ d1
      go_wp2_with fail
      refine (HJ.out w1 hx1).mono ?_
      rintro e w2 ⟨rfl, hx2⟩
      obtain ⟨r1, r2, r3, HR⟩ := Res.storeM (lo := w.heap.size + 3) (.slice none 0 0) (HX0.out.trans (hx1.trans hx2)) (by omega) (HO.out.ext (hx1.trans hx2)) (by omega) (OwnMat.none _ _ _ none)
      clear hx1 hx2 hW0 d0 d1 l1
      go_wp2
      exact bodyPost_ret (v := .tuple #[.agg #[.slice none 0 0], .bool false]) (by simp [results, Try.results59, go_sem, r3]) rfl (GreyRet2.no HR.out.1)
    · rw [hoq] at HJ
      obtain ⟨v1, v2, v3, v4, v5, v6⟩ := tableOk_spec hok
      obtain ⟨u1, u2, u3, u4, u5, u6⟩ := tableOk_spec hoq
      have HSM := Lib.hid (fun w' (hx : W0.Ext w') => sizes_any w.heap.size a c A C m w' (by omega) (hx.cell d0) ((hm.ext hx0).ext hx))
      have HSQ := Lib.hid (fun w' (hx : W0.Ext w') => sizes_any (w.heap.size + 1) a' c' A' C' q w' (by omega) (hx.cell d1) ((hmq.ext hx0).ext hx))
      have hfl : m.flatten.length = m.length * (m.getD 0 []).length := by rw [flat_len _ m v5, Nat.mul_comm]
      have hfq : q.flatten.length = q.length * (q.getD 0 []).length := by rw [flat_len _ q u5, Nat.mul_comm]
      have HSP : Hid (∀ w', W0.Ext w' → Calls Try.prog 152 #[.pointer (some ⟨w.heap.size + 1, 0, none⟩)] w' (PairsRet w' (gridP (q.getD 0 []).length q.length))) := fun w' hx => gSpots_any (w.heap.size + 1) a' c' A' C' q (q.getD 0 []).length w' u5 (by omega) (by omega) (hx.cell d1) ((hmq.ext hx0).ext hx)
      have HAL : Hid (sizeOk2 m q = true → ∀ (w' : World) (a9 : Option Addr) (c9 : Nat), W0.Ext w' → RowP w' a9 (gridP (q.getD 0 []).length q.length) → Calls Try.prog 151 #[.slice a9 (gridP (q.getD 0 []).length q.length).length c9, .func (.func 153) #[] #[.pointer (some ⟨w.heap.size, 0, none⟩), .pointer (some ⟨w.heap.size + 1, 0, none⟩)]] w' fun e w'' => e = .returned (.bool (leL m.flatten q.flatten)) ∧ w'.Ext w'') := fun hs w' a9 c9 hx hr => by
        unfold sizeOk2 at hs
        rw [Bool.and_eq_true, decide_eq_true_iff, decide_eq_true_iff] at hs
        have hga := grid_all (W := (q.getD 0 []).length) (H := q.length) (a := m.flatten) (b := q.flatten) (by omega) (by rw [hfl, hs.1, hs.2])
        rw [← hga]
        have hgl := gridP_len (q.getD 0 []).length q.length
        refine all_any a9 c9 153 #[.pointer (some ⟨w.heap.size, 0, none⟩), .pointer (some ⟨w.heap.size + 1, 0, none⟩)] _ (fun s => decide (nbV (q.getD 0 []).length m.flatten s.1 s.2 ≤ nbV (q.getD 0 []).length q.flatten s.1 s.2)) w' ?_ hr enters_recG1 fun w'' hx' i hi => ?_
        · rw [hgl]
          exact Nat.le_trans (Nat.mul_le_mul u2 u4) (by omega)
        · rw [hgl] at hi
          rw [gridP_at hi]
          have hW : 0 < (q.getD 0 []).length := by omega
          have hxx : i % (q.getD 0 []).length < (q.getD 0 []).length := Nat.mod_lt _ hW
          have hyy : i / (q.getD 0 []).length < q.length := by rw [Nat.div_lt_iff_lt_mul hW]; exact hi
          have e1 : ∀ l : List Int, nbV (q.getD 0 []).length l ((i % (q.getD 0 []).length : Nat) : Int) ((i / (q.getD 0 []).length : Nat) : Int) = l.getD (i / (q.getD 0 []).length * (q.getD 0 []).length + i % (q.getD 0 []).length) 0 := fun l => by
            unfold nbV
            rw [← Int.natCast_mul, ← Int.natCast_add, Int.toNat_natCast]
          simp only
          rw [e1, e1, flat_at (q.getD 0 []).length q _ _ u5 hyy hxx, flat_at (q.getD 0 []).length m _ _ (fun r hr => by rw [v5 r hr, hs.2]) (by omega) hxx]
          have hvy := v5 (i / (q.getD 0 []).length) (by omega)
          have huy := u5 (i / (q.getD 0 []).length) (by omega)
          exact recG1_any _ _ a c A C m a' c' A' C' q _ _ _ _ w'' (by omega) (by omega) (by omega) (by omega) (by omega) rfl (by omega) (by omega) (by omega) (by omega) rfl ((hx.trans hx').cell d0) ((hx.trans hx').cell d1) (((hm.ext hx0).ext hx).ext hx') (((hmq.ext hx0).ext hx).ext hx')
      have HRC : Hid (sizeOk2 m q = true → leL m.flatten q.flatten = true → ∀ w' : World, W0.Ext w' → Calls Try.prog 146 #[.agg #[.slice a m.length c], .agg #[.slice a' q.length c']] w' (GreyRet w' (grl (q.getD 0 []).length q.length res))) := fun h1 h2 w' hx => by
        have hs := h1
        unfold sizeOk2 at hs
        rw [Bool.and_eq_true, decide_eq_true_iff, decide_eq_true_iff] at hs
        exact reconstructed_any (q.getD 0 []).length q.length q.flatten.length a c A C m a' c' A' C' q res w' (by omega) (by omega) (by omega) (by omega) hfq hs.1 (fun r hr => by rw [v5 r (by omega), hs.2]) rfl u5 (rec_under hok hoq h1 h2) ((hm.ext hx0).ext hx) ((hmq.ext hx0).ext hx) (hR (by rw [hok, hoq, h1, h2]; rfl))
      have HGL : Hid ((grl (q.getD 0 []).length q.length res).length = q.length) := grl_len _ _ _
      have HSZ : Hid (sizeOk2 m q = (decide (m.length = q.length) && decide ((m.getD 0 []).length = (q.getD 0 []).length))) := rfl
      simp only [Bool.true_and]
      clear hb hbq hm hmq hx0 d0 d1 hone hok hoq hR hfl hfq v5 v6 u5 u6
      generalize sizeOk2 m q = sz at *
      generalize leL m.flatten q.flatten = le at *
      generalize gridP (q.getD 0 []).length q.length = ps at *
      generalize (m.getD 0 []).length = V at *
      generalize (q.getD 0 []).length = W at *
      generalize m.length = G at *
      generalize q.length = H at *
      by_cases hVW : V = W
      · have fVW : ((W : Int) != (V : Int)) = false := by rw [hVW]; simp
        by_cases hGH : G = H
        · have fGH : ((H : Int) != (G : Int)) = false := by rw [hGH]; simp
          have hsz : sz = true := by rw [HSZ.out, hGH, hVW]; simp
          subst hsz
          have HAL2 := Lib.hid (HAL.out rfl)
          have HRC2 := Lib.hid (HRC.out rfl)
          simp only [Bool.true_and]
          clear HAL HRC HSZ hGH hVW
          go_enter Try.func59, Try.ntmps59
          go_wp2_with fail
          rw [← hW0]
          clear hW0
          refine HI.out.mono ?_
          rintro e w1 ⟨rfl, hx1⟩
          obtain ⟨d0, d1⟩ := HD.out w1 hx1
          have l1 := World.block_lt_of_cell? _ _ d1
          go_wp2_with fail
          refine (HJ.out w1 hx1).mono ?_
          rintro e w2 ⟨rfl, hx2⟩
          have HX2 := Lib.hid (hx1.trans hx2)
          clear hx1 hx2 HI HJ d0 d1 l1
          go_wp2_with fail
          refine (HSM.out w2 HX2.out).mono ?_
          rintro e w3 ⟨rfl, hx3⟩
          have HX3 := Lib.hid (HX2.out.trans hx3)
          clear hx3 HX2
          go_wp2_with fail
          refine (HSQ.out w3 HX3.out).mono ?_
          rintro e w4 ⟨rfl, hx4⟩
          have HX4 := Lib.hid (HX3.out.trans hx4)
          clear hx4 HX3
          go_wp2_with fail
          refine (HSP.out w4 HX4.out).mono ?_
          rintro e w5 ⟨a5, c5, rfl, hx5, ho5⟩
          have HX5 := Lib.hid (HX4.out.trans hx5)
          have HAC := Lib.hid (HAL2.out w5 a5 c5 HX5.out ho5.row)
          clear hx5 ho5 HX4 HAL2
          go_wp2_with fail
          refine HAC.out.mono ?_
          rintro e w6 ⟨rfl, hx6⟩
          have HX6 := Lib.hid (HX5.out.trans hx6)
          clear hx6 HX5 HAC
          cases le
          · obtain ⟨r1, r2, r3, HR⟩ := Res.storeM (lo := w.heap.size + 3) (.slice none 0 0) (HX0.out.trans HX6.out) (by omega) (HO.out.ext HX6.out) (by omega) (OwnMat.none _ _ _ none)
            clear HRC2
            go_wp2
            exact bodyPost_ret (v := .tuple #[.agg #[.slice none 0 0], .bool false]) (by simp [results, Try.results59, go_sem, r3]) rfl (GreyRet2.no HR.out.1)
          · have HRC3 := Lib.hid (HRC2.out (by trivial))
            clear HRC2
            obtain ⟨d0, d1⟩ := HD.out w6 HX6.out
            have l1 := World.block_lt_of_cell? _ _ d1
            go_wp2_with fail
            refine (HRC3.out w6 HX6.out).mono ?_
            rintro e w7 ⟨a7, c7, A7, C7, rfl, hx7, hm7⟩
            rw [HGL.out]
            obtain ⟨r1, r2, r3, HR⟩ := Res.storeM (.slice a7 H c7) (HX0.out.trans (HX6.out.trans hx7)) (by omega) (HO.out.ext (HX6.out.trans hx7)) (Nat.lt_of_lt_of_le hl0 HX6.out.size) hm7
            clear hx7 hm7 HRC3 d0 d1 l1
            go_wp2
            exact bodyPost_ret (v := .tuple #[.agg #[.slice a7 H c7], .bool true]) (by simp [results, Try.results59, go_sem, r3]) rfl ⟨a7, c7, A7, C7, by show _ = Ending.returned (.tuple #[.agg #[.slice a7 (grl W H res).length c7], .bool true]); rw [HGL.out], HR.out.1, HR.out.2⟩
        · have fGH : ((H : Int) != (G : Int)) = true := by simp; omega
          have hsz : sz = false := by rw [HSZ.out, decide_eq_false hGH, Bool.false_and]
          subst hsz
          clear HAL HRC HSZ hGH hVW HSP
          show Calls _ _ _ _ (GreyRet2 w [] false)
          go_enter Try.func59, Try.ntmps59
          go_wp2_with fail
          rw [← hW0]
          clear hW0
          refine HI.out.mono ?_
          rintro e w1 ⟨rfl, hx1⟩
          obtain ⟨d0, d1⟩ := HD.out w1 hx1
          have l1 := World.block_lt_of_cell? _ _ d1
          go_wp2_with fail
          refine (HJ.out w1 hx1).mono ?_
          rintro e w2 ⟨rfl, hx2⟩
          have HX2 := Lib.hid (hx1.trans hx2)
          clear hx1 hx2 HI HJ d0 d1 l1
          go_wp2_with fail
          refine (HSM.out w2 HX2.out).mono ?_
          rintro e w3 ⟨rfl, hx3⟩
          have HX3 := Lib.hid (HX2.out.trans hx3)
          clear hx3 HX2
          go_wp2_with fail
          refine (HSQ.out w3 HX3.out).mono ?_
          rintro e w4 ⟨rfl, hx4⟩
          obtain ⟨r1, r2, r3, HR⟩ := Res.storeM (lo := w.heap.size + 3) (.slice none 0 0) (HX0.out.trans (HX3.out.trans hx4)) (by omega) (HO.out.ext (HX3.out.trans hx4)) (by omega) (OwnMat.none _ _ _ none)
          clear hx4
          go_wp2
          exact bodyPost_ret (v := .tuple #[.agg #[.slice none 0 0], .bool false]) (by simp [results, Try.results59, go_sem, r3]) rfl (GreyRet2.no HR.out.1)
      · have fVW : ((W : Int) != (V : Int)) = true := by simp; omega
        have hsz : sz = false := by rw [HSZ.out, decide_eq_false hVW, Bool.and_false]
        subst hsz
        clear HAL HRC HSZ hVW HSP
        show Calls _ _ _ _ (GreyRet2 w [] false)
        go_enter Try.func59, Try.ntmps59
        go_wp2_with fail
        rw [← hW0]
        clear hW0
        refine HI.out.mono ?_
        rintro e w1 ⟨rfl, hx1⟩
        obtain ⟨d0, d1⟩ := HD.out w1 hx1
        have l1 := World.block_lt_of_cell? _ _ d1
        go_wp2_with fail
        refine (HJ.out w1 hx1).mono ?_
        rintro e w2 ⟨rfl, hx2⟩
        have HX2 := Lib.hid (hx1.trans hx2)
        clear hx1 hx2 HI HJ d0 d1 l1
        go_wp2_with fail
        refine (HSM.out w2 HX2.out).mono ?_
        rintro e w3 ⟨rfl, hx3⟩
        have HX3 := Lib.hid (HX2.out.trans hx3)
        clear hx3 HX2
        go_wp2_with fail
        refine (HSQ.out w3 HX3.out).mono ?_
        rintro e w4 ⟨rfl, hx4⟩
        obtain ⟨r1, r2, r3, HR⟩ := Res.storeM (lo := w.heap.size + 3) (.slice none 0 0) (HX0.out.trans (HX3.out.trans hx4)) (by omega) (HO.out.ext (HX3.out.trans hx4)) (by omega) (OwnMat.none _ _ _ none)
        clear hx4
        go_wp2
        exact bodyPost_ret (v := .tuple #[.agg #[.slice none 0 0], .bool false]) (by simp [results, Try.results59, go_sem, r3]) rfl (GreyRet2.no HR.out.1)
end Go.Proofs.Ythgkmaccbcpaeaa
