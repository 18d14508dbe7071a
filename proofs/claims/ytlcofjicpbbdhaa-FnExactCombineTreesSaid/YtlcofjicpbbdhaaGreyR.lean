/- ReconstructGrey, both sides. -/
import Derived.Test.YtlcofjicpbbdhaaGreyJ
namespace Go.Proofs.Ytlcofjicpbbdhaa
open Go Go.RowKit
def leL (a b : List Int) : Bool := (List.range a.length).all fun k => decide (a.getD k 0 ≤ b.getD k 0)
theorem leL_true {a b : List Int} : leL a b = true ↔ ∀ k, k < a.length → a.getD k 0 ≤ b.getD k 0 := by
  unfold leL
  rw [List.all_eq_true]
  simp only [List.mem_range, decide_eq_true_iff]
/-- Two valid tables of one size. -/
def sizeOk2 (m1 m2 : List (List Int)) : Bool := decide (m1.length = m2.length) && decide ((m1.getD 0 []).length = (m2.getD 0 []).length)
def recOk (m1 m2 : List (List Int)) : Bool := tableOk m1 99 && (tableOk m2 99 && (sizeOk2 m1 m2 && leL m1.flatten m2.flatten))
def RecO (m1 m2 : List (List Int)) (res : List Int) : Prop := recOk m1 m2 = true → PasR (greC (m2.getD 0 []).length m2.length m2.flatten) (greV (m2.getD 0 []).length m2.length m2.flatten) m2.flatten.length m1.flatten res
theorem rec_under {m1 m2 : List (List Int)} (h1 : tableOk m1 99 = true) (h2 : tableOk m2 99 = true) (hs : sizeOk2 m1 m2 = true) (hl : leL m1.flatten m2.flatten = true) : Under m2.flatten m1.flatten := by
  unfold sizeOk2 at hs
  rw [Bool.and_eq_true, decide_eq_true_iff, decide_eq_true_iff] at hs
  have e1 := flat_len _ m1 (tableOk_spec h1).2.2.2.2.1
  have e2 := flat_len _ m2 (tableOk_spec h2).2.2.2.2.1
  exact ⟨by rw [e1, e2, hs.1, hs.2], fun k hk => ⟨(flat_get h1 hk).1, leL_true.1 hl k hk⟩⟩
theorem RecO.ex (m1 m2 : List (List Int)) : ∃ res, RecO m1 m2 res := by
  by_cases hc : recOk m1 m2 = true
  · have hc2 := hc
    unfold recOk at hc2
    rw [Bool.and_eq_true, Bool.and_eq_true, Bool.and_eq_true] at hc2
    obtain ⟨res, hr⟩ := GreR.ex (m2.getD 0 []).length m2.length (rec_under hc2.1 hc2.2.1 hc2.2.2.1 hc2.2.2.2)
    exact ⟨res, fun _ => hr⟩
  · exact ⟨[], fun h2 => absurd h2 hc⟩
theorem rec_bnd (m1 m2 : List (List Int)) (l : List Int) : MatBnd (optM (recOk m1 m2) (grl (m2.getD 0 []).length m2.length l)) ∧ offM (optM (recOk m1 m2) (grl (m2.getD 0 []).length m2.length l)) (optM (recOk m1 m2) (grl (m2.getD 0 []).length m2.length l)).length ≤ 1048576 := by
  cases hc : recOk m1 m2
  · exact ⟨⟨by simp [optM], fun r => by simp [optM]⟩, by simp [optM, offM]⟩
  · unfold recOk at hc
    rw [Bool.and_eq_true, Bool.and_eq_true] at hc
    obtain ⟨v1, v2, v3, v4, -, -⟩ := tableOk_spec hc.2.1
    exact optM_bnd true _ _ _ (by omega) (by omega)
set_option maxRecDepth 5000 in
set_option maxHeartbeats 1600000 in
theorem specRecG_any (a : Option Addr) (c : Nat) (A : Nat → Option Addr) (C : Nat → Nat) (m : List (List Int)) (a' : Option Addr) (c' : Nat) (A' : Nat → Option Addr) (C' : Nat → Nat) (q : List (List Int)) (res : List Int) (hR : RecO m q res) (w : World) (hb : MatBnd m) (hbq : MatBnd q) (hm : MatAt w a A C m) (hmq : MatAt w a' A' C' q) :
    Calls Try.prog 61 #[.agg #[.slice a m.length c], .agg #[.slice a' q.length c']] w (GreyRet2 w (optM (recOk m q) (grl (q.getD 0 []).length q.length res)) (recOk m q)) := by
  obtain ⟨W0, hW0⟩ : ∃ W0, W0 = ((w.alloc (.cells #[.slice a m.length c] 65)).alloc (.cells #[.slice a' q.length c'] 65)).alloc (.cells #[.slice none 0 0] 65) := ⟨_, rfl⟩
  have hx0 : w.Ext W0 := by rw [hW0]; repeat (first | exact World.Ext.refl _ | exact ⟨_, rfl⟩ | assumption | refine World.Ext.over ?_ _ | refine World.Ext.drewN ?_ _ | refine World.Ext.drew ?_ | refine World.Ext.alloc ?_ _ | refine World.Ext.setCell ?_ (by simp) _)
  have d0 : W0.cell? ⟨w.heap.size, 0, none⟩ = some (.slice a m.length c) := by rw [hW0]; simp [go_sem]
  have d1 : W0.cell? ⟨w.heap.size + 1, 0, none⟩ = some (.slice a' q.length c') := by rw [hW0]; simp [go_sem]
  have hone : One W0 (w.heap.size + 1 + 1) 65 (.slice none 0 0) := by rw [hW0]; exact One.new _ _ _ _ (by simp)
  have HI : Hid (Calls Try.prog 143 #[.pointer (some ⟨w.heap.size, 0, none⟩)] W0 fun e w' => e = .returned (.bool (tableOk m 99)) ∧ W0.Ext w') := l07Is_any _ a c A C m W0 hb.1 hb.2 d0 (hm.ext hx0) _ rfl
  have HJ : Hid (∀ w', W0.Ext w' → Calls Try.prog 143 #[.pointer (some ⟨w.heap.size + 1, 0, none⟩)] w' fun e w'' => e = .returned (.bool (tableOk q 99)) ∧ w'.Ext w'') := fun w' hx => l07Is_any _ a' c' A' C' q w' hbq.1 hbq.2 (hx.cell d1) ((hmq.ext hx0).ext hx) _ rfl
  have HX0 := Lib.hid hx0
  have HO := Lib.hid hone
  have HD : Hid (∀ w', W0.Ext w' → w'.cell? ⟨w.heap.size, 0, none⟩ = some (.slice a m.length c) ∧ w'.cell? ⟨w.heap.size + 1, 0, none⟩ = some (.slice a' q.length c')) := fun w' hx => ⟨hx.cell d0, hx.cell d1⟩
  unfold RecO recOk at hR
  unfold recOk
  cases hok : tableOk m 99
  · rw [hok] at HI
    clear hb hbq hm hmq hx0 d0 d1 hone hok hR HJ
    show Calls _ _ _ _ (GreyRet2 w [] false)
    go_enter Try.func61, Try.ntmps61
    go_wp2_with fail
    rw [← hW0]
    refine HI.out.mono ?_
    rintro e w1 ⟨rfl, hx1⟩
    obtain ⟨r1, r2, r3, HR⟩ := Res.storeM (lo := w.heap.size + 3) (.slice none 0 0) (HX0.out.trans hx1) (by omega) (HO.out.ext hx1) (by omega) (OwnMat.none _ _ _ none)
    clear hx1 hW0
    go_wp2
    exact bodyPost_ret (v := .tuple #[.agg #[.slice none 0 0], .bool false]) (by simp [results, Try.results61, go_sem, r3]) rfl (GreyRet2.no HR.out.1)
  · rw [hok] at HI
    cases hoq : tableOk q 99
    · rw [hoq] at HJ
      clear hb hbq hm hmq hx0 d0 d1 hone hok hoq hR
      show Calls _ _ _ _ (GreyRet2 w [] false)
      go_enter Try.func61, Try.ntmps61
      go_wp2_with fail
      rw [← hW0]
      refine HI.out.mono ?_
      rintro e w1 ⟨rfl, hx1⟩
      go_wp2_with fail
      refine (HJ.out w1 hx1).mono ?_
      rintro e w2 ⟨rfl, hx2⟩
      obtain ⟨r1, r2, r3, HR⟩ := Res.storeM (lo := w.heap.size + 3) (.slice none 0 0) (HX0.out.trans (hx1.trans hx2)) (by omega) (HO.out.ext (hx1.trans hx2)) (by omega) (OwnMat.none _ _ _ none)
      clear hx1 hx2 hW0
      go_wp2
      exact bodyPost_ret (v := .tuple #[.agg #[.slice none 0 0], .bool false]) (by simp [results, Try.results61, go_sem, r3]) rfl (GreyRet2.no HR.out.1)
    · rw [hoq] at HJ
      obtain ⟨v1, v2, v3, v4, v5, v6⟩ := tableOk_spec hok
      obtain ⟨u1, u2, u3, u4, u5, u6⟩ := tableOk_spec hoq
      have HWD := Lib.hid (fun w' (hx : W0.Ext w') => l07Width_any w.heap.size a c A C m w' (by omega) (hx.cell d0) ((hm.ext hx0).ext hx))
      have HWQ := Lib.hid (fun w' (hx : W0.Ext w') => l07Width_any (w.heap.size + 1) a' c' A' C' q w' (by omega) (hx.cell d1) ((hmq.ext hx0).ext hx))
      have hfl : m.flatten.length = m.length * (m.getD 0 []).length := by rw [flat_len _ m v5, Nat.mul_comm]
      have hfq : q.flatten.length = q.length * (q.getD 0 []).length := by rw [flat_len _ q u5, Nat.mul_comm]
      have HLI := Lib.hid (fun w' (hx : W0.Ext w') => l07List_any a c A C m w' (by omega) (fun r hr => by rw [v5 r hr]; omega) (by rw [hfl]; exact Nat.le_trans (Nat.mul_le_mul v2 v4) (by omega)) ((hm.ext hx0).ext hx))
      have HLQ := Lib.hid (fun w' (hx : W0.Ext w') => l07List_any a' c' A' C' q w' (by omega) (fun r hr => by rw [u5 r hr]; omega) (by rw [hfq]; exact Nat.le_trans (Nat.mul_le_mul u2 u4) (by omega)) ((hmq.ext hx0).ext hx))
      have HUN : Hid (sizeOk2 m q = true → leL m.flatten q.flatten = true → Under q.flatten m.flatten) := fun h1 h2 => rec_under hok hoq h1 h2
      have HRR : Hid (sizeOk2 m q = true → leL m.flatten q.flatten = true → PasR (greC (q.getD 0 []).length q.length q.flatten) (greV (q.getD 0 []).length q.length q.flatten) q.flatten.length m.flatten res) := fun h1 h2 => hR (by rw [hok, hoq, h1, h2]; rfl)
      have HFL := Lib.hid hfl
      have HFQ := Lib.hid hfq
      have HGL : Hid ((grl (q.getD 0 []).length q.length res).length = q.length) := grl_len _ _ _
      have HSZ : Hid (sizeOk2 m q = (decide (m.length = q.length) && decide ((m.getD 0 []).length = (q.getD 0 []).length))) := rfl
      simp only [Bool.true_and]
      clear hb hbq hm hmq hx0 d0 d1 hone hok hoq hR hfl hfq v5 v6 u5 u6
      generalize sizeOk2 m q = sz at *
      have HLE := Lib.hid (leL_true (a := m.flatten) (b := q.flatten))
      generalize leL m.flatten q.flatten = le at *
      generalize m.flatten = mk at *
      generalize q.flatten = qk at *
      generalize (m.getD 0 []).length = V at *
      generalize (q.getD 0 []).length = W at *
      generalize m.length = G at *
      generalize q.length = H at *
      by_cases hGH : G = H
      · have HGH := Lib.hid hGH
        have fGH : ((G : Int) != (H : Int)) = false := by rw [hGH]; simp
        by_cases hVW : V = W
        · have fVW : ((V : Int) != (W : Int)) = false := by rw [hVW]; simp
          have hsz : sz = true := by rw [HSZ.out, hGH, hVW]; simp
          subst hsz
          have HUN2 := Lib.hid (HUN.out rfl)
          have HRR2 := Lib.hid (HRR.out rfl)
          have HVW := Lib.hid hVW
          simp only [Bool.true_and]
          clear HUN HRR HSZ hGH hVW
          obtain ⟨n, hn⟩ : ∃ n, n = mk.length := ⟨_, rfl⟩
          have hnq : n = qk.length := by rw [hn, HFL.out, HFQ.out, HGH.out, HVW.out]
          have hn0 : 0 < n := by rw [hn, HFL.out]; exact Nat.mul_pos v1 v3
          have hn4 : n ≤ 256 := by rw [hn, HFL.out]; exact Nat.mul_le_mul v2 v4
          rw [← hn] at HLI HFL
          rw [← hnq] at HLQ HFQ HRR2
          have HLN := Lib.hid hn
          have HLNQ := Lib.hid hnq
          clear hn hnq
          go_enter Try.func61, Try.ntmps61
          go_wp2_with fail
          rw [← hW0]
          clear hW0
          refine HI.out.mono ?_
          rintro e w1 ⟨rfl, hx1⟩
          go_wp2_with fail
          refine (HJ.out w1 hx1).mono ?_
          rintro e w2 ⟨rfl, hx2⟩
          have HX2 := Lib.hid (hx1.trans hx2)
          clear hx1 hx2 HI HJ
          obtain ⟨d0, d1⟩ := HD.out w2 HX2.out
          go_wp2_with fail
          refine (HWD.out w2 HX2.out).mono ?_
          rintro e w3 ⟨rfl, hx3⟩
          have HX3 := Lib.hid (HX2.out.trans hx3)
          clear hx3 d0 d1 HX2
          go_wp2_with fail
          refine (HWQ.out w3 HX3.out).mono ?_
          rintro e w4 ⟨rfl, hx4⟩
          have HX4 := Lib.hid (HX3.out.trans hx4)
          clear hx4 HX3
          obtain ⟨d0, d1⟩ := HD.out w4 HX4.out
          have l0 := World.block_lt_of_cell? _ _ d0
          go_wp2_with fail
          refine (HLI.out w4 HX4.out).mono ?_
          rintro e w5 ⟨a5, c5, rfl, hx5, ho5, -⟩
          have HX5 := Lib.hid (HX4.out.trans hx5)
          have HR5 := Lib.hid ho5.row
          clear hx5 ho5 d0 d1 l0 HX4
          obtain ⟨d0, d1⟩ := HD.out w5 HX5.out
          have l1 := World.block_lt_of_cell? _ _ d1
          go_wp2_with fail
          refine (HLQ.out w5 HX5.out).mono ?_
          rintro e w6 ⟨a6, c6, rfl, hx6, ho6, -⟩
          have HX6 := Lib.hid (HX5.out.trans hx6)
          have HR56 := Lib.hid (RowOf.ext HR5.out hx6)
          have HR6 := Lib.hid ho6.row
          clear hx6 ho6 d0 d1 l1 HX5 HR5
          obtain ⟨b5, o5, rfl, -⟩ := HR56.out 0 (by rw [← HLN.out]; exact hn0)
          obtain ⟨b6, o6, rfl, -⟩ := HR6.out 0 (by rw [← HLNQ.out]; exact hn0)
          go_wp2
          go_loopw [38] (fun i wr => ∃ k : Nat, k ≤ n ∧ i = .int .i64 k ∧ Hid (∀ j, j < k → mk.getD j 0 ≤ qk.getD j 0) ∧ Hid (w6.Ext wr)) (fun i _ => n - (intOf i).toNat)
          case atStart => exact ⟨0, Nat.zero_le _, rfl, fun j hj => by omega, .refl _⟩
          case round =>
            obtain ⟨k, hk, rfl, HK, HX⟩ := hrel
            obtain ⟨w7, rfl⟩ : ∃ w7 : World, w7 = wr := ⟨_, rfl⟩
            by_cases hlt : k < n
            · have hlt' : (k : Int) < (n : Int) := by omega
              have hk0 : (0 : Int) ≤ (k : Int) := by omega
              obtain ⟨b5', o5', e5, q5⟩ := HR56.out k (by rw [← HLN.out]; exact hlt)
              obtain ⟨b6', o6', e6, q6⟩ := HR6.out k (by rw [← HLNQ.out]; exact hlt)
              simp only [Option.some.injEq, Addr.mk.injEq, and_true] at e5 e6
              obtain ⟨rfl, rfl⟩ := e5
              obtain ⟨rfl, rfl⟩ := e6
              replace q5 := HX.out.cell q5
              replace q6 := HX.out.cell q6
              by_cases hle : mk.getD k 0 ≤ qk.getD k 0
              · have hle2 : ¬ qk.getD k 0 < mk.getD k 0 := by omega
                have HK2 : Hid (∀ j, j < k + 1 → mk.getD j 0 ≤ qk.getD j 0) := fun j hj => by
                  by_cases e : j = k
                  · rw [e]; exact hle
                  · exact HK.out j (by omega)
                clear HK
                generalize mk.getD k 0 = z at *
                generalize qk.getD k 0 = y at *
                go_wp2_with fail
                refine wp_region_over_lit (by kernel_rfl) (by kernel_rfl) ?_; (repeat (go_big_quiet_step (fail))); refine wpQuiet_nil ?_; rintro _ ⟨x1, rfl⟩
                have HX8 : Hid (w6.Ext (w7.over x1)) := HX.out.trans ⟨x1, rfl⟩
                clear HX q5 q6
                generalize w7.over x1 = w8 at *
                go_wp2
                go_roundw
                case rel => exact ⟨k + 1, by omega, by go_num, HK2, HX8⟩
                case measure => simp [intOf]; omega
              · have hle2 : qk.getD k 0 < mk.getD k 0 := by omega
                have hf : le = false := by
                  cases hb : le
                  · rfl
                  · exact absurd (HLE.out.1 hb k (by rw [← HLN.out]; exact hlt)) hle
                subst hf
                have HONE := Lib.hid (fun x1 : World => HO.out.ext (HX6.out.trans (HX.out.trans ⟨x1, rfl⟩ : w6.Ext (w7.over x1))))
                have HXX := Lib.hid (fun x1 : World => HX0.out.trans (HX6.out.trans (HX.out.trans ⟨x1, rfl⟩ : w6.Ext (w7.over x1))))
                clear HK HLE HUN2 HRR2 HX
                generalize mk.getD k 0 = z at *
                generalize qk.getD k 0 = y at *
                show Code.wp _ _ _ _ _
                go_wp2_with fail
                refine wp_region_over_lit (by kernel_rfl) (by kernel_rfl) ?_; (repeat (go_big_quiet_step (fail))); refine wpQuiet_nil ?_; rintro _ ⟨x1, rfl⟩
                obtain ⟨r1, r2, r3, HR⟩ := Res.storeM (lo := w.heap.size + 3) (.slice none 0 0) (HXX.out x1) (by omega) (HONE.out x1) (by omega) (OwnMat.none _ _ _ none)
                clear q5 q6 HONE HXX
                generalize w7.over x1 = w8 at *
                go_wp2
                exact bodyPost_ret (v := .tuple #[.agg #[.slice none 0 0], .bool false]) (by simp [results, Try.results61, go_sem, r3]) rfl (GreyRet2.no HR.out.1)
            · have : k = n := by omega
              subst this
              have ht : le = true := HLE.out.2 fun j hj => HK.out j (by rw [HLN.out]; exact hj)
              subst ht
              have HXW : Hid (W0.Ext w7) := HX6.out.trans HX.out
              have HRW := Lib.hid (RowOf.ext HR56.out HX.out)
              have HRK := Lib.hid (RowOf.ext HR6.out HX.out)
              clear HK HX HR56 HR6 HLE HLI HLQ
              go_wp2_with fail
              refine (HWQ.out w7 HXW.out).mono ?_
              rintro e w8 ⟨rfl, hx8⟩
              go_wp2_with fail
              refine (HWQ.out w8 (HXW.out.trans hx8)).mono ?_
              rintro e w9 ⟨rfl, hx9⟩
              have HX9 := Lib.hid (hx8.trans hx9)
              have HRE := Lib.hid (l07Reach_any W H k b5 o5 c5 b6 o6 c6 mk qk res w9 (by omega) (by omega) (by omega) (by omega) (by rw [HFQ.out]) HLN.out.symm HLNQ.out.symm (HUN2.out (by trivial)) (RowOf.ext HRW.out HX9.out) (RowOf.ext HRK.out HX9.out) (HRR2.out (by trivial)))
              have hl8 : res.length = k := by
                have := PasR.len (HRR2.out (by trivial))
                rw [← HLN.out] at this
                exact this
              clear hx8 hx9
              go_wp2_with fail
              refine HRE.out.mono ?_
              rintro e w10 ⟨g8, cap8, rfl, hx10, hg8⟩
              have hcap8 : k ≤ cap8 := by
                obtain ⟨a9, c9, e9, hc9⟩ := hg8.form
                simp only [Value.slice.injEq] at e9
                obtain ⟨-, -, rfl⟩ := e9
                omega
              have hro := l07Rows_any g8 0 cap8 W H res w10 (by omega) (by omega) (by omega) (by rw [hl8, HFQ.out]) (by omega) (GrowOf.own (n := k) (a := some ⟨g8, 0, none⟩) (cap := cap8) 0 hg8).row
              rw [hl8] at hro
              have HRO := Lib.hid hro
              have HX10 := Lib.hid (HXW.out.trans (HX9.out.trans hx10))
              clear hx10 hg8 hl8 hcap8 hro HRE HX9 HRW HRK HRR2 HUN2
              go_wp2_with fail
              refine HRO.out.mono ?_
              rintro e w11 ⟨a9, c9, A9, C9, rfl, hx11, hm9⟩
              rw [HGL.out]
              have hl9 : w.heap.size + 1 + 1 < w10.heap.size := Nat.lt_of_lt_of_le HO.out.lt HX10.out.size
              obtain ⟨r1, r2, r3, HR⟩ := Res.storeM (.slice a9 H c9) (HX0.out.trans (HX10.out.trans hx11)) (by omega) (HO.out.ext (HX10.out.trans hx11)) hl9 (hm9.mat (by decide))
              clear hx11 hm9 HRO
              go_wp2
              exact bodyPost_ret (v := .tuple #[.agg #[.slice a9 H c9], .bool true]) (by simp [results, Try.results61, go_sem, r3]) rfl ⟨a9, c9, A9, C9, by show _ = Ending.returned (.tuple #[.agg #[.slice a9 (grl W H res).length c9], .bool true]); rw [HGL.out], HR.out.1, HR.out.2⟩
        · have fVW : ((V : Int) != (W : Int)) = true := by simp; omega
          have hsz : sz = false := by rw [HSZ.out, decide_eq_false hVW, Bool.and_false]
          subst hsz
          clear HUN HRR HSZ HLE HLI HLQ hVW hGH
          show Calls _ _ _ _ (GreyRet2 w [] false)
          go_enter Try.func61, Try.ntmps61
          go_wp2_with fail
          rw [← hW0]
          clear hW0
          refine HI.out.mono ?_
          rintro e w1 ⟨rfl, hx1⟩
          go_wp2_with fail
          refine (HJ.out w1 hx1).mono ?_
          rintro e w2 ⟨rfl, hx2⟩
          have HX2 := Lib.hid (hx1.trans hx2)
          clear hx1 hx2 HI HJ
          obtain ⟨d0, d1⟩ := HD.out w2 HX2.out
          go_wp2_with fail
          refine (HWD.out w2 HX2.out).mono ?_
          rintro e w3 ⟨rfl, hx3⟩
          have HX3 := Lib.hid (HX2.out.trans hx3)
          clear hx3 d0 d1 HX2
          go_wp2_with fail
          refine (HWQ.out w3 HX3.out).mono ?_
          rintro e w4 ⟨rfl, hx4⟩
          obtain ⟨r1, r2, r3, HR⟩ := Res.storeM (lo := w.heap.size + 3) (.slice none 0 0) (HX0.out.trans (HX3.out.trans hx4)) (by omega) (HO.out.ext (HX3.out.trans hx4)) (by omega) (OwnMat.none _ _ _ none)
          clear hx4
          go_wp2
          exact bodyPost_ret (v := .tuple #[.agg #[.slice none 0 0], .bool false]) (by simp [results, Try.results61, go_sem, r3]) rfl (GreyRet2.no HR.out.1)
      · have fGH : ((G : Int) != (H : Int)) = true := by simp; omega
        have hsz : sz = false := by rw [HSZ.out, decide_eq_false hGH, Bool.false_and]
        subst hsz
        clear HUN HRR HSZ HLE HLI HLQ hGH HWD HWQ
        show Calls _ _ _ _ (GreyRet2 w [] false)
        go_enter Try.func61, Try.ntmps61
        go_wp2_with fail
        rw [← hW0]
        clear hW0
        refine HI.out.mono ?_
        rintro e w1 ⟨rfl, hx1⟩
        go_wp2_with fail
        refine (HJ.out w1 hx1).mono ?_
        rintro e w2 ⟨rfl, hx2⟩
        have HX2 := Lib.hid (hx1.trans hx2)
        clear hx1 hx2 HI HJ
        obtain ⟨d0, d1⟩ := HD.out w2 HX2.out
        obtain ⟨r1, r2, r3, HR⟩ := Res.storeM (lo := w.heap.size + 3) (.slice none 0 0) (HX0.out.trans HX2.out) (by omega) (HO.out.ext HX2.out) (by omega) (OwnMat.none _ _ _ none)
        go_wp2
        exact bodyPost_ret (v := .tuple #[.agg #[.slice none 0 0], .bool false]) (by simp [results, Try.results61, go_sem, r3]) rfl (GreyRet2.no HR.out.1)
end Go.Proofs.Ytlcofjicpbbdhaa
