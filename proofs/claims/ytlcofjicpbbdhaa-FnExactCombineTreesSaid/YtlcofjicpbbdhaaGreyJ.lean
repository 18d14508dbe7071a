/- CutPeaks and ReconstructGrey, both sides. -/
import Derived.Test.YtlcofjicpbbdhaaGreyI
import Derived.Deep.RegionHeld3
namespace Go.Proofs.Ytlcofjicpbbdhaa
open Go Go.RowKit
theorem grl_flatten {W H : Nat} {l : List Int} (hW : 0 < W) (hl : l.length = H * W) : (grl W H l).flatten = l := by
  have hr : ∀ r, r < (grl W H l).length → ((grl W H l).getD r []).length = W := fun r h => by rw [grl_len] at h; exact grl_row h
  have hfl := flat_len W (grl W H l) hr
  rw [grl_len] at hfl
  apply List.ext_getElem?
  intro k
  by_cases hk : k < H * W
  · have e2 : ∀ (m : List Int), k < m.length → m[k]? = some (m.getD k 0) := fun m hm => by rw [List.getD_eq_getElem?_getD, List.getElem?_eq_getElem hm]; rfl
    have hx : k % W < W := Nat.mod_lt _ hW
    have hy : k / W < H := by rw [Nat.div_lt_iff_lt_mul hW]; exact hk
    have he : k / W * W + k % W = k := by rw [Nat.mul_comm]; exact Nat.div_add_mod _ _
    have h := flat_at W (grl W H l) _ _ hr (by rw [grl_len]; exact hy) hx
    rw [he, grl_at hx hy, he] at h
    rw [e2 _ (by rw [hfl, Nat.mul_comm]; exact hk), e2 _ (by rw [hl]; exact hk), h]
  · rw [List.getElem?_eq_none (by rw [hfl, Nat.mul_comm]; omega), List.getElem?_eq_none (by omega)]
theorem cutL_at {h : Int} {l : List Int} {k : Nat} (hk : k < l.length) : (cutL h l).getD k 0 = cutF h (l.getD k 0) := by
  unfold cutL
  rw [List.getD_eq_getElem?_getD, List.getElem?_map, List.getD_eq_getElem?_getD, List.getElem?_eq_getElem hk]
  rfl
theorem keep1S {w : World} {p p2 : Nat} {v x : Value} (h : p2 ≠ p) (k : w.cell? ⟨p2, 0, none⟩ = some x) : (w.setCell ⟨p, 0, none⟩ v).cell? ⟨p2, 0, none⟩ = some x :=
  (Wrote.setCell (S := fun k => k = p) (Wrote.refl _ _) (p := ⟨p, 0, none⟩) rfl v : Wrote _ w _).cell k h
set_option maxRecDepth 5000 in
set_option maxHeartbeats 800000 in
theorem cut1_any (p2 p3 : Nat) (a : Option Addr) (c : Nat) (A : Nat → Option Addr) (C : Nat → Nat) (m : List (List Int)) (h z : Int) (x y : Nat) (w : World) (hy : y < m.length) (hx : x < (m.getD y []).length) (hb1 : m.length ≤ 1000) (hb2 : (m.getD y []).length ≤ 1000) (hz : (m.getD y []).getD x 0 = z) (z0 : 0 ≤ z ∧ z ≤ 99) (h0 : 0 ≤ h ∧ h ≤ 99)
    (hp : w.cell? ⟨p2, 0, none⟩ = some (.slice a m.length c)) (hp3 : w.cell? ⟨p3, 0, none⟩ = some (.int .i64 h)) (hm : MatAt w a A C m) :
    Calls Try.prog 153 #[.agg #[.int .i64 x, .int .i64 y], .pointer (some ⟨p2, 0, none⟩), .pointer (some ⟨p3, 0, none⟩)] w fun e w' => e = .returned (.int .i64 (cutF h z)) ∧ w.Ext w' := by
  obtain ⟨W0, hW0⟩ : ∃ W0, W0 = w.alloc (.cells #[.int .i64 x, .int .i64 y] 36) := ⟨_, rfl⟩
  have hx0 : w.Ext W0 := by rw [hW0]; repeat (first | exact World.Ext.refl _ | exact ⟨_, rfl⟩ | assumption | refine World.Ext.over ?_ _ | refine World.Ext.drewN ?_ _ | refine World.Ext.drew ?_ | refine World.Ext.alloc ?_ _ | refine World.Ext.setCell ?_ (by simp) _)
  have d0 : W0.cell? ⟨w.heap.size, 0, none⟩ = some (.int .i64 x) := by rw [hW0]; simp [go_sem]
  have d1 : W0.cell? ⟨w.heap.size, 1, none⟩ = some (.int .i64 y) := by rw [hW0]; simp [go_sem]
  have d3 := hx0.cell hp3
  have l3 := World.block_lt_of_cell? _ _ d3
  have HAT : Hid (∀ x1, Calls Try.prog 154 #[.pointer (some ⟨p2, 0, none⟩), .agg #[.int .i64 x, .int .i64 y]] (W0.over x1) fun e w'' => e = .returned (.int .i64 z) ∧ (W0.over x1).Ext w'') := fun x1 => by
    have h := gAt_any p2 a c A C m x y (W0.over x1) hy hx (by omega) (by omega) (World.Ext.cell ⟨x1, rfl⟩ (hx0.cell hp)) ((hm.ext hx0).ext ⟨x1, rfl⟩)
    rw [hz] at h
    exact h
  have HX0 := Lib.hid hx0
  have hcf : (z - h < 0 ∧ cutF h z = 0) ∨ (0 < z - h ∧ cutF h z = z - h) ∨ (z - h = 0 ∧ cutF h z = 0) := by unfold cutF mxK; split <;> omega
  obtain ⟨z0, z1⟩ := z0
  obtain ⟨h0, h1⟩ := h0
  clear hm hp hp3 hx0 hz hx hy hb1 hb2
  rcases hcf with ⟨hc, hv⟩ | ⟨hc, hv⟩ | ⟨hc, hv⟩
  · rw [hv]
    clear hv
    go_enter Try.func153, Try.ntmps153
    go_wp2_with fail
    rw [← hW0]
    clear hW0
    refine wp_region_over_lit (by kernel_rfl) (by kernel_rfl) ?_; (repeat (go_big_quiet_step ((go_at_call 154; exact Calls.over_of (HAT.out _))))); refine wpQuiet_nil ?_; rintro _ ⟨x1, rfl⟩
    have HX : Hid (w.Ext (W0.over x1)) := HX0.out.trans ⟨x1, rfl⟩
    clear d0 d1 d3
    go_wp2
    go_ret
    exact ⟨rfl, HX.out⟩
  · rw [hv]
    clear hv
    go_enter Try.func153, Try.ntmps153
    go_wp2_with fail
    rw [← hW0]
    clear hW0
    refine wp_region_over_lit (by kernel_rfl) (by kernel_rfl) ?_; (repeat (go_big_quiet_step ((go_at_call 154; exact Calls.over_of (HAT.out _))))); refine wpQuiet_nil ?_; rintro _ ⟨x1, rfl⟩
    have HX : Hid (w.Ext (W0.over x1)) := HX0.out.trans ⟨x1, rfl⟩
    clear d0 d1 d3
    go_wp2
    go_ret
    exact ⟨rfl, HX.out⟩
  · rw [hv]
    clear hv
    go_enter Try.func153, Try.ntmps153
    go_wp2_with fail
    rw [← hW0]
    clear hW0
    refine wp_region_over_lit (by kernel_rfl) (by kernel_rfl) ?_; (repeat (go_big_quiet_step ((go_at_call 154; exact Calls.over_of (HAT.out _))))); refine wpQuiet_nil ?_; rintro _ ⟨x1, rfl⟩
    have HX : Hid (w.Ext (W0.over x1)) := HX0.out.trans ⟨x1, rfl⟩
    clear d0 d1 d3
    go_wp2
    go_ret
    exact ⟨rfl, HX.out⟩
theorem enters_cut1 : Enters 153 := enters_of Try.func153 (by kernel_rfl) (by kernel_rfl)
set_option maxRecDepth 5000 in
set_option maxHeartbeats 1600000 in
theorem implCut_any (a : Option Addr) (c : Nat) (A : Nat → Option Addr) (C : Nat → Nat) (m : List (List Int)) (h : Int) (res : List Int) (hR : CutO m h res) (w : World) (hb : MatBnd m) (hm : MatAt w a A C m) :
    Calls Try.prog 60 #[.agg #[.slice a m.length c], .int .i64 h] w (GreyRet2 w (optM (cutOk m h) (grl (m.getD 0 []).length m.length res)) (cutOk m h)) := by
  obtain ⟨W0, hW0⟩ : ∃ W0, W0 = ((w.alloc (.cells #[.slice a m.length c] 65)).alloc (.cells #[.int .i64 h] 2)).alloc (.cells #[.slice none 0 0] 65) := ⟨_, rfl⟩
  have hx0 : w.Ext W0 := by rw [hW0]; repeat (first | exact World.Ext.refl _ | exact ⟨_, rfl⟩ | assumption | refine World.Ext.over ?_ _ | refine World.Ext.drewN ?_ _ | refine World.Ext.drew ?_ | refine World.Ext.alloc ?_ _ | refine World.Ext.setCell ?_ (by simp) _)
  have d0 : W0.cell? ⟨w.heap.size, 0, none⟩ = some (.slice a m.length c) := by rw [hW0]; simp [go_sem]
  have d1 : W0.cell? ⟨w.heap.size + 1, 0, none⟩ = some (.int .i64 h) := by rw [hW0]; simp [go_sem]
  have hone : One W0 (w.heap.size + 1 + 1) 65 (.slice none 0 0) := by rw [hW0]; exact One.new _ _ _ _ (by simp)
  have HI : Hid (Calls Try.prog 150 #[.agg #[.slice a m.length c]] W0 fun e w' => e = .returned (.bool (tableOk m 99)) ∧ W0.Ext w') := validGrey_any a c A C m W0 hb.1 hb.2 (hm.ext hx0) _ rfl
  have HIN : Hid (∀ w', Calls Try.prog 116 #[.int .i64 h, .int .i64 0, .int .i64 99] w' fun e w'' => e = .returned (.bool (inB h 0 99)) ∧ w'.Ext w'') := fun w' => in_any _ _ _ w' _ rfl
  have HX0 := Lib.hid hx0
  have HO := Lib.hid hone
  have HD : Hid (∀ w', W0.Ext w' → w'.cell? ⟨w.heap.size, 0, none⟩ = some (.slice a m.length c) ∧ w'.cell? ⟨w.heap.size + 1, 0, none⟩ = some (.int .i64 h)) := fun w' hx => ⟨hx.cell d0, hx.cell d1⟩
  have hl0 : w.heap.size + 1 + 1 < W0.heap.size := hone.lt
  unfold CutO cutOk at hR
  unfold cutOk
  cases hok : tableOk m 99
  · rw [hok] at HI
    clear hb hm hx0 d0 d1 hone hok hR HIN
    show Calls _ _ _ _ (GreyRet2 w [] false)
    go_enter Try.func60, Try.ntmps60
    go_wp2_with fail
    rw [← hW0]
    refine HI.out.mono ?_
    rintro e w1 ⟨rfl, hx1⟩
    obtain ⟨r1, r2, r3, HR⟩ := Res.storeM (lo := w.heap.size + 3) (.slice none 0 0) (HX0.out.trans hx1) (by omega) (HO.out.ext hx1) (by omega) (OwnMat.none _ _ _ none)
    clear hx1 hW0
    go_wp2
    exact bodyPost_ret (v := .tuple #[.agg #[.slice none 0 0], .bool false]) (by simp [results, Try.results60, go_sem, r3]) rfl (GreyRet2.no HR.out.1)
  · rw [hok] at HI
    cases hin : inB h 0 99
    · rw [hin] at HIN
      clear hb hm hx0 d0 d1 hone hok hR hin
      show Calls _ _ _ _ (GreyRet2 w [] false)
      go_enter Try.func60, Try.ntmps60
      go_wp2_with fail
      rw [← hW0]
      refine HI.out.mono ?_
      rintro e w1 ⟨rfl, hx1⟩
      obtain ⟨d0, d1⟩ := HD.out w1 hx1
      go_wp2_with fail
      refine (HIN.out w1).mono ?_
      rintro e w2 ⟨rfl, hx2⟩
      obtain ⟨r1, r2, r3, HR⟩ := Res.storeM (lo := w.heap.size + 3) (.slice none 0 0) (HX0.out.trans (hx1.trans hx2)) (by omega) (HO.out.ext (hx1.trans hx2)) (by omega) (OwnMat.none _ _ _ none)
      clear hx1 hx2 hW0 d0 d1
      go_wp2
      exact bodyPost_ret (v := .tuple #[.agg #[.slice none 0 0], .bool false]) (by simp [results, Try.results60, go_sem, r3]) rfl (GreyRet2.no HR.out.1)
    · rw [hin] at HIN
      obtain ⟨v1, v2, v3, v4, v5, v6⟩ := tableOk_spec hok
      obtain ⟨h0, h1⟩ := inB_true.1 hin
      have hRR := hR (by rw [hok, hin]; rfl)
      have hfl : m.flatten.length = m.length * (m.getD 0 []).length := by rw [flat_len _ m v5, Nat.mul_comm]
      have hcl : (cutL h m.flatten).length = m.length * (m.getD 0 []).length := by unfold cutL; rw [List.length_map, hfl]
      have hUn : Under m.flatten (cutL h m.flatten) := cut_under h0 fun k hk => (flat_get hok hk).1
      have HRM : Hid (∀ w', W0.Ext w' → Calls Try.prog 152 #[.pointer (some ⟨w.heap.size, 0, none⟩), .func (.func 153) #[] #[.pointer (some ⟨w.heap.size, 0, none⟩), .pointer (some ⟨w.heap.size + 1, 0, none⟩)]] w' (GreyRet w' (grl (m.getD 0 []).length m.length (cutL h m.flatten)))) := fun w' hx =>
        remadeF_any w.heap.size 0 a c A C m 153 #[.pointer (some ⟨w.heap.size, 0, none⟩), .pointer (some ⟨w.heap.size + 1, 0, none⟩)] (flG (m.getD 0 []).length (cutL h m.flatten)) w' (by omega) (by omega) (by omega) enters_cut1 (hx.cell d0) ((hm.ext hx0).ext hx)
          (fun w'' hx' x y hxW hyH => by
            have hk : y * (m.getD 0 []).length + x < m.flatten.length := by
              rw [hfl]
              have := Nat.mul_le_mul_right (m.getD 0 []).length (show y + 1 ≤ m.length by omega)
              rw [Nat.succ_mul] at this
              omega
            have hv : flG (m.getD 0 []).length (cutL h m.flatten) x y = cutF h ((m.getD y []).getD x 0) := by
              show (cutL h m.flatten).getD _ 0 = _
              rw [cutL_at hk, flat_at (m.getD 0 []).length m y x v5 hyH hxW]
            rw [hv]
            have hvy := v5 y hyH
            exact cut1_any _ _ a c A C m h _ x y w'' hyH (by omega) (by omega) (by omega) rfl (v6 y x hyH (by omega)) ⟨h0, h1⟩ ((hx.trans hx').cell d0) ((hx.trans hx').cell d1) (((hm.ext hx0).ext hx).ext hx'))
      have HRC : Hid (∀ (w' : World) (a6 : Option Addr) (c6 : Nat) (A6 : Nat → Option Addr) (C6 : Nat → Nat), W0.Ext w' → MatAt w' a6 A6 C6 (grl (m.getD 0 []).length m.length (cutL h m.flatten)) →
          Calls Try.prog 151 #[.agg #[.slice a6 m.length c6], .agg #[.slice a m.length c]] w' (GreyRet w' (grl (m.getD 0 []).length m.length res))) := fun w' a6 c6 A6 C6 hx hm6 => by
        have hgl := grl_len (m.getD 0 []).length m.length (cutL h m.flatten)
        have hff := grl_flatten (W := (m.getD 0 []).length) (H := m.length) (l := cutL h m.flatten) (by omega) hcl
        have h := reconstructed_any (m.getD 0 []).length m.length m.flatten.length a6 c6 A6 C6 (grl (m.getD 0 []).length m.length (cutL h m.flatten)) a c A C m res w' (by omega) (by omega) (by omega) (by omega) hfl hgl (fun r hr => grl_row hr) rfl v5
          (by rw [hff]; exact hUn) hm6 ((hm.ext hx0).ext hx) (by rw [hff]; exact hRR)
        rw [hgl] at h
        exact h
      have HGL : Hid (∀ l, (grl (m.getD 0 []).length m.length l).length = m.length) := fun l => grl_len _ _ _
      simp only [Bool.true_and]
      clear hb hm hx0 d0 d1 hone hok hR hin hRR hfl hcl hUn v5 v6
      show Calls _ _ _ _ (GreyRet2 w (grl (m.getD 0 []).length m.length res) true)
      generalize cutL h m.flatten = cl at *
      generalize (m.getD 0 []).length = W at *
      generalize m.length = H at *
      go_enter Try.func60, Try.ntmps60
      go_wp2_with fail
      rw [← hW0]
      clear hW0
      refine HI.out.mono ?_
      rintro e w1 ⟨rfl, hx1⟩
      obtain ⟨d0, d1⟩ := HD.out w1 hx1
      go_wp2_with fail
      refine (HIN.out w1).mono ?_
      rintro e w2 ⟨rfl, hx2⟩
      have HX2 := Lib.hid (hx1.trans hx2)
      clear hx1 hx2 d0 d1 HI HIN
      obtain ⟨c2, -⟩ := HD.out w2 HX2.out
      have l2 := World.block_lt_of_cell? _ _ c2
      go_wp2_with fail
      go_region_held3 (fun w' => w'.cell? ⟨w.heap.size, 0, none⟩ = some (.slice a H c))
        (first | exact hk8 | (refine World.Ext.cell ?_ c2 <;> ((repeat (first | exact World.Ext.refl _ | exact ⟨_, rfl⟩ | assumption | refine World.Ext.over ?_ _ | refine World.Ext.drewN ?_ _ | refine World.Ext.drew ?_ | refine World.Ext.alloc ?_ _ | refine World.Ext.setCell ?_ ?_ _ | (simp; done))); done)))
        (first
          | (go_at_call 152; go_loud (refine (HRM.out _ ?_).mono ?_; exact HX2.out.trans ((World.Ext.refl w2).drew); rintro e w6 ⟨a6, c6, A6, C6, rfl, hx6, hm6⟩; rw [HGL.out]; have E6 : w2.Ext w6 := ((World.Ext.refl w2).drew).trans hx6; have HM6 := Lib.hid hm6.mat; clear hx6 hm6))
          | (go_at_call 151; go_loud (refine (HRC.out _ a6 c6 A6 C6 (HX2.out.trans E6) HM6.out).mono ?_; rintro e w7 ⟨a7, c7, A7, C7, rfl, hx7, ho7⟩; rw [HGL.out]; have E7 : w2.Ext w7 := E6.trans hx7; obtain ⟨r1, r2, r3, HR⟩ := Res.storeM (.slice a7 H c7) (HX0.out.trans (HX2.out.trans E7)) (by omega) (HO.out.ext (HX2.out.trans E7)) (Nat.lt_of_lt_of_le hl0 (Nat.le_trans HX2.out.size E6.size)) ho7; have hk8 := keep1S (v := .slice a7 H c7) (show w.heap.size ≠ w.heap.size + 1 + 1 by omega) (E7.cell c2); clear hx7 ho7)))
      go_wp2
      exact bodyPost_ret (v := .tuple #[.agg #[.slice a7 H c7], .bool true]) (by simp [results, Try.results60, go_sem, r3]) rfl ⟨a7, c7, A7, C7, by rw [HGL.out], HR.out.1, HR.out.2⟩
theorem cut_bnd (m : List (List Int)) (h : Int) (l : List Int) : MatBnd (optM (cutOk m h) (grl (m.getD 0 []).length m.length l)) ∧ offM (optM (cutOk m h) (grl (m.getD 0 []).length m.length l)) (optM (cutOk m h) (grl (m.getD 0 []).length m.length l)).length ≤ 1048576 := by
  cases hc : cutOk m h
  · exact ⟨⟨by simp [optM], fun r => by simp [optM]⟩, by simp [optM, offM]⟩
  · unfold cutOk at hc
    rw [Bool.and_eq_true] at hc
    obtain ⟨v1, v2, v3, v4, -, -⟩ := tableOk_spec hc.1
    exact optM_bnd true _ _ _ (by omega) (by omega)
end Go.Proofs.Ytlcofjicpbbdhaa
