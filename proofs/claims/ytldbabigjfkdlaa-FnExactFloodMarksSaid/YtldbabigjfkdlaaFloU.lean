/- FloodMarks: the reference. -/
import Derived.Test.YtldbabigjfkdlaaFloT
import Derived.Test.YtldbabigjfkdlaaDepF
import Derived.Deep.RegionHeld3
namespace Go.Proofs.Ytldbabigjfkdlaa
open Go Go.RowKit
def sizeOk3 (m1 m2 : List (List Int)) : Bool := decide (m1.length = m2.length) && decide ((m1.getD 0 []).length = (m2.getD 0 []).length)
def anyPos (l : List Int) : Bool := l.any fun z => decide (0 < z)
def fldOk (m q : List (List Int)) : Bool := tableOk m 99 && (tableOk q 9 && (sizeOk3 q m && anyPos q.flatten))
def FldO (m q : List (List Int)) (res : List Int) : Prop := fldOk m q = true → FloR (m.getD 0 []).length m.length m.flatten (floStart q.flatten m.flatten) res
theorem flat_get9 {m : List (List Int)} {z : Int} (hok : tableOk m z = true) (k : Nat) : 0 ≤ m.flatten.getD k 0 := by
  obtain ⟨v1, v2, v3, v4, v5, v6⟩ := tableOk_spec hok
  by_cases hk : k < m.flatten.length
  · have hl := flat_len (m.getD 0 []).length m v5
    have hW : 0 < (m.getD 0 []).length := by omega
    have hx : k % (m.getD 0 []).length < (m.getD 0 []).length := Nat.mod_lt _ hW
    have hy : k / (m.getD 0 []).length < m.length := by rw [Nat.div_lt_iff_lt_mul hW, Nat.mul_comm]; omega
    have he : k / (m.getD 0 []).length * (m.getD 0 []).length + k % (m.getD 0 []).length = k := by rw [Nat.mul_comm]; exact Nat.div_add_mod _ _
    have h := flat_at (m.getD 0 []).length m _ _ v5 hy hx
    rw [he] at h
    rw [h]
    exact (v6 _ _ hy (by rw [v5 _ hy]; exact hx)).1
  · rw [List.getD_eq_getElem?_getD, List.getElem?_eq_none (by omega)]
    simp
theorem fld_start {m q : List (List Int)} (_ : tableOk m 99 = true) (h2 : tableOk q 9 = true) (hs : sizeOk3 q m = true) : FloI (m.getD 0 []).length m.length (floStart q.flatten m.flatten) := by
  unfold sizeOk3 at hs
  rw [Bool.and_eq_true, decide_eq_true_iff, decide_eq_true_iff] at hs
  refine FloI.start ?_ fun k => flat_get9 h2 k
  rw [flat_len _ q (tableOk_spec h2).2.2.2.2.1, hs.1, hs.2, Nat.mul_comm]
theorem FldO.ex (m q : List (List Int)) : ∃ res, FldO m q res := by
  by_cases hc : fldOk m q = true
  · have hc2 := hc
    unfold fldOk at hc2
    rw [Bool.and_eq_true, Bool.and_eq_true, Bool.and_eq_true] at hc2
    obtain ⟨res, hr⟩ := FloR.ex (nums := m.flatten) _ (fld_start hc2.1 hc2.2.1 hc2.2.2.1) (Nat.le_refl _)
    exact ⟨res, fun _ => hr⟩
  · exact ⟨[], fun h2 => absurd h2 hc⟩
theorem fld_bnd (m q : List (List Int)) (l : List Int) : MatBnd (optM (fldOk m q) (grl (m.getD 0 []).length m.length l)) ∧ offM (optM (fldOk m q) (grl (m.getD 0 []).length m.length l)) (optM (fldOk m q) (grl (m.getD 0 []).length m.length l)).length ≤ 1048576 := by
  cases hc : fldOk m q
  · exact ⟨⟨by simp [optM], fun r => by simp [optM]⟩, by simp [optM, offM]⟩
  · unfold fldOk at hc
    rw [Bool.and_eq_true] at hc
    obtain ⟨v1, v2, v3, v4, -, -⟩ := tableOk_spec hc.1
    exact optM_bnd true _ _ _ (by omega) (by omega)
/-- Is one of the first k above nothing? -/
def anyTo (l : List Int) (k : Nat) : Bool := anyPos (l.take k)
theorem anyTo_succ {l : List Int} {k : Nat} (h : k < l.length) : anyTo l (k + 1) = (anyTo l k || decide (0 < l.getD k 0)) := by
  unfold anyTo anyPos
  rw [List.take_succ_eq_append_getElem h, List.any_append, List.getD_eq_getElem?_getD, List.getElem?_eq_getElem h]
  simp
set_option maxRecDepth 5000 in
set_option maxHeartbeats 1600000 in
theorem specFlood_any (a : Option Addr) (c : Nat) (A : Nat → Option Addr) (C : Nat → Nat) (m : List (List Int)) (a' : Option Addr) (c' : Nat) (A' : Nat → Option Addr) (C' : Nat → Nat) (q : List (List Int)) (res : List Int) (hR : FldO m q res) (w : World) (hb : MatBnd m) (hbq : MatBnd q) (hm : MatAt w a A C m) (hmq : MatAt w a' A' C' q) :
    Calls Try.prog 33 #[.agg #[.slice a m.length c], .slice a' q.length c'] w (MatRet2 w (optM (fldOk m q) (grl (m.getD 0 []).length m.length res)) (fldOk m q)) := by
  obtain ⟨W0, hW0⟩ : ∃ W0, W0 = w.alloc (.cells #[.slice a m.length c] 45) := ⟨_, rfl⟩
  have hx0 : w.Ext W0 := by rw [hW0]; repeat (first | exact World.Ext.refl _ | exact ⟨_, rfl⟩ | assumption | refine World.Ext.over ?_ _ | refine World.Ext.drewN ?_ _ | refine World.Ext.drew ?_ | refine World.Ext.alloc ?_ _ | refine World.Ext.setCell ?_ (by simp) _)
  have d0 : W0.cell? ⟨w.heap.size, 0, none⟩ = some (.slice a m.length c) := by rw [hW0]; simp [go_sem]
  have HI : Hid (∀ w', W0.Ext w' → Calls Try.prog 112 #[.pointer (some ⟨w.heap.size, 0, none⟩)] w' fun e w'' => e = .returned (.bool (tableOk m 99)) ∧ w'.Ext w'') := fun w' hx => l07Is_any _ a c A C m w' hb.1 hb.2 (hx.cell d0) ((hm.ext hx0).ext hx) _ rfl
  have HJ : Hid (∀ w', W0.Ext w' → Calls Try.prog 113 #[.slice a' q.length c', .int .i64 9] w' fun e w'' => e = .returned (.bool (tableOk q 9)) ∧ w'.Ext w'') := fun w' hx => l07Table_any a' c' A' C' q 9 w' hbq.1 hbq.2 ((hmq.ext hx0).ext hx)
  have HX0 := Lib.hid hx0
  have l0 := World.block_lt_of_cell? _ _ d0
  unfold FldO fldOk at hR
  unfold fldOk
  cases hok : tableOk m 99
  · rw [hok] at HI
    clear hb hbq hm hmq hx0 hok hR HJ
    show Calls _ _ _ _ (MatRet2 w [] false)
    go_enter Try.func33, Try.ntmps33
    go_wp2_with fail
    rw [← hW0]
    clear hW0
    refine wp_region_over_lit (by kernel_rfl) (by kernel_rfl) ?_; (repeat (go_big_quiet_step ((go_at_call 112; exact Calls.over_of (HI.out _ ⟨_, rfl⟩))))); refine wpQuiet_nil ?_; rintro _ ⟨x1, rfl⟩
    have HX1 : Hid (w.Ext (W0.over x1)) := HX0.out.trans ⟨x1, rfl⟩
    clear d0 l0 HI
    go_wp2
    go_ret2
    exact MatRet2.no HX1.out
  · rw [hok] at HI
    cases hoq : tableOk q 9
    · rw [hoq] at HJ
      clear hb hbq hm hmq hx0 hok hoq hR
      show Calls _ _ _ _ (MatRet2 w [] false)
      go_enter Try.func33, Try.ntmps33
      go_wp2_with fail
      rw [← hW0]
      clear hW0
      refine wp_region_over_lit (by kernel_rfl) (by kernel_rfl) ?_; (repeat (go_big_quiet_step ((first | (go_at_call 112; exact Calls.over_of (HI.out _ ⟨_, rfl⟩)) | (go_at_call 113; exact Calls.over_of (HJ.out _ ⟨_, rfl⟩)))))); refine wpQuiet_nil ?_; rintro _ ⟨x1, rfl⟩
      have HX1 : Hid (w.Ext (W0.over x1)) := HX0.out.trans ⟨x1, rfl⟩
      clear d0 l0 HI HJ
      go_wp2
      go_ret2
      exact MatRet2.no HX1.out
    · rw [hoq] at HJ
      obtain ⟨v1, v2, v3, v4, v5, v6⟩ := tableOk_spec hok
      obtain ⟨u1, u2, u3, u4, u5, u6⟩ := tableOk_spec hoq
      have HWD := Lib.hid (fun w' (hx : W0.Ext w') => l07Width_any w.heap.size a c A C m w' (by omega) (hx.cell d0) ((hm.ext hx0).ext hx))
      have hfl : m.flatten.length = m.length * (m.getD 0 []).length := by rw [flat_len _ m v5, Nat.mul_comm]
      have hfq : q.flatten.length = q.length * (q.getD 0 []).length := by rw [flat_len _ q u5, Nat.mul_comm]
      have HLI := Lib.hid (fun w' (hx : W0.Ext w') => l07List_any a c A C m w' (by omega) (fun r hr => by rw [v5 r hr]; omega) (by rw [hfl]; exact Nat.le_trans (Nat.mul_le_mul v2 v4) (by omega)) ((hm.ext hx0).ext hx))
      have HLQ := Lib.hid (fun w' (hx : W0.Ext w') => l07List_any a' c' A' C' q w' (by omega) (fun r hr => by rw [u5 r hr]; omega) (by rw [hfq]; exact Nat.le_trans (Nat.mul_le_mul u2 u4) (by omega)) ((hmq.ext hx0).ext hx))
      have HRR : Hid (sizeOk3 q m = true → anyPos q.flatten = true → FloR (m.getD 0 []).length m.length m.flatten (floStart q.flatten m.flatten) res) := fun h1 h2 => hR (by rw [hok, hoq, h1, h2]; rfl)
      have HLS : Hid (sizeOk3 q m = true → FloI (m.getD 0 []).length m.length (floStart q.flatten m.flatten)) := fun h1 => fld_start hok hoq h1
      have HNN := Lib.hid (fun k => flat_get9 hoq k)
      have HFL := Lib.hid hfl
      have HFQ := Lib.hid hfq
      have HGL : Hid ((grl (m.getD 0 []).length m.length res).length = m.length) := grl_len _ _ _
      have HSZ : Hid (sizeOk3 q m = (decide (q.length = m.length) && decide ((q.getD 0 []).length = (m.getD 0 []).length))) := rfl
      have HANY : Hid (anyTo q.flatten q.flatten.length = anyPos q.flatten) := by show _ = _; unfold anyTo; rw [List.take_length]
      have HAS := Lib.hid (fun k (hk : k < q.flatten.length) => anyTo_succ hk)
      have HA0 : Hid (anyTo q.flatten 0 = false) := rfl
      obtain ⟨⟨b0, o0, rfl, hc0⟩, -⟩ := hm 0 (by omega)
      obtain ⟨⟨b1, o1, rfl, hc1⟩, -⟩ := hmq 0 (by omega)
      have c0' := hx0.cell hc0
      have c1' := hx0.cell hc1
      simp only [Bool.true_and]
      rw [Nat.add_zero] at c0' c1'
      clear hb hbq hm hmq hx0 hok hoq hR hfl hfq v5 v6 u5 u6 hc0 hc1
      generalize sizeOk3 q m = sz at *
      generalize anyTo q.flatten = AT at *
      generalize anyPos q.flatten = ap at *
      generalize m.flatten = mk at *
      generalize q.flatten = qk at *
      generalize (m.getD 0 []).length = W at *
      generalize (q.getD 0 []).length = V at *
      generalize m.length = H at *
      generalize q.length = G at *
      have hG0 : (0 : Int) < (G : Int) := by omega
      have hH0 : (0 : Int) < (H : Int) := by omega
      by_cases hGH : G = H
      · by_cases hVW : V = W
        · have fGH : ((G : Int) != (H : Int)) = false := by rw [hGH]; simp
          have fVW : ((V : Int) != (W : Int)) = false := by rw [hVW]; simp
          have hsz : sz = true := by rw [HSZ.out, hGH, hVW]; simp
          subst hsz
          have HGH := Lib.hid hGH
          have HVW := Lib.hid hVW
          clear hGH hVW HSZ
          simp only [Bool.true_and]
          obtain ⟨n, hn⟩ : ∃ n, n = qk.length := ⟨_, rfl⟩
          have hnm : n = mk.length := by rw [hn, HFQ.out, HFL.out, HGH.out, HVW.out]
          have hn0 : 0 < n := by rw [hnm, HFL.out]; exact Nat.mul_pos v1 v3
          have hn4 : n ≤ 256 := by rw [hnm, HFL.out]; exact Nat.mul_le_mul v2 v4
          rw [← hn] at HLQ HFQ HANY HAS
          rw [← hnm] at HLI HFL
          have HN := Lib.hid hn
          have HNM := Lib.hid hnm
          clear hn hnm
          have HC0 : Hid (∀ w', W0.Ext w' → w'.cell? ⟨w.heap.size, 0, none⟩ = some (.slice (some ⟨b0, o0, none⟩) H c)) := fun w' hx => hx.cell d0
          go_enter Try.func33, Try.ntmps33
          go_wp2_with fail
          rw [← hW0]
          clear hW0
          refine wp_region_over_lit (by kernel_rfl) (by kernel_rfl) ?_; (repeat (go_big_quiet_step ((first | (go_at_call 112; exact Calls.over_of (HI.out _ ⟨_, rfl⟩)) | (go_at_call 113; exact Calls.over_of (HJ.out _ ⟨_, rfl⟩)))))); refine wpQuiet_nil ?_; rintro _ ⟨x1, rfl⟩
          have HX1 : Hid (W0.Ext (W0.over x1)) := ⟨x1, rfl⟩
          clear d0 l0 HI HJ c0' c1'
          generalize W0.over x1 = w1 at *
          go_wp2_with fail
          refine (HLQ.out w1 HX1.out).mono ?_
          rintro e w2 ⟨a6, c6, rfl, hx2, ho2, -⟩
          obtain ⟨b6, o6, rfl, -⟩ := ho2.row 0 (by rw [← HN.out]; exact hn0)
          have HX2 := Lib.hid (HX1.out.trans hx2)
          have HR6 := Lib.hid ho2.row
          clear hx2 ho2 HX1 HLQ
          go_wp2
          go_loopw [7, 40] (fun t i wr => ∃ k : Nat, k ≤ n ∧ i = .int .i64 k ∧ t = .bool (AT k) ∧ Hid (w2.Ext wr)) (fun _ i _ => n - (intOf i).toNat)
          case atStart => exact ⟨0, Nat.zero_le _, rfl, by rw [HA0.out], .refl _⟩
          case round =>
            obtain ⟨k, hk, rfl, rfl, HX⟩ := hrel
            obtain ⟨w3, rfl⟩ : ∃ w3 : World, w3 = wr := ⟨_, rfl⟩
            by_cases hltk : k < n
            · have hltk' : (k : Int) < (n : Int) := by omega
              have hk0 : (0 : Int) ≤ (k : Int) := by omega
              obtain ⟨b6', o6', ek, hck⟩ := HR6.out k (by rw [← HN.out]; exact hltk)
              simp only [Option.some.injEq, Addr.mk.injEq, and_true] at ek
              obtain ⟨rfl, rfl⟩ := ek
              have hck := HX.out.cell hck
              have HAK := Lib.hid (HAS.out k hltk)
              generalize hz : qk.getD k 0 = z at *
              have HZ := Lib.hid hz
              clear hz
              by_cases hp : 0 < z
              · cases hb : AT k
                · have HB : Hid (AT (k + 1) = true) := by show _ = _; rw [HAK.out, decide_eq_true hp, Bool.or_true]
                  clear HAK hb
                  go_wp2
                  go_roundw
                  case rel => exact ⟨k + 1, by omega, by go_num, by rw [HB.out], HX⟩
                  case measure => simp [intOf]; omega
                · have HB : Hid (AT (k + 1) = true) := by show _ = _; rw [HAK.out, hb, Bool.true_or]
                  clear HAK hb
                  go_wp2
                  go_roundw
                  case rel => exact ⟨k + 1, by omega, by go_num, by rw [HB.out], HX⟩
                  case measure => simp [intOf]; omega
              · cases hb : AT k
                · have HB : Hid (AT (k + 1) = false) := by show _ = _; rw [HAK.out, hb, decide_eq_false hp]; rfl
                  clear HAK hb
                  go_wp2
                  go_roundw
                  case rel => exact ⟨k + 1, by omega, by go_num, by rw [HB.out], HX⟩
                  case measure => simp [intOf]; omega
                · have HB : Hid (AT (k + 1) = true) := by show _ = _; rw [HAK.out, hb, Bool.true_or]
                  clear HAK hb
                  go_wp2
                  go_roundw
                  case rel => exact ⟨k + 1, by omega, by go_num, by rw [HB.out], HX⟩
                  case measure => simp [intOf]; omega
            · have hke : k = n := by omega
              have HAP : Hid (AT k = ap) := by show _ = _; rw [hke]; exact HANY.out
              rw [HAP.out]
              clear HAP hke HAS HA0 HANY
              have HX3 := Lib.hid (HX2.out.trans HX.out)
              have HXW := Lib.hid (HX0.out.trans HX3.out)
              cases ap
              · show _
                clear HRR HLS
                go_wp2
                go_ret2
                exact MatRet2.no HXW.out
              · have HRF := Lib.hid (HRR.out (by simp) (by simp))
                have HIS := Lib.hid (HLS.out (by simp))
                have hc3 := HC0.out w3 HX3.out
                have l3 := World.block_lt_of_cell? _ _ hc3
                have HR3 : Hid (RowI w3 (some ⟨b6, o6, none⟩) qk) := RowOf.ext HR6.out HX.out
                have hlr : res.length = n := by
                  have h := FloR.len HIS.out HRF.out
                  rw [h, HFL.out]
                have HLR := Lib.hid hlr
                clear hlr HRR HLS HC0 HX2 HX HR6
                go_wp2_with fail
                go_region_held3 (fun w' => w'.cell? ⟨w.heap.size, 0, none⟩ = some (.slice (some ⟨b0, o0, none⟩) H c))
                  (first | (refine World.Ext.cell ?_ c8 <;> ((repeat (first | exact World.Ext.refl _ | exact ⟨_, rfl⟩ | assumption | refine World.Ext.over ?_ _ | refine World.Ext.drewN ?_ _ | refine World.Ext.drew ?_ | refine World.Ext.alloc ?_ _ | refine World.Ext.setCell ?_ ?_ _ | (simp; done))); done)) | (refine World.Ext.cell ?_ c7 <;> ((repeat (first | exact World.Ext.refl _ | exact ⟨_, rfl⟩ | assumption | refine World.Ext.over ?_ _ | refine World.Ext.drewN ?_ _ | refine World.Ext.drew ?_ | refine World.Ext.alloc ?_ _ | refine World.Ext.setCell ?_ ?_ _ | (simp; done))); done)) | (refine World.Ext.cell ?_ c6' <;> ((repeat (first | exact World.Ext.refl _ | exact ⟨_, rfl⟩ | assumption | refine World.Ext.over ?_ _ | refine World.Ext.drewN ?_ _ | refine World.Ext.drew ?_ | refine World.Ext.alloc ?_ _ | refine World.Ext.setCell ?_ ?_ _ | (simp; done))); done)) | (refine World.Ext.cell ?_ c5 <;> ((repeat (first | exact World.Ext.refl _ | exact ⟨_, rfl⟩ | assumption | refine World.Ext.over ?_ _ | refine World.Ext.drewN ?_ _ | refine World.Ext.drew ?_ | refine World.Ext.alloc ?_ _ | refine World.Ext.setCell ?_ ?_ _ | (simp; done))); done)) | (refine World.Ext.cell ?_ c4 <;> ((repeat (first | exact World.Ext.refl _ | exact ⟨_, rfl⟩ | assumption | refine World.Ext.over ?_ _ | refine World.Ext.drewN ?_ _ | refine World.Ext.drew ?_ | refine World.Ext.alloc ?_ _ | refine World.Ext.setCell ?_ ?_ _ | (simp; done))); done)) | (refine World.Ext.cell ?_ hc3 <;> ((repeat (first | exact World.Ext.refl _ | exact ⟨_, rfl⟩ | assumption | refine World.Ext.over ?_ _ | refine World.Ext.drewN ?_ _ | refine World.Ext.drew ?_ | refine World.Ext.alloc ?_ _ | refine World.Ext.setCell ?_ ?_ _ | (simp; done))); done)))
                  (first
                    | (go_at_call 115; go_loud (refine (HWD.out _ (HX3.out.trans (E4.trans (by repeat (first | exact World.Ext.refl _ | exact ⟨_, rfl⟩ | assumption | refine World.Ext.over ?_ _ | refine World.Ext.drewN ?_ _ | refine World.Ext.drew ?_ | refine World.Ext.alloc ?_ _ | refine World.Ext.setCell ?_ (by simp) _))))).mono ?_; rintro e w5 ⟨rfl, hx5⟩; have E5 : w3.Ext w5 := (E4.trans (by repeat (first | exact World.Ext.refl _ | exact ⟨_, rfl⟩ | assumption | refine World.Ext.over ?_ _ | refine World.Ext.drewN ?_ _ | refine World.Ext.drew ?_ | refine World.Ext.alloc ?_ _ | refine World.Ext.setCell ?_ (by simp) _))).trans hx5; have c5 := E5.cell hc3; clear hx5))
                    | (go_at_call 115; go_loud (refine (HWD.out _ (HX3.out.trans (by repeat (first | exact World.Ext.refl _ | exact ⟨_, rfl⟩ | assumption | refine World.Ext.over ?_ _ | refine World.Ext.drewN ?_ _ | refine World.Ext.drew ?_ | refine World.Ext.alloc ?_ _ | refine World.Ext.setCell ?_ (by simp) _)))).mono ?_; rintro e w4 ⟨rfl, hx4⟩; have E4 : w3.Ext w4 := World.Ext.trans (by repeat (first | exact World.Ext.refl _ | exact ⟨_, rfl⟩ | assumption | refine World.Ext.over ?_ _ | refine World.Ext.drewN ?_ _ | refine World.Ext.drew ?_ | refine World.Ext.alloc ?_ _ | refine World.Ext.setCell ?_ (by simp) _)) hx4; have c4 := E4.cell hc3; clear hx4))
                    | (go_at_call 114; go_loud (refine (HLI.out _ (HX3.out.trans (E5.trans (by repeat (first | exact World.Ext.refl _ | exact ⟨_, rfl⟩ | assumption | refine World.Ext.over ?_ _ | refine World.Ext.drewN ?_ _ | refine World.Ext.drew ?_ | refine World.Ext.alloc ?_ _ | refine World.Ext.setCell ?_ (by simp) _))))).mono ?_; rintro e w6 ⟨a8, c8x, rfl, hx6, ho6, -⟩; obtain ⟨b8, o8, rfl, -⟩ := ho6.row 0 (by rw [← HNM.out]; exact hn0); have E6 : w3.Ext w6 := (E5.trans (by repeat (first | exact World.Ext.refl _ | exact ⟨_, rfl⟩ | assumption | refine World.Ext.over ?_ _ | refine World.Ext.drewN ?_ _ | refine World.Ext.drew ?_ | refine World.Ext.alloc ?_ _ | refine World.Ext.setCell ?_ (by simp) _))).trans hx6; have c6' := E6.cell hc3; have HR8 := Lib.hid ho6.row; clear hx6 ho6))
                    | (go_at_call 116; go_loud (refine (l07Flood_any W H n b8 o8 c8x b6 o6 c6 mk qk res _ (by omega) (by omega) (by omega) (by omega) HFL.out HNM.out.symm HN.out.symm HNN.out (RowOf.ext HR8.out (by repeat (first | exact World.Ext.refl _ | exact ⟨_, rfl⟩ | assumption | refine World.Ext.over ?_ _ | refine World.Ext.drewN ?_ _ | refine World.Ext.drew ?_ | refine World.Ext.alloc ?_ _ | refine World.Ext.setCell ?_ (by simp) _))) (RowOf.ext HR3.out (E6.trans (by repeat (first | exact World.Ext.refl _ | exact ⟨_, rfl⟩ | assumption | refine World.Ext.over ?_ _ | refine World.Ext.drewN ?_ _ | refine World.Ext.drew ?_ | refine World.Ext.alloc ?_ _ | refine World.Ext.setCell ?_ (by simp) _)))) HRF.out).mono ?_; rintro e w7 ⟨g7, cap7, rfl, hx7, hg7⟩; have E7 : w3.Ext w7 := (E6.trans (by repeat (first | exact World.Ext.refl _ | exact ⟨_, rfl⟩ | assumption | refine World.Ext.over ?_ _ | refine World.Ext.drewN ?_ _ | refine World.Ext.drew ?_ | refine World.Ext.alloc ?_ _ | refine World.Ext.setCell ?_ (by simp) _))).trans hx7; have c7 := E7.cell hc3; have HRO : Hid (∀ w', w7.Ext w' → Calls Try.prog 102 #[.int .i64 W, .slice (some ⟨g7, 0, none⟩) n cap7] w' (MatRet w' (grl W H res))) := (fun w' hx' => by have hgx := hg7.ext hx'; have hcp : n ≤ cap7 := (by obtain ⟨a', c', e', hc'⟩ := hg7.form; simp only [Value.slice.injEq] at e'; obtain ⟨-, -, rfl⟩ := e'; rw [HLR.out] at hc'; exact hc'); have h := l07Rows_any g7 0 cap7 W H res w' (by omega) (by omega) (by omega) (by rw [HLR.out, HFL.out]) (by rw [HLR.out]; exact hcp) (GrowOf.own (n := n) (a := some ⟨g7, 0, none⟩) (cap := cap7) 0 hgx).row; rw [HLR.out] at h; exact h); clear hx7 hg7))
                    | (go_at_call 102; go_loud (refine (HRO.out _ (by repeat (first | exact World.Ext.refl _ | exact ⟨_, rfl⟩ | assumption | refine World.Ext.over ?_ _ | refine World.Ext.drewN ?_ _ | refine World.Ext.drew ?_ | refine World.Ext.alloc ?_ _ | refine World.Ext.setCell ?_ (by simp) _))).mono ?_; rintro e w8 ⟨a9, c9, A9, C9, rfl, hx8, hm8⟩; have E8 : w3.Ext w8 := (E7.trans (by repeat (first | exact World.Ext.refl _ | exact ⟨_, rfl⟩ | assumption | refine World.Ext.over ?_ _ | refine World.Ext.drewN ?_ _ | refine World.Ext.drew ?_ | refine World.Ext.alloc ?_ _ | refine World.Ext.setCell ?_ (by simp) _))).trans hx8; rw [HGL.out]; have c8 := E8.cell hc3; have hz8 : w.heap.size ≤ _ := Nat.le_trans HXW.out.size (Nat.le_trans E7.size (World.Ext.size (by repeat (first | exact World.Ext.refl _ | exact ⟨_, rfl⟩ | assumption | refine World.Ext.over ?_ _ | refine World.Ext.drewN ?_ _ | refine World.Ext.drew ?_ | refine World.Ext.alloc ?_ _ | refine World.Ext.setCell ?_ (by simp) _)))); have HM8 := Lib.hid (hm8.lower hz8); clear hx8 hm8)))
                have HFIN : Hid (MatRet2 w (grl W H res) true (.returned (.tuple #[.slice a9 H c9, .bool true])) w8) := by
                  have h : MatRet2 w (grl W H res) true (.returned (.tuple #[.slice a9 (grl W H res).length c9, .bool true])) w8 := MatRet2.yes ⟨a9, c9, A9, C9, rfl, HXW.out.trans E8, HM8.out⟩
                  rw [HGL.out] at h
                  exact h
                clear HM8 HRO E4 E5 E6 E7 E8 c4 c5 c6' c7 c8
                go_wp2
                go_ret2
                exact HFIN.out
        · have fGH : ((G : Int) != (H : Int)) = false := by rw [hGH]; simp
          have fVW : ((V : Int) != (W : Int)) = true := by rw [bne_iff_ne]; omega
          have hsz : sz = false := by rw [HSZ.out, decide_eq_false hVW, Bool.and_false]
          subst hsz
          clear hGH hVW HSZ HLS HRR
          show Calls _ _ _ _ (MatRet2 w [] false)
          go_enter Try.func33, Try.ntmps33
          go_wp2_with fail
          rw [← hW0]
          clear hW0
          refine wp_region_over_lit (by kernel_rfl) (by kernel_rfl) ?_; (repeat (go_big_quiet_step ((first | (go_at_call 112; exact Calls.over_of (HI.out _ ⟨_, rfl⟩)) | (go_at_call 113; exact Calls.over_of (HJ.out _ ⟨_, rfl⟩)))))); refine wpQuiet_nil ?_; rintro _ ⟨x1, rfl⟩
          have HX1 : Hid (w.Ext (W0.over x1)) := HX0.out.trans ⟨x1, rfl⟩
          clear d0 l0 HI HJ c0' c1'
          go_wp2
          go_ret2
          exact MatRet2.no HX1.out
      · have fGH : ((G : Int) != (H : Int)) = true := by rw [bne_iff_ne]; omega
        have hsz : sz = false := by rw [HSZ.out, decide_eq_false hGH, Bool.false_and]
        subst hsz
        clear hGH HSZ HLS HRR
        show Calls _ _ _ _ (MatRet2 w [] false)
        go_enter Try.func33, Try.ntmps33
        go_wp2_with fail
        rw [← hW0]
        clear hW0
        refine wp_region_over_lit (by kernel_rfl) (by kernel_rfl) ?_; (repeat (go_big_quiet_step ((first | (go_at_call 112; exact Calls.over_of (HI.out _ ⟨_, rfl⟩)) | (go_at_call 113; exact Calls.over_of (HJ.out _ ⟨_, rfl⟩)))))); refine wpQuiet_nil ?_; rintro _ ⟨x1, rfl⟩
        have HX1 : Hid (w.Ext (W0.over x1)) := HX0.out.trans ⟨x1, rfl⟩
        clear d0 l0 HI HJ c0' c1'
        go_wp2
        go_ret2
        exact MatRet2.no HX1.out
end Go.Proofs.Ytldbabigjfkdlaa
