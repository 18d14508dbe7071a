/- The program's ApartBy. -/
import Derived.Test.YtpdmfnndegcjjaaGwP
import Derived.Test.YtpdmfnndegcjjaaGenB
namespace Go.Proofs.Ytpdmfnndegcjjaa
open Go Go.RowKit
set_option maxRecDepth 5000 in
set_option maxHeartbeats 1600000 in
theorem apart_any (kind : Int) (a a' : Option Addr) (c c' : Nat) (ps qs : List (Int × Int)) (w : World) (hn : ps.length ≤ 4096) (hn' : qs.length ≤ 4096) (hq : 0 < qs.length) (hb : AllBox 40 ps) (hb' : AllBox 40 qs) (hr : RowP w a ps) (hr' : RowP w a' qs) :
    Calls Try.prog 204 #[.int .i64 kind, .slice a ps.length c, .slice a' qs.length c'] w fun e w' => e = .returned (.int .i64 (aprL kind ps qs)) ∧ w.Ext w' := by
  have HL : Hid (∀ (s : Int × Int) w', InBox 40 s → w.Ext w' → Calls Try.prog 203 #[.int .i64 kind, .agg #[.int .i64 s.1, .int .i64 s.2], .slice a' qs.length c'] w' (LeastRet w' (leastD (qs.map (farI kind s))))) := fun s w' hs hx => by
    obtain ⟨b1, b2, b3, b4⟩ := hs
    exact least_any kind s.1 s.2 a' c' qs w' hq (by omega) (hr'.ext hx) (fun i hi => by have := hb' i hi; unfold InBox at this; omega) (by omega) (by omega)
  have HB := Lib.hid hb
  have HR := Lib.hid hr
  have HA0 : Hid (aprL kind (ps.take 0) qs = 0) := rfl
  have HAS : Hid (∀ k, k < ps.length → aprL kind (ps.take (k + 1)) qs = mxI (aprL kind (ps.take k) qs) (leastD (qs.map (farI kind (ps.getD k (0, 0)))))) := fun k hk => by
    rw [List.take_succ_eq_append_getElem hk, aprL_snoc, List.getD_eq_getElem?_getD, List.getElem?_eq_getElem hk]
    rfl
  have HBD : Hid (∀ k, aprL kind (ps.take k) qs ≤ 20000 ∧ 0 ≤ aprL kind (ps.take k) qs) := fun k => by
    refine ⟨aprL_le (by decide) fun s hs => ?_, aprL_nn _ _ _⟩
    have h1 := allBox_mem hb (List.mem_of_mem_take hs)
    rcases leastF (kind := kind) (p := s) qs with ⟨e, h2⟩ | ⟨-, ⟨q, hq2, e⟩, -⟩
    · omega
    · have h2 := allBox_mem hb' hq2
      unfold InBox at h1 h2
      rw [← e]
      exact (farI_bd kind (by omega) (by omega) (by omega) (by omega)).2
  have HLD : Hid (∀ s, InBox 40 s → 0 ≤ leastD (qs.map (farI kind s))) := fun s _ => by
    rcases leastF (kind := kind) (p := s) qs with ⟨e, h2⟩ | ⟨h, -⟩
    · rw [e] at hq; simp at hq
    · exact h
  have HAE : Hid (aprL kind (ps.take ps.length) qs = aprL kind ps qs) := by show _ = _; rw [List.take_length]
  clear hb hb' hr hr'
  obtain ⟨A, hA⟩ : ∃ A : Nat → Int, A = fun k => aprL kind (ps.take k) qs := ⟨_, rfl⟩
  have HA0 : Hid (A 0 = 0) := by rw [hA]; exact HA0.out
  have HAS : Hid (∀ k, k < ps.length → A (k + 1) = mxI (A k) (leastD (qs.map (farI kind (ps.getD k (0, 0)))))) := by rw [hA]; exact HAS.out
  have HBD : Hid (∀ k, A k ≤ 20000 ∧ 0 ≤ A k) := by rw [hA]; exact HBD.out
  rw [← HAE.out]
  have HAE2 : Hid (aprL kind (ps.take ps.length) qs = A ps.length) := by rw [hA]; exact rfl
  rw [HAE2.out]
  clear hA HAE HAE2
  go_enter Try.func204, Try.ntmps204
  go_wp2
  go_loopw [7, 9, 10, 11, 14] (fun t _ _ _ i wr => ∃ k : Nat, k ≤ ps.length ∧ i = .int .i64 k ∧ t = .int .i64 (A k) ∧ Hid (w.Ext wr)) (fun _ _ _ _ i _ => ps.length - (intOf i).toNat)
  case atStart => exact ⟨0, Nat.zero_le _, rfl, by rw [HA0.out], .refl _⟩
  case round =>
    obtain ⟨k, hk, rfl, rfl, HX⟩ := hrel
    obtain ⟨wo, rfl⟩ : ∃ wo : World, wo = wr := ⟨_, rfl⟩
    have hk0 : (0 : Int) ≤ (k : Int) := by omega
    by_cases hlt : k < ps.length
    · have hlt' : (k : Int) < (ps.length : Int) := by omega
      obtain ⟨b1, o1, rfl, hc0, hc1⟩ := (HR.out.ext HX.out).at hlt
      have hbox := HB.out k hlt
      have HSK := Lib.hid (HAS.out k hlt)
      have hAk := HBD.out k
      have hld := HLD.out _ hbox
      generalize ps.getD k (0, 0) = s at *
      obtain ⟨x, y⟩ := s
      dsimp only at hc0 hc1
      obtain ⟨w3, hw3⟩ : ∃ w3, w3 = wo.alloc (.cells #[.int .i64 x, .int .i64 y] 90) := ⟨_, rfl⟩
      have hx3 : wo.Ext w3 := by rw [hw3]; repeat (first | exact World.Ext.refl _ | exact ⟨_, rfl⟩ | assumption | refine World.Ext.over ?_ _ | refine World.Ext.drewN ?_ _ | refine World.Ext.drew ?_ | refine World.Ext.alloc ?_ _ | refine World.Ext.setCell ?_ (by simp) _)
      have HX3 := Lib.hid (HX.out.trans hx3)
      have HC := Lib.hid (HL.out (x, y) w3 hbox HX3.out)
      generalize leastD (qs.map (farI kind (x, y))) = d at *
      clear hx3 hbox HX
      go_wp2_with fail
      rw [← hw3]
      clear hw3 hc0 hc1
      refine HC.out.mono ?_
      rintro e w4 ⟨j, rfl, hx4⟩
      have HX4 := Lib.hid (HX3.out.trans hx4)
      clear hx4 HC HX3
      go_wp2
      all_goals
        go_roundw
        case rel => exact ⟨k + 1, by omega, by go_num, by (congr 1; have h5 := HSK.out; unfold mxI at h5; split at h5 <;> omega), HX4⟩
        case measure => simp [intOf]; omega
    · have : k = ps.length := by omega
      subst this
      go_wp2
      go_ret
      exact ⟨rfl, HX.out⟩
def aprI (kind : Int) (ss tt : List ByteArray) : Int := mxI (aprL kind (spotsTo (picW ss) (picL ss) (ss.length * picW ss)) (spotsTo (picW tt) (picL tt) (tt.length * picW tt))) (aprL kind (spotsTo (picW tt) (picL tt) (tt.length * picW tt)) (spotsTo (picW ss) (picL ss) (ss.length * picW ss)))
def bothB (ss tt : List ByteArray) : Bool := decide (0 < (spotsTo (picW ss) (picL ss) (ss.length * picW ss)).length) && decide (0 < (spotsTo (picW tt) (picL tt) (tt.length * picW tt)).length)
set_option maxRecDepth 5000 in
set_option maxHeartbeats 1600000 in
theorem apartBy_any (a a' : Option Addr) (c c' : Nat) (ss tt : List ByteArray) (kind : Int) (w : World) (hl : likeP ss tt = true) (hk : inB kind 0 2 = true) (hb : PicBnd ss) (hb' : PicBnd tt) (hm : RowS w a ss) (hm' : RowS w a' tt) :
    Calls Try.prog 91 #[.agg #[.slice a ss.length c], .agg #[.slice a' tt.length c'], .int .i64 kind] w fun e w' => e = .returned (.tuple #[.int .i64 (if bothB ss tt then aprI kind ss tt else 0), .bool (bothB ss tt)]) ∧ w.Ext w' := by
  obtain ⟨W0, hW0⟩ : ∃ W0, W0 = (w.alloc (.cells #[.slice a ss.length c] 26)).alloc (.cells #[.slice a' tt.length c'] 26) := ⟨_, rfl⟩
  have hx0 : w.Ext W0 := by rw [hW0]; repeat (first | exact World.Ext.refl _ | exact ⟨_, rfl⟩ | assumption | refine World.Ext.over ?_ _ | refine World.Ext.drewN ?_ _ | refine World.Ext.drew ?_ | refine World.Ext.alloc ?_ _ | refine World.Ext.setCell ?_ (by simp) _)
  have HT : Hid (Calls Try.prog 98 #[.agg #[.slice a ss.length c], .agg #[.slice a' tt.length c']] W0 (TwoRet W0 ss tt true)) := by rw [← hl]; exact twoImages_any a c ss a' c' tt W0 hb hb' (hm.ext hx0) (hm'.ext hx0)
  have HK : Hid (∀ w', Calls Try.prog 192 #[.int .i64 kind] w' fun e w'' => e = .returned (.bool true) ∧ w'.Ext w'') := fun w' => kindOk_any kind w' true hk
  have HX0 := Lib.hid hx0
  obtain ⟨k1, k2, k3, k4⟩ := likeP_true hl
  obtain ⟨v1, v2, v3, v4, -, -⟩ := picOk_spec k1
  have HCN : Hid (∀ w' b ab, Img w' b ab (picW ss) ss.length (picL ss) → Calls Try.prog 152 #[.pointer (some ⟨b, 0, none⟩)] w' fun e w'' => e = .returned (.int .i64 (spotsTo (picW ss) (picL ss) (ss.length * picW ss)).length) ∧ w'.Ext w'') := fun w' b ab hI => count_any b ab _ _ _ w' (by omega) (by omega) hI
  have HCN2 : Hid (∀ w' b ab, Img w' b ab (picW tt) tt.length (picL tt) → Calls Try.prog 152 #[.pointer (some ⟨b, 0, none⟩)] w' fun e w'' => e = .returned (.int .i64 (spotsTo (picW tt) (picL tt) (tt.length * picW tt)).length) ∧ w'.Ext w'') := fun w' b ab hI => count_any b ab _ _ _ w' (by omega) (by omega) hI
  have HSP : Hid (∀ w' b ab, Img w' b ab (picW ss) ss.length (picL ss) → Calls Try.prog 100 #[.pointer (some ⟨b, 0, none⟩)] w' (PairsRet w' (spotsTo (picW ss) (picL ss) (ss.length * picW ss)))) := fun w' b ab hI => spots_any b ab _ _ _ w' (by omega) (by omega) hI
  have HSP2 : Hid (∀ w' b ab, Img w' b ab (picW tt) tt.length (picL tt) → Calls Try.prog 100 #[.pointer (some ⟨b, 0, none⟩)] w' (PairsRet w' (spotsTo (picW tt) (picL tt) (tt.length * picW tt)))) := fun w' b ab hI => spots_any b ab _ _ _ w' (by omega) (by omega) hI
  have hbx := spotsTo_box (picW ss) ss.length (picL ss) (by omega) (by omega)
  have hbx2 := spotsTo_box (picW tt) tt.length (picL tt) (by omega) (by omega)
  have hln : (spotsTo (picW ss) (picL ss) (ss.length * picW ss)).length ≤ 4096 := spotsTo_few (by omega) (by omega)
  have hln2 : (spotsTo (picW tt) (picL tt) (tt.length * picW tt)).length ≤ 4096 := spotsTo_few (by omega) (by omega)
  have HBX := Lib.hid hbx
  have HBX2 := Lib.hid hbx2
  clear hb hb' hm hm' hx0 hl hk k1 k2 k3 k4 v1 v2 v3 v4 hbx hbx2
  unfold aprI bothB
  generalize spotsTo (picW ss) (picL ss) (ss.length * picW ss) = ps at *
  generalize spotsTo (picW tt) (picL tt) (tt.length * picW tt) = qs at *
  have HAP : Hid (∀ w' x y x' y', 0 < qs.length → RowP w' x ps → RowP w' x' qs → Calls Try.prog 204 #[.int .i64 kind, .slice x ps.length y, .slice x' qs.length y'] w' fun e w'' => e = .returned (.int .i64 (aprL kind ps qs)) ∧ w'.Ext w'') := fun w' x y x' y' h h1 h2 => apart_any kind x x' y y' ps qs w' hln hln2 h HBX.out HBX2.out h1 h2
  have HAP2 : Hid (∀ w' x y x' y', 0 < ps.length → RowP w' x qs → RowP w' x' ps → Calls Try.prog 204 #[.int .i64 kind, .slice x qs.length y, .slice x' ps.length y'] w' fun e w'' => e = .returned (.int .i64 (aprL kind qs ps)) ∧ w'.Ext w'') := fun w' x y x' y' h h1 h2 => apart_any kind x x' y y' qs ps w' hln2 hln h HBX2.out HBX.out h1 h2
  obtain ⟨ok, hok⟩ : ∃ ok, ok = (decide (0 < ps.length) && decide (0 < qs.length)) := ⟨_, rfl⟩
  obtain ⟨res, hres⟩ : ∃ res : Int, res = if ok then mxI (aprL kind ps qs) (aprL kind qs ps) else 0 := ⟨_, rfl⟩
  rw [← hok, ← hres]
  have HOK := Lib.hid hok
  have HRES := Lib.hid hres
  clear hok hres
  go_enter Try.func91, Try.ntmps91
  go_wp2_with fail
  rw [← hW0]
  clear hW0
  refine HT.out.mono ?_
  rintro e w1 ⟨b, ab, b2, ab2, rfl, hx1, hi1, hi2⟩
  have HX1 := Lib.hid (HX0.out.trans hx1)
  have HI1 := Lib.hid hi1
  have HI2 := Lib.hid hi2
  clear hx1 hi1 hi2 HT HX0
  go_wp2_with fail
  refine (HK.out w1).mono ?_
  rintro e w2 ⟨rfl, hx2⟩
  have HX2 := Lib.hid (HX1.out.trans hx2)
  have HC := Lib.hid (HCN.out w2 b ab (HI1.out.ext hx2))
  have HJ1 := Lib.hid (HI1.out.ext hx2)
  have HJ2 := Lib.hid (HI2.out.ext hx2)
  clear hx2 HK HX1 HI1 HI2 HCN
  go_wp2_with fail
  refine HC.out.mono ?_
  rintro e w3 ⟨rfl, hx3⟩
  have HX3 := Lib.hid (HX2.out.trans hx3)
  have HI1 := Lib.hid (HJ1.out.ext hx3)
  have HI2 := Lib.hid (HJ2.out.ext hx3)
  clear hx3 HC HX2 HJ1 HJ2
  by_cases h1 : 0 < ps.length
  · have e1 : ((ps.length : Int) == 0) = false := by rw [beq_eq_false_iff_ne]; omega
    have HC2 := Lib.hid (HCN2.out w3 b2 ab2 HI2.out)
    go_wp2_with fail
    refine HC2.out.mono ?_
    rintro e w4 ⟨rfl, hx4⟩
    have HX4 := Lib.hid (HX3.out.trans hx4)
    have HJ1 := Lib.hid (HI1.out.ext hx4)
    have HJ2 := Lib.hid (HI2.out.ext hx4)
    clear hx4 HC2 HX3 HI1 HI2 HCN2
    by_cases h2 : 0 < qs.length
    · have e2 : ((qs.length : Int) == 0) = false := by rw [beq_eq_false_iff_ne]; omega
      have eb : ok = true := by rw [HOK.out, decide_eq_true h1, decide_eq_true h2]; rfl
      have er : res = mxI (aprL kind ps qs) (aprL kind qs ps) := by rw [HRES.out, eb, if_pos rfl]
      subst eb
      have HER := Lib.hid er
      clear er HOK HRES
      have HC := Lib.hid (HSP.out w4 b ab HJ1.out)
      go_wp2_with fail
      refine HC.out.mono ?_
      rintro e w5 ⟨x5, y5, rfl, hx5, ho5⟩
      have HR5 := Lib.hid ho5.row
      have HX5 := Lib.hid (HX4.out.trans hx5)
      have HI1 := Lib.hid (HJ1.out.ext hx5)
      have HI2 := Lib.hid (HJ2.out.ext hx5)
      clear hx5 ho5 HC HX4 HJ1 HJ2
      have HC := Lib.hid (HSP2.out w5 b2 ab2 HI2.out)
      go_wp2_with fail
      refine HC.out.mono ?_
      rintro e w6 ⟨x6, y6, rfl, hx6, ho6⟩
      have HX6 := Lib.hid (HX5.out.trans hx6)
      have HJ1 := Lib.hid (HI1.out.ext hx6)
      have HJ2 := Lib.hid (HI2.out.ext hx6)
      have HC2 := Lib.hid (HAP.out w6 x5 y5 x6 y6 h2 (HR5.out.ext hx6) ho6.row)
      clear hx6 ho6 HC HX5 HI1 HI2 HR5
      go_wp2_with fail
      refine HC2.out.mono ?_
      rintro e w7 ⟨rfl, hx7⟩
      have HX7 := Lib.hid (HX6.out.trans hx7)
      have HI1 := Lib.hid (HJ1.out.ext hx7)
      have HI2 := Lib.hid (HJ2.out.ext hx7)
      clear hx7 HC2 HX6 HJ1 HJ2 HAP
      have HC := Lib.hid (HSP2.out w7 b2 ab2 HI2.out)
      go_wp2_with fail
      refine HC.out.mono ?_
      rintro e w8 ⟨x8, y8, rfl, hx8, ho8⟩
      have HR8 := Lib.hid ho8.row
      have HX8 := Lib.hid (HX7.out.trans hx8)
      have HJ1 := Lib.hid (HI1.out.ext hx8)
      clear hx8 ho8 HC HX7 HI1 HI2 HSP2
      have HC := Lib.hid (HSP.out w8 b ab HJ1.out)
      go_wp2_with fail
      refine HC.out.mono ?_
      rintro e w9 ⟨x9, y9, rfl, hx9, ho9⟩
      have HX9 := Lib.hid (HX8.out.trans hx9)
      have HC2 := Lib.hid (HAP2.out w9 x8 y8 x9 y9 h1 (HR8.out.ext hx9) ho9.row)
      clear hx9 ho9 HC HX8 HJ1 HR8 HSP
      go_wp2_with fail
      refine HC2.out.mono ?_
      rintro e w10 ⟨rfl, hx10⟩
      have HX10 := Lib.hid (HX9.out.trans hx10)
      clear hx10 HC2 HX9 HAP2
      generalize aprL kind ps qs = u at *
      generalize aprL kind qs ps = v at *
      rcases Int.lt_trichotomy u v with huv | huv | huv
      · have er : res = v := by rw [HER.out]; unfold mxI; rw [if_neg (by omega)]
        subst er
        go_wp2
        go_ret2
        exact ⟨rfl, HX10.out⟩
      · have er : res = v := by rw [HER.out]; unfold mxI; rw [if_neg (by omega)]
        subst er huv
        have hn : ¬ u < u := by omega
        go_wp2
        go_ret2
        exact ⟨rfl, HX10.out⟩
      · have er : res = u := by rw [HER.out]; unfold mxI; rw [if_pos huv]
        subst er
        have hn : ¬ res < v := by omega
        go_wp2
        go_ret2
        exact ⟨rfl, HX10.out⟩
    · have e2 : ((qs.length : Int) == 0) = true := by rw [beq_iff_eq]; omega
      have eb : ok = false := by rw [HOK.out, decide_eq_false h2, Bool.and_false]
      have er : res = 0 := by rw [HRES.out, eb, if_neg (by decide)]
      subst eb er
      clear HOK HRES
      go_wp2
      go_ret2
      exact ⟨rfl, HX4.out⟩
  · have e1 : ((ps.length : Int) == 0) = true := by rw [beq_iff_eq]; omega
    have eb : ok = false := by rw [HOK.out, decide_eq_false h1, Bool.false_and]
    have er : res = 0 := by rw [HRES.out, eb, if_neg (by decide)]
    subst eb er
    clear HOK HRES
    go_wp2
    go_ret2
    exact ⟨rfl, HX3.out⟩
end Go.Proofs.Ytpdmfnndegcjjaa
