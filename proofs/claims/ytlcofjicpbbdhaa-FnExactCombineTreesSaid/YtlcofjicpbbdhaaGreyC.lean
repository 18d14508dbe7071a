/- CutPeaks and ReconstructGrey: the reference's side. -/
import Derived.Test.YtlcofjicpbbdhaaGreyS
namespace Go.Proofs.Ytlcofjicpbbdhaa
open Go Go.RowKit
/-- Of a list the first k turned. -/
def mapTo (f : Int → Int) (l : List Int) (k : Nat) : List Int := (l.take k).map f ++ l.drop k
theorem mapTo_len (f : Int → Int) (l : List Int) (k : Nat) : (mapTo f l k).length = l.length := by unfold mapTo; simp; omega
theorem mapTo_at {f : Int → Int} {l : List Int} {k : Nat} : (mapTo f l k).getD k 0 = l.getD k 0 := by
  unfold mapTo
  by_cases h : k < l.length
  · have h1 : (List.map f (l.take k)).length = k := by simp; omega
    rw [List.getD_eq_getElem?_getD, List.getElem?_append_right (by omega), h1, Nat.sub_self, List.getElem?_drop, Nat.add_zero, ← List.getD_eq_getElem?_getD]
  · rw [List.getD_eq_getElem?_getD, List.getD_eq_getElem?_getD, List.getElem?_eq_none (by simp; omega), List.getElem?_eq_none (by omega)]
theorem mapTo_set {f : Int → Int} {l : List Int} {k : Nat} (h : k < l.length) : (mapTo f l k).set k (f (l.getD k 0)) = mapTo f l (k + 1) := by
  unfold mapTo
  have h1 : (List.map f (l.take k)).length = k := by simp; omega
  have e2 : l.getD k 0 = l[k] := by rw [List.getD_eq_getElem?_getD, List.getElem?_eq_getElem h]; rfl
  rw [List.set_append_right _ _ (by omega), h1, Nat.sub_self, List.take_succ_eq_append_getElem h, List.map_append, List.append_assoc, List.drop_eq_getElem_cons h, List.set_cons_zero, e2]
  rfl
theorem mapTo_all (f : Int → Int) (l : List Int) : mapTo f l l.length = l.map f := by unfold mapTo; simp
/-- The lowered numbers. -/
def cutF (h z : Int) : Int := mxK 0 (z - h)
def cutL (h : Int) (l : List Int) : List Int := l.map (cutF h)
theorem flat_get {m : List (List Int)} (hok : tableOk m 99 = true) {k : Nat} (hk : k < m.flatten.length) : 0 ≤ m.flatten.getD k 0 ∧ m.flatten.getD k 0 ≤ 99 := by
  obtain ⟨v1, v2, v3, v4, v5, v6⟩ := tableOk_spec hok
  have hl := flat_len (m.getD 0 []).length m v5
  have hW : 0 < (m.getD 0 []).length := by omega
  have hx : k % (m.getD 0 []).length < (m.getD 0 []).length := Nat.mod_lt _ hW
  have hy : k / (m.getD 0 []).length < m.length := by rw [Nat.div_lt_iff_lt_mul hW, Nat.mul_comm]; omega
  have he : k / (m.getD 0 []).length * (m.getD 0 []).length + k % (m.getD 0 []).length = k := by rw [Nat.mul_comm]; exact Nat.div_add_mod _ _
  have h := flat_at (m.getD 0 []).length m _ _ v5 hy hx
  rw [he] at h
  rw [h]
  exact v6 _ _ hy (by rw [v5 _ hy]; exact hx)
theorem cut_under {h : Int} {l : List Int} (h0 : 0 ≤ h) (hl : ∀ k, k < l.length → 0 ≤ l.getD k 0) : Under l (cutL h l) := by
  unfold cutL
  refine ⟨by simp, fun k hk => ?_⟩
  rw [List.length_map] at hk
  have e : (l.map (cutF h)).getD k 0 = cutF h (l.getD k 0) := by
    rw [List.getD_eq_getElem?_getD, List.getElem?_map, List.getD_eq_getElem?_getD, List.getElem?_eq_getElem hk]
    rfl
  rw [e]
  have := hl k hk
  unfold cutF mxK
  split <;> omega
def cutOk (m : List (List Int)) (h : Int) : Bool := tableOk m 99 && inB h 0 99
/-- What is left of the peaks. -/
def CutO (m : List (List Int)) (h : Int) (res : List Int) : Prop := cutOk m h = true → PasR (greC (m.getD 0 []).length m.length m.flatten) (greV (m.getD 0 []).length m.length m.flatten) m.flatten.length (cutL h m.flatten) res
theorem CutO.ex (m : List (List Int)) (h : Int) : ∃ res, CutO m h res := by
  by_cases hc : cutOk m h = true
  · have hc2 := hc
    unfold cutOk at hc2
    rw [Bool.and_eq_true, inB_true] at hc2
    obtain ⟨res, hr⟩ := GreR.ex (m.getD 0 []).length m.length (cut_under hc2.2.1 fun k hk => (flat_get hc2.1 hk).1)
    exact ⟨res, fun _ => hr⟩
  · exact ⟨[], fun h2 => absurd h2 hc⟩
theorem GreyRet2.no {w w' : World} (hx : w.Ext w') : GreyRet2 w [] false (.returned (.tuple #[.agg #[.slice none 0 0], .bool false])) w' := ⟨none, 0, _, _, rfl, hx, OwnMat.none _ _ _ _⟩
set_option maxRecDepth 5000 in
set_option maxHeartbeats 1600000 in
theorem specCut_any (a : Option Addr) (c : Nat) (A : Nat → Option Addr) (C : Nat → Nat) (m : List (List Int)) (h : Int) (res : List Int) (hR : CutO m h res) (w : World) (hb : MatBnd m) (hm : MatAt w a A C m) :
    Calls Try.prog 58 #[.agg #[.slice a m.length c], .int .i64 h] w (GreyRet2 w (optM (cutOk m h) (grl (m.getD 0 []).length m.length res)) (cutOk m h)) := by
  obtain ⟨W0, hW0⟩ : ∃ W0, W0 = (w.alloc (.cells #[.slice a m.length c] 65)).alloc (.cells #[.slice none 0 0] 65) := ⟨_, rfl⟩
  have hx0 : w.Ext W0 := by rw [hW0]; repeat (first | exact World.Ext.refl _ | exact ⟨_, rfl⟩ | assumption | refine World.Ext.over ?_ _ | refine World.Ext.drewN ?_ _ | refine World.Ext.drew ?_ | refine World.Ext.alloc ?_ _ | refine World.Ext.setCell ?_ (by simp) _)
  have d0 : W0.cell? ⟨w.heap.size, 0, none⟩ = some (.slice a m.length c) := by rw [hW0]; simp [go_sem]
  have hone : One W0 (w.heap.size + 1) 65 (.slice none 0 0) := by rw [hW0]; exact One.new _ _ _ _ (by simp)
  have HI : Hid (Calls Try.prog 143 #[.pointer (some ⟨w.heap.size, 0, none⟩)] W0 fun e w' => e = .returned (.bool (tableOk m 99)) ∧ W0.Ext w') := l07Is_any _ a c A C m W0 hb.1 hb.2 d0 (hm.ext hx0) _ rfl
  have HIN : Hid (∀ w', Calls Try.prog 144 #[.int .i64 h, .int .i64 0, .int .i64 99] w' fun e w'' => e = .returned (.bool (inB h 0 99)) ∧ w'.Ext w'') := fun w' => l00In_any _ _ _ w' _ rfl
  have HX0 := Lib.hid hx0
  have HO := Lib.hid hone
  unfold CutO cutOk at hR
  unfold cutOk
  cases hok : tableOk m 99
  · rw [hok] at HI
    clear hb hm hx0 d0 hone hok hR HIN
    show Calls _ _ _ _ (GreyRet2 w [] false)
    go_enter Try.func58, Try.ntmps58
    go_wp2_with fail
    rw [← hW0]
    refine HI.out.mono ?_
    rintro e w1 ⟨rfl, hx1⟩
    obtain ⟨r1, r2, r3, HR⟩ := Res.storeM (lo := w.heap.size + 2) (.slice none 0 0) (HX0.out.trans hx1) (by omega) (HO.out.ext hx1) (by omega) (OwnMat.none _ _ _ none)
    clear hx1 hW0
    go_wp2
    exact bodyPost_ret (v := .tuple #[.agg #[.slice none 0 0], .bool false]) (by simp [results, Try.results58, go_sem, r3]) rfl (GreyRet2.no HR.out.1)
  · rw [hok] at HI
    cases hin : inB h 0 99
    · rw [hin] at HIN
      clear hb hm hx0 d0 hone hok hR hin
      show Calls _ _ _ _ (GreyRet2 w [] false)
      go_enter Try.func58, Try.ntmps58
      go_wp2_with fail
      rw [← hW0]
      refine HI.out.mono ?_
      rintro e w1 ⟨rfl, hx1⟩
      go_wp2_with fail
      refine (HIN.out w1).mono ?_
      rintro e w2 ⟨rfl, hx2⟩
      obtain ⟨r1, r2, r3, HR⟩ := Res.storeM (lo := w.heap.size + 2) (.slice none 0 0) (HX0.out.trans (hx1.trans hx2)) (by omega) (HO.out.ext (hx1.trans hx2)) (by omega) (OwnMat.none _ _ _ none)
      clear hx1 hx2 hW0
      go_wp2
      exact bodyPost_ret (v := .tuple #[.agg #[.slice none 0 0], .bool false]) (by simp [results, Try.results58, go_sem, r3]) rfl (GreyRet2.no HR.out.1)
    · rw [hin] at HIN
      obtain ⟨v1, v2, v3, v4, v5, v6⟩ := tableOk_spec hok
      obtain ⟨h0, h1⟩ := inB_true.1 hin
      have hRR := hR (by rw [hok, hin]; rfl)
      have HFG : Hid (∀ k, k < m.flatten.length → 0 ≤ m.flatten.getD k 0 ∧ m.flatten.getD k 0 ≤ 99) := fun k hk => flat_get hok hk
      have hfl : m.flatten.length = m.length * (m.getD 0 []).length := by rw [flat_len _ m v5, Nat.mul_comm]
      have HLI := Lib.hid (fun w' (hx : W0.Ext w') => l07List_any a c A C m w' (by omega) (fun r hr => by rw [v5 r hr]; omega) (by rw [hfl]; exact Nat.le_trans (Nat.mul_le_mul v2 v4) (by omega)) ((hm.ext hx0).ext hx))
      have HWD := Lib.hid (fun w' (hx : W0.Ext w') => l07Width_any w.heap.size a c A C m w' (by omega) (hx.cell d0) ((hm.ext hx0).ext hx))
      have HC0 : Hid (∀ w', W0.Ext w' → w'.cell? ⟨w.heap.size, 0, none⟩ = some (.slice a m.length c)) := fun w' hx => hx.cell d0
      have HUN : Hid (Under m.flatten (cutL h m.flatten)) := cut_under h0 fun k hk => (flat_get hok hk).1
      have HRR := Lib.hid hRR
      have HFL := Lib.hid hfl
      have HGL : Hid ((grl (m.getD 0 []).length m.length res).length = m.length) := grl_len _ _ _
      obtain ⟨n, hn⟩ : ∃ n, n = m.flatten.length := ⟨_, rfl⟩
      have hn0 : 0 < n := by rw [hn, hfl]; exact Nat.mul_pos v1 v3
      have hn4 : n ≤ 256 := by rw [hn, hfl]; exact Nat.mul_le_mul v2 v4
      rw [← hn] at HFG HLI HRR HFL
      have HLN := Lib.hid hn
      simp only [Bool.true_and]
      clear hb hm hx0 d0 hone hok hR hin hRR hfl v5 v6 hn
      show Calls _ _ _ _ (GreyRet2 w (grl (m.getD 0 []).length m.length res) true)
      generalize m.flatten = mask at *
      generalize (m.getD 0 []).length = W at *
      generalize m.length = H at *
      go_enter Try.func58, Try.ntmps58
      go_wp2_with fail
      rw [← hW0]
      clear hW0
      refine HI.out.mono ?_
      rintro e w1 ⟨rfl, hx1⟩
      go_wp2_with fail
      refine (HIN.out w1).mono ?_
      rintro e w2 ⟨rfl, hx2⟩
      have HX2 := Lib.hid (hx1.trans hx2)
      have c0 := HC0.out w2 HX2.out
      have l0 := World.block_lt_of_cell? _ _ c0
      clear hx1 hx2 HI HIN
      go_wp2_with fail
      refine (HLI.out w2 HX2.out).mono ?_
      rintro e w3 ⟨a3, c3, rfl, hx3, ho3, -⟩
      obtain ⟨b3, o3, rfl, -⟩ := ho3.row 0 (by rw [← HLN.out]; exact hn0)
      have hown := l00Own_any b3 o3 c3 mask w3 (by rw [← HLN.out]; omega) ho3.row
      rw [← HLN.out] at hown
      have HOW := Lib.hid hown
      have HO3 := Lib.hid ho3
      have HX3 := Lib.hid (HX2.out.trans hx3)
      have hsz3 := hx3.size
      have hs02 := HX2.out.size
      clear hx3 ho3 hown HLI c0 l0 HX2
      go_wp2_with fail
      refine HOW.out.mono ?_
      rintro e w4 ⟨v, rfl, hx4, hg4⟩
      obtain ⟨g, cap, rfl, hglo, -, -, -⟩ := GrowOf.atI 0 hg4 (i := 0) (by rw [← HLN.out]; exact hn0)
      rw [← HLN.out] at hg4 ⊢
      have hcap : n ≤ cap := by
        obtain ⟨a', c', e', hc'⟩ := hg4.form
        simp only [Value.slice.injEq] at e'
        obtain ⟨-, -, rfl⟩ := e'
        rw [← HLN.out] at hc'
        exact hc'
      have hsz4 := hx4.size
      have hgl := (hg4.block (k := g) rfl).2
      have HX4 := Lib.hid (HX3.out.trans hx4)
      have HO4 := Lib.hid (HO3.out.ext hx4)
      have HS0 : Hid (RcSt w4 g cap n (mapTo (cutF h) mask 0) w4) := RcSt.start (lo := w3.heap.size) (by unfold mapTo; simpa using hg4) (by rw [mapTo_len, HLN.out])
      clear hx4 hg4 HOW HO3 HX3
      go_wp2
      go_loopw [24] (fun i wr => ∃ k : Nat, k ≤ n ∧ i = .int .i64 k ∧ Hid (RcSt w4 g cap n (mapTo (cutF h) mask k) wr)) (fun i _ => n - (intOf i).toNat)
      case atStart => exact ⟨0, Nat.zero_le _, rfl, HS0⟩
      case round =>
        clear HS0
        obtain ⟨k, hk, rfl, HS⟩ := hrel
        obtain ⟨w5, rfl⟩ : ∃ w5 : World, w5 = wr := ⟨_, rfl⟩
        by_cases hlt : k < n
        · have hlt' : (k : Int) < (n : Int) := by omega
          have hk0 : (0 : Int) ≤ (k : Int) := by omega
          obtain ⟨hc, hf, hset⟩ := HS.out.at hlt
          rw [mapTo_at] at hc
          obtain ⟨z0, z1⟩ := HFG.out k hlt
          have HNS : Hid (∀ wq, w5.Ext wq → wq.frozen? ⟨g, k, none⟩ = false ∧ (∃ u, wq.cell? ⟨g, k, none⟩ = some u) ∧ Hid (RcSt w4 g cap n (mapTo (cutF h) mask (k + 1)) (wq.setCell ⟨g, k, none⟩ (.int .i64 (cutF h (mask.getD k 0)))))) := fun wq hx => by
            obtain ⟨q1, q2, q3⟩ := (HS.out.ext hx).at hlt
            refine ⟨q2, ⟨_, q1⟩, ?_⟩
            have := q3 (cutF h (mask.getD k 0))
            rw [mapTo_set (by rw [← HLN.out]; exact hlt)] at this
            exact this
          have HMX := Lib.hid (fun w' => l00MaxK_any 0 (mask.getD k 0 - h) w')
          have HCF : Hid (cutF h (mask.getD k 0) = mxK 0 (mask.getD k 0 - h)) := rfl
          rw [HCF.out] at HNS
          clear hset HS hf HCF
          generalize mask.getD k 0 = z at *
          go_wp2_with fail
          refine (HMX.out w5).mono ?_
          rintro e w6 ⟨rfl, hx6⟩
          obtain ⟨hf6, ⟨u6, hc6⟩, HS7⟩ := HNS.out w6 hx6
          clear hx6 hc HNS HMX
          generalize mxK 0 (z - h) = mz at *
          go_wp2
          go_roundw
          case rel => exact ⟨k + 1, by omega, by go_num, HS7⟩
          case measure => simp [intOf]; omega
        · have : k = n := by omega
          subst this
          have HSA : Hid (RcSt w4 g cap k (cutL h mask) w5) := by
            have h2 := HS.out
            rw [HLN.out, mapTo_all, ← HLN.out] at h2
            exact h2
          have HXW : Hid (W0.Ext w5) := HSA.out.x HX4.out (by omega)
          have hrow := (GrowOf.own (n := k) (a := some ⟨g, 0, none⟩) (cap := cap) 0 HSA.out.grow).row
          have hrk : RowI w5 (some ⟨b3, o3, none⟩) mask := (HO4.out.wrote HSA.out.wrote fun q h1 h2 h3 => by omega).row
          have HRW := Lib.hid hrow
          have HRK := Lib.hid hrk
          have hcm : (cutL h mask).length = k := HSA.out.len
          have HCM := Lib.hid hcm
          clear hrow hrk hcm HS HSA HX4 HO4
          go_wp2_with fail
          refine (HWD.out w5 HXW.out).mono ?_
          rintro e w6 ⟨rfl, hx6⟩
          go_wp2_with fail
          refine (HWD.out w6 (HXW.out.trans hx6)).mono ?_
          rintro e w7 ⟨rfl, hx7⟩
          have HX7 := Lib.hid (hx6.trans hx7)
          have HRE := Lib.hid (l07Reach_any W H k g 0 cap b3 o3 c3 (cutL h mask) mask res w7 (by omega) (by omega) (by omega) (by omega) (by rw [HFL.out]) HCM.out HLN.out.symm HUN.out (RowOf.ext HRW.out HX7.out) (RowOf.ext HRK.out HX7.out) HRR.out)
          clear hx6 hx7
          go_wp2_with fail
          refine HRE.out.mono ?_
          rintro e w8 ⟨g8, cap8, rfl, hx8, hg8⟩
          have hl8 : res.length = k := by
            have := PasR.len HRR.out
            rw [HCM.out] at this
            exact this
          have hcap8 : k ≤ cap8 := by
            obtain ⟨a', c', e', hc'⟩ := hg8.form
            simp only [Value.slice.injEq] at e'
            obtain ⟨-, -, rfl⟩ := e'
            omega
          have hro := l07Rows_any g8 0 cap8 W H res w8 (by omega) (by omega) (by omega) (by rw [hl8, HFL.out]) (by omega) (GrowOf.own (n := k) (a := some ⟨g8, 0, none⟩) (cap := cap8) 0 hg8).row
          rw [hl8] at hro
          have HRO := Lib.hid hro
          have HX8 := Lib.hid (HXW.out.trans (HX7.out.trans hx8))
          clear hx8 hg8 hl8 hcap8 hro HRE HX7 HRW HRK HRR HUN
          go_wp2_with fail
          refine HRO.out.mono ?_
          rintro e w9 ⟨a9, c9, A9, C9, rfl, hx9, hm9⟩
          rw [HGL.out]
          have hl9 : w.heap.size + 1 < w8.heap.size := Nat.lt_of_lt_of_le HO.out.lt HX8.out.size
          obtain ⟨r1, r2, r3, HR⟩ := Res.storeM (.slice a9 H c9) (HX0.out.trans (HX8.out.trans hx9)) (by omega) (HO.out.ext (HX8.out.trans hx9)) hl9 (hm9.mat (by decide))
          clear hx9 hm9 HRO
          go_wp2
          exact bodyPost_ret (v := .tuple #[.agg #[.slice a9 H c9], .bool true]) (by simp [results, Try.results58, go_sem, r3]) rfl ⟨a9, c9, A9, C9, by rw [HGL.out], HR.out.1, HR.out.2⟩
end Go.Proofs.Ytlcofjicpbbdhaa
