/- MaximaOf: the reference's side. -/
import Derived.Test.YtmmanehdmnkekaaGreatMaxI
import Derived.Test.YtmmanehdmnkekaaGreatOpA
namespace Go.Proofs.YtmmanehdmnkekaaGreat
open Go Go.RowKit
theorem mkl_takeM {W H : Nat} (g : Nat → Nat → Bool) {k : Nat} (hk : k < H * W) : (mkl W H g).take (k + 1) = (mkl W H g).take k ++ [g (k % W) (k / W)] := by
  have h1 : k < (mkl W H g).length := by rw [mkl_len]; exact hk
  rw [take_next h1]
  congr 2
  unfold mkl
  rw [List.getD_eq_getElem?_getD, List.getElem?_map, List.getElem?_range hk]
  rfl
theorem maxL_take {W H : Nat} {l : List Int} {k : Nat} (hk : k < H * W) : (maxL W H l).take (k + 1) = (maxL W H l).take k ++ [!decide (lastIn W H l (nodeL W H l) k ∈ parT W H l (nodeL W H l))] := by
  unfold maxL
  rw [mkl_takeM _ hk]
  have e : k / W * W + k % W = k := by rw [Nat.mul_comm]; exact Nat.div_add_mod _ _
  rw [e]
set_option maxRecDepth 5000 in
set_option maxHeartbeats 3200000 in
theorem specMaximaOf_any (a : Option Addr) (c : Nat) (A : Nat → Option Addr) (C : Nat → Nat) (m : List (List Int)) (w : World) (hb : MatBnd m) (hm : MatAt w a A C m) :
    Calls Tryz.prog 6 #[.agg #[.slice a m.length c]] w (PicRet2 w (maxR m) (tableOk m 99)) := by
  obtain ⟨ib, hib, hb0, hb1, hb2⟩ := info_parts Tryz.infoBoolP
  obtain ⟨W0, hW0⟩ : ∃ W0, W0 = (w.alloc (.cells #[.slice a m.length c] 31)).alloc (.cells #[.slice none 0 0] 28) := ⟨_, rfl⟩
  have hx0 : w.Ext W0 := by rw [hW0]; repeat (first | exact World.Ext.refl _ | exact ⟨_, rfl⟩ | assumption | refine World.Ext.over ?_ _ | refine World.Ext.drewN ?_ _ | refine World.Ext.drew ?_ | refine World.Ext.alloc ?_ _ | refine World.Ext.setCell ?_ (by simp) _)
  have d0 : W0.cell? ⟨w.heap.size, 0, none⟩ = some (.slice a m.length c) := by rw [hW0]; simp [go_sem]
  have hone : One W0 (w.heap.size + 1) 28 (.slice none 0 0) := by rw [hW0]; exact One.new _ _ _ _ (by simp)
  have HI : Hid (Calls Tryz.prog 22 #[.pointer (some ⟨w.heap.size, 0, none⟩)] W0 fun e w' => e = .returned (.bool (tableOk m 99)) ∧ W0.Ext w') := l07Is_any _ a c A C m W0 hb.1 hb.2 d0 (hm.ext hx0) _ rfl
  have HX0 := Lib.hid hx0
  have HO := Lib.hid hone
  cases hok : tableOk m 99
  · rw [hok] at HI
    have HN := Lib.hid (fun w' (hx : w.Ext w') => maxR_no (m := m) hx hok)
    rw [hok] at HN
    clear hb hm hx0 d0 hone hok
    go_enter Tryz.func6, Tryz.ntmps6
    go_wp2_with fail
    rw [← hW0]
    refine HI.out.mono ?_
    rintro e w1 ⟨rfl, hx1⟩
    have h1 := HO.out.ext hx1
    have r1 := h1.cell
    have r2 := h1.free
    have r3 := (h1.set (.slice none 0 0)).cell
    have HXF := Lib.hid (HX0.out.trans hx1)
    clear h1 hx1 hW0
    go_wp2
    refine bodyPost_ret (v := .tuple #[.agg #[.slice none 0 0], .bool false]) (by simp [results, Tryz.results6, go_sem, r3]) rfl (HN.out _ ?_)
    exact HXF.out.setCell (by simp) _
  · rw [hok] at HI
    obtain ⟨v1, v2, v3, v4, v5, v6⟩ := tableOk_spec hok
    have hgl := grL_table hok
    have hnn : m.length * (m.getD 0 []).length ≤ 256 := Nat.mul_le_mul v2 v4
    have hpos : 0 < m.length * (m.getD 0 []).length := Nat.mul_pos v1 v3
    have HTR := Lib.hid (fun w' (hx : W0.Ext w') => l07Tree_any w.heap.size a c A C m w' hok (hx.cell d0) ((hm.ext hx0).ext hx))
    have HWD := Lib.hid (fun w' (hx : W0.Ext w') => l07Width_any w.heap.size a c A C m w' (by omega) (hx.cell d0) ((hm.ext hx0).ext hx))
    have HH1 := Lib.hid (And.intro v1 (And.intro v2 (And.intro v3 v4)))
    have HGR : Hid (∀ l, (grl (m.getD 0 []).length m.length l).length = m.length) := fun l => grl_len _ _ _
    have HLI : Hid (∀ (w' : World) (a4 : Option Addr) (c4 : Nat) (A4 : Nat → Option Addr) (C4 : Nat → Nat), MatAt w' a4 A4 C4 (grl (m.getD 0 []).length m.length (nodT (m.getD 0 []).length m.length m.flatten (nodeL (m.getD 0 []).length m.length m.flatten))) →
        Calls Tryz.prog 24 #[.slice a4 m.length c4] w' fun e w'' => ∃ v, e = .returned v ∧ w'.Ext w'' ∧ GrI w'.heap.size w'' v (nodT (m.getD 0 []).length m.length m.flatten (nodeL (m.getD 0 []).length m.length m.flatten))) := fun w' a4 c4 A4 C4 h4 => by
      have hf := grl_flattenO (W := (m.getD 0 []).length) (H := m.length) (l := nodT (m.getD 0 []).length m.length m.flatten (nodeL (m.getD 0 []).length m.length m.flatten)) (by omega) nodT_len
      have h := l07List_grow a4 c4 A4 C4 _ w' (by rw [grl_len]; omega) (fun r hr => by rw [grl_len] at hr; rw [grl_row hr]; omega) (by rw [hf, nodT_len]; omega) h4
      rw [hf, grl_len] at h
      exact h
    have HRM : Hid (maxR m = picRows (m.getD 0 []).length m.length (maxL (m.getD 0 []).length m.length m.flatten)) := by unfold maxR; rw [hok]; rfl
    have hrl : (picRows (m.getD 0 []).length m.length (maxL (m.getD 0 []).length m.length m.flatten)).length = m.length := picRows_len _ _ _
    have HRL := Lib.hid hrl
    have HTK : Hid (∀ k, k < m.length * (m.getD 0 []).length → (maxL (m.getD 0 []).length m.length m.flatten).take (k + 1) = (maxL (m.getD 0 []).length m.length m.flatten).take k ++ [!decide (lastIn (m.getD 0 []).length m.length m.flatten (nodeL (m.getD 0 []).length m.length m.flatten) k ∈ parT (m.getD 0 []).length m.length m.flatten (nodeL (m.getD 0 []).length m.length m.flatten))]) := fun k hk => maxL_take hk
    have HML := Lib.hid (maxL_len (m.getD 0 []).length m.length m.flatten)
    have hnl : (nodeL (m.getD 0 []).length m.length m.flatten).length ≤ 256 := Nat.le_trans (nodeL_len hgl) hnn
    obtain ⟨n, hn⟩ : ∃ n, n = m.length * (m.getD 0 []).length := ⟨_, rfl⟩
    have HN := Lib.hid hn
    rw [← hn] at hnn hpos HTK HML
    rw [HRM.out]
    clear hb hm hx0 d0 hone hok hgl hn HRM v1 v2 v3 v4 v5 v6 hrl
    obtain ⟨R, hR⟩ : ∃ R, R = picRows (m.getD 0 []).length m.length (maxL (m.getD 0 []).length m.length m.flatten) := ⟨_, rfl⟩
    rw [← hR]
    rw [← hR] at HRL
    have HRR := Lib.hid hR
    clear hR
    generalize m.flatten = l at *
    generalize (m.getD 0 []).length = W at *
    generalize m.length = H at *
    go_enter Tryz.func6, Tryz.ntmps6
    go_wp2_with fail
    rw [← hW0]
    clear hW0
    refine HI.out.mono ?_
    rintro e w2 ⟨rfl, hx2⟩
    have HX2 := Lib.hid hx2
    clear hx2 HI
    go_wp2_with fail
    refine (HTR.out w2 HX2.out).mono ?_
    rintro e w3 ⟨a1, a2, a3, a4, c1, c2, c3, c4, A4, C4, rfl, hx3, ho3⟩
    unfold gtV gtR
    dsimp only
    rw [levT_len, parT_len, areT_len, HGR.out]
    have HX3 := Lib.hid (HX2.out.trans hx3)
    obtain ⟨W4, hW4⟩ : ∃ W4, W4 = w3.alloc (.cells #[.slice a1 (nodeL W H l).length c1, .slice a2 (nodeL W H l).length c2, .slice a3 (nodeL W H l).length c3, .slice a4 H c4] 44) := ⟨_, rfl⟩
    have hx4 : w3.Ext W4 := by rw [hW4]; repeat (first | exact World.Ext.refl _ | exact ⟨_, rfl⟩ | assumption | refine World.Ext.over ?_ _ | refine World.Ext.drewN ?_ _ | refine World.Ext.drew ?_ | refine World.Ext.alloc ?_ _ | refine World.Ext.setCell ?_ (by simp) _)
    obtain ⟨ra1, ra2, ra3, ra4⟩ := ho3.row.ext hx4
    have HR2 := Lib.hid (show RowI _ a2 (parT W H l (nodeL W H l)) from ra2)
    have HR4 := Lib.hid (HLI.out _ a4 c4 A4 C4 ra4)
    have HQ4 : Hid (Qua W4 w3.heap.size 44 (.slice a1 (nodeL W H l).length c1) (.slice a2 (nodeL W H l).length c2) (.slice a3 (nodeL W H l).length c3) (.slice a4 H c4)) := by rw [hW4]; exact Qua.new w3 _ _ _ _ _ w3.heap.size rfl
    have HX4 := Lib.hid (HX3.out.trans hx4)
    clear hx3 ho3 HTR HLI ra1 ra2 ra3 ra4 hx4 HX2 HX3
    go_wp2_with fail
    rw [← hW4]
    clear hW4
    refine HR4.out.mono ?_
    rintro e w5 ⟨v, rfl, hx5, hg5⟩
    obtain ⟨g7, c7, rfl, hg71, hg72, hc7⟩ := grI_getD hg5 (by rw [nodT_len, ← HN.out]; exact hpos)
    have HRN : Hid (RowI w5 (some ⟨g7, 0, none⟩) (nodT W H l (nodeL W H l))) := (GrowOf.own 0 hg5).row
    have HQ5 := Lib.hid (HQ4.out.ext hx5)
    have HX5 := Lib.hid (HX4.out.trans hx5)
    have HP5 : Hid (∀ w', w5.Ext w' → ∀ k, Calls Tryz.prog 25 #[.slice a2 (nodeL W H l).length c2, .int .i64 (lastIn W H l (nodeL W H l) k)] w' fun e w'' => e = .returned (.bool (decide (lastIn W H l (nodeL W H l) k ∈ parT W H l (nodeL W H l)))) ∧ w'.Ext w'') := fun w' hx k => by
      have h := l00Has_any a2 c2 (parT W H l (nodeL W H l)) (lastIn W H l (nodeL W H l) k) w' (by rw [parT_len]; omega) (RowI.ext HR2.out (hx5.trans hx))
      rw [parT_len] at h
      exact h
    have HNT : Hid (∀ k, k < n → (nodT W H l (nodeL W H l)).getD k 0 = lastIn W H l (nodeL W H l) k) := fun k hk => nodT_at (by rw [← HN.out]; exact hk)
    have HNL : Hid ((nodT W H l (nodeL W H l)).length = n) := by rw [HN.out]; exact nodT_len
    rw [HNL.out]
    clear hx5 hg5 hg71 hg72 hc7 HR2 HR4 HQ4 HX4
    have HST : Hid (BlSt w5 (.slice (some ⟨w5.heap.size, 0, none⟩) 0 0) ((maxL W H l).take 0) (w5.alloc (.cells #[] 4))) := BlSt.start
    generalize (nodeL W H l).length = N at *
    generalize hML : maxL W H l = ml at *
    clear hML
    go_wp2
    go_loopw [6, 7, 18] (fun v _ m wr => ∃ k : Nat, k ≤ n ∧ m = .int .i64 k ∧ Hid (BlSt w5 v (ml.take k) wr)) (fun _ _ m _ => n - (intOf m).toNat)
    case atStart => exact ⟨0, Nat.zero_le _, rfl, HST⟩
    case round =>
      obtain ⟨k, hk, rfl, HS⟩ := hrel
      clear HST
      obtain ⟨w6, rfl⟩ : ∃ w6 : World, w6 = wr := ⟨_, rfl⟩
      by_cases hlt : k < n
      · have hlt' : (k : Int) < (n : Int) := by omega
        have hk0 : (0 : Int) ≤ (k : Int) := by omega
        obtain ⟨b3, o3, e3, d3⟩ := HRN.out k (by rw [HNL.out]; exact hlt)
        cases e3
        rw [HNT.out k hlt, Nat.zero_add] at d3
        replace d3 := HS.out.1.cell d3
        have q1 := (HQ5.out.ext HS.out.1).cell1
        have hq := HTK.out k hlt
        have HCH : Hid (∀ w', w6.Ext w' → Calls Tryz.prog 25 #[.slice a2 N c2, .int .i64 (lastIn W H l (nodeL W H l) k)] w' fun e w'' => e = .returned (.bool (decide (lastIn W H l (nodeL W H l) k ∈ parT W H l (nodeL W H l)))) ∧ w'.Ext w'') := fun w' hx => HP5.out _ (HS.out.1.trans hx) k
        have hlen : (ml.take k).length = k := by rw [List.length_take, HML.out]; omega
        have HB1 : Hid ((ml.take k).length + 1 ≤ maxLen) := by show _ ≤ _; rw [hlen]; unfold maxLen; omega
        have HB2 : Hid (((ml.take k).length + 1) * 1 ≤ 140737488355328) := by show _ ≤ _; rw [hlen]; omega
        clear hlen
        generalize decide (lastIn W H l (nodeL W H l) k ∈ parT W H l (nodeL W H l)) = bt at *
        generalize lastIn W H l (nodeL W H l) k = z at *
        have HQ := Lib.hid hq
        clear hq
        go_wp2_with fail
        have hown := HS.out.2
        unfold GrowOf at hown
        have HOWN := Lib.hid hown
        have HLO : Hid (∀ (o1 : Obj) (w7 : World), w6.Ext w7 → w5.heap.size ≤ (w7.alloc o1).heap.size) := fun o1 w7 hx => ((HS.out.1.trans hx).alloc _).size
        have HNEXT : Hid (∀ (w7 : World), w6.Ext w7 → ∀ (o : Obj) (v' : Value) (w1 : World), (w7.alloc o).grownBy w1 u6.ownBlock → w1.ownsRow w5.heap.size 4 1 v' ((ml.take k).length + 1) ((ml.take k).map Value.bool ++ [.bool (!bt)]) → Hid (BlSt w5 v' (ml.take (k + 1)) w1)) := fun w7 hx o v' w1 hgrow hown' => BlSt.next (HS.out.ext hx) HQ.out hgrow hown'
        clear HS HQ hown
        generalize ml.take k = pre at *
        go_region_law (first
          | (go_simp; go_at_call 25; (refine (HCH.out _ ((World.Ext.refl w6).drew)).mono ?_; rintro e w7 ⟨rfl, hx7⟩; have E7 : w6.Ext w7 := ((World.Ext.refl w6).drew).trans hx7; clear hx7))
          | (refine step_append_mine rfl _ _ 54 rfl w5.heap.size 4 ib (.bool false) 1 1 Tryz.underlying54 hib hb0 hb1 hb2 rfl (by decide) u6 pre.length (pre.map Value.bool) rfl (World.ownsRow.ext HOWN.out (by repeat (first | exact World.Ext.refl _ | exact ⟨_, rfl⟩ | assumption | refine World.Ext.over ?_ _ | refine World.Ext.drewN ?_ _ | refine World.Ext.drew ?_ | refine World.Ext.alloc ?_ _ | refine World.Ext.setCell ?_ (by simp) _))) ⟨w7.heap.size, 0, none⟩ 1 1 [.bool (!bt)] rfl rfl (cell_one_at (by simp)) (by simp [Value.oneCell']) HB1.out HB2.out (HLO.out _ _ E7) (fun v' w8 hown8 hgrow hat => ?_); have HS4 := HNEXT.out _ E7 _ _ _ hgrow hown8; clear hown8 hgrow hat)
          | fail)
        all_goals
          clear q1 d3 HCH HOWN HLO HNEXT
          go_wp2
          go_roundw
          case rel => exact ⟨k + 1, by omega, by go_num, HS4⟩
          case measure => simp [intOf]; omega
      · have : k = n := by omega
        subst this
        have hS := HS.out
        rw [show ml.take k = ml by rw [← HML.out, List.take_length]] at hS
        obtain ⟨a5, c5, e5, -⟩ := hS.2.form
        rw [HML.out] at e5
        subst e5
        have HB5 := Lib.hid (GrowOf.own (n := k) (a := a5) (cap := c5) false hS.2).row
        have HX6 := Lib.hid (HX5.out.trans hS.1)
        clear HS hS
        go_wp2_with fail
        refine (HWD.out w6 HX6.out).mono ?_
        rintro e w7 ⟨rfl, hx7⟩
        obtain ⟨j1, j2, j3, j4⟩ := HH1.out
        have hmk := l01Make_any a5 c5 W H ml w7 j3 (by omega) (by omega) (by rw [HML.out, HN.out, Nat.mul_comm]) (RowOf.ext HB5.out hx7)
        rw [HML.out] at hmk
        have HMK := Lib.hid hmk
        have HX7 := Lib.hid (HX6.out.trans hx7)
        have hl7 : w.heap.size + 1 < w7.heap.size := (HO.out.ext HX7.out).lt
        clear hmk hx7 HB5 HX6 j1 j2 j3 j4
        go_wp2_with fail
        refine HMK.out.mono ?_
        rintro e w8 ⟨a7, c8, rfl, hx8, ho8⟩
        obtain ⟨r1, r2, r3, HR⟩ := Res.store (.slice a7 H c8) (HX0.out.trans (HX7.out.trans hx8)) (by omega) (HO.out.ext (HX7.out.trans hx8)) hl7 ho8
        clear hx8 ho8
        go_wp2
        exact bodyPost_ret (v := .tuple #[.agg #[.slice a7 H c8], .bool true]) (by simp [results, Tryz.results6, go_sem, r3]) rfl ⟨a7, c8, by rw [HRL.out], HR.out.1, by rw [HRR.out]; exact HR.out.2⟩
end Go.Proofs.YtmmanehdmnkekaaGreat
