/- FewDiscs: the reference's. -/
import Derived.Test.YtahhnjoeaodcjaaFewP
namespace Go.Proofs.Ytahhnjoeaodcjaa
open Go Go.RowKit
theorem wrap_pix {n : Nat} (h : n ≤ 4096) : wrap64 (n : Int) = (n : Int) := by
  unfold wrap64
  omega
theorem holds_pix (kind : Int) (W H : Nat) (d : Int × Int × Int) (i : Nat) (w : World) (hW : W ≤ 40) (hH : H ≤ 40) (hd : InD W H d) (hi : i < H * W) :
    Calls Try.prog 160 #[.int .i64 kind, .agg #[.int .i64 d.1, .int .i64 d.2.1, .int .i64 d.2.2], .int .i64 ((i : Int) % (W : Int)), .int .i64 (wrap64 ((i : Int) / (W : Int)))] w fun e w' => e = .returned (.bool (hasT kind d ((i % W : Nat) : Int) ((i / W : Nat) : Int))) ∧ w.Ext w' := by
  obtain ⟨x, y, k1, k2, k3, k4, -⟩ := hd
  have hx : i % W < W := Nat.mod_lt _ (by omega)
  have hy : i / W < H := Nat.div_lt_of_lt_mul (by rw [Nat.mul_comm]; exact hi)
  have tm : (i : Int) % (W : Int) = ((i % W : Nat) : Int) := by rw [← Int.natCast_emod]
  have td : wrap64 ((i : Int) / (W : Int)) = ((i / W : Nat) : Int) := by
    rw [← Int.natCast_ediv]
    generalize i / W = q at *
    exact wrap_pix (by omega)
  rw [tm, td]
  clear tm td hi
  generalize i % W = x' at *
  generalize i / W = y' at *
  obtain ⟨d1, d2, d3⟩ := d
  dsimp only at k3 k4 ⊢
  subst k3 k4
  exact l06Holds_any kind _ _ _ _ _ w (by omega) (by omega) (by omega) (by omega) _ rfl
set_option maxRecDepth 5000 in
set_option maxHeartbeats 6400000 in
theorem specFewDiscs_any (a : Option Addr) (c : Nat) (ss : List ByteArray) (kind : Int) (w : World) (hb : PicBnd ss) (hm : RowS w a ss) :
    Calls Try.prog 63 #[.agg #[.slice a ss.length c], .int .i64 kind] w (DiscsRet2 w (optD (askOk ss kind) (fewD kind (picW ss) ss.length (picL ss))) (askOk ss kind)) := by
  obtain ⟨i0, hi, hz0, hz1, hz2⟩ := info_parts Try.infoI64
  obtain ⟨d0, hd, hy0, hy1, hy2⟩ := info_parts Try.infoDisc
  obtain ⟨W0, hW0⟩ : ∃ W0, W0 = w.alloc (.cells #[.slice a ss.length c] 26) := ⟨_, rfl⟩
  have hx0 : w.Ext W0 := by rw [hW0]; repeat (first | exact World.Ext.refl _ | exact ⟨_, rfl⟩ | assumption | refine World.Ext.over ?_ _ | refine World.Ext.drewN ?_ _ | refine World.Ext.drew ?_ | refine World.Ext.alloc ?_ _ | refine World.Ext.setCell ?_ (by simp) _)
  have hc0 : W0.cell? ⟨w.heap.size, 0, none⟩ = some (.slice a ss.length c) := by rw [hW0]; simp [go_sem]
  have HASK : Hid (Calls Try.prog 155 #[.pointer (some ⟨w.heap.size, 0, none⟩), .int .i64 kind] W0 fun e w'' => e = .returned (.bool (askOk ss kind)) ∧ W0.Ext w'') := l06Ask_any _ a c ss kind W0 hb hc0 (hm.ext hx0)
  have HX0 := Lib.hid hx0
  cases h : askOk ss kind
  · rw [h] at HASK
    show Calls _ _ _ _ (DiscsRet2 w [] false)
    clear h hb hm hc0 hx0
    go_enter Try.func63, Try.ntmps63
    go_wp2_with fail
    rw [← hW0]
    refine HASK.out.mono ?_
    rintro e w1 ⟨rfl, hx1⟩
    have HX := Lib.hid (HX0.out.trans hx1)
    clear hx1 hW0
    go_wp2
    go_ret2
    exact DiscsRet2.no HX.out
  · rw [h] at HASK
    unfold askOk at h
    rw [Bool.and_eq_true] at h
    obtain ⟨q1, q2, q3, q4, he, _⟩ := picOk_spec h.1
    have HD : Hid (∀ w', W0.Ext w' → Calls Try.prog 156 #[.pointer (some ⟨w.heap.size, 0, none⟩), .int .i64 kind] w' (DiscsRet w' (dscL kind (picW ss) ss.length (picL ss)))) := fun w' hx => l06Discs_any _ kind a c ss w' he (by omega) (by omega) (hx.cell hc0) (hm.ext (hx0.trans hx))
    have HWS : Hid (∀ w', W0.Ext w' → Calls Try.prog 99 #[.pointer (some ⟨w.heap.size, 0, none⟩)] w' fun e w'' => e = .returned (.int .i64 (picW ss)) ∧ w'.Ext w'') := fun w' hx => l01Width_any _ a c ss w' he.1 (by omega) (by omega) (hx.cell hc0) (hm.ext (hx0.trans hx))
    have HHS : Hid (∀ w', W0.Ext w' → Calls Try.prog 100 #[.pointer (some ⟨w.heap.size, 0, none⟩)] w' fun e w'' => e = .returned (.int .i64 ss.length) ∧ w'.Ext w'') := fun w' hx => l01Height_any _ a c ss.length w' (by omega) (hx.cell hc0)
    obtain ⟨L, hL⟩ : ∃ L, L = dscL kind (picW ss) ss.length (picL ss) := ⟨_, rfl⟩
    have hin : ∀ i, i < L.length → InD (picW ss) ss.length (L.getD i (0, 0, 0)) := fun i hi => inD_at (fun d hd => by
      rw [hL] at hd
      unfold dscL pickD at hd
      obtain ⟨j, hj, rfl⟩ := List.mem_map.1 hd
      have hj2 := (keptL_mem.1 hj).1
      exact inD_at (fun d hd => dscTo_in (by omega) (by omega) hd) hj2) hi
    have HHO : Hid (∀ (w' : World) (k i : Nat), k < L.length → i < ss.length * picW ss → Calls Try.prog 160 #[.int .i64 kind, .agg #[.int .i64 (L.getD k (0, 0, 0)).1, .int .i64 (L.getD k (0, 0, 0)).2.1, .int .i64 (L.getD k (0, 0, 0)).2.2], .int .i64 ((i : Int) % (picW ss : Int)), .int .i64 (wrap64 ((i : Int) / (picW ss : Int)))] w' fun e w'' => e = .returned (.bool (hasH kind (picW ss) L k i)) ∧ w'.Ext w'') := fun w' k i hk hi =>
      holds_pix kind (picW ss) ss.length (L.getD k (0, 0, 0)) i w' (by omega) (by omega) (hin k hk) hi
    have HLN : Hid (L.length ≤ 256) := by
      show _ ≤ _
      rw [hL]
      exact Nat.le_trans (dscL_len _ _ _ _) (Nat.mul_le_mul (show ss.length ≤ 16 by omega) (show picW ss ≤ 16 by omega))
    have HFD : Hid (fewD kind (picW ss) ss.length (picL ss) = pickD L (fewR (hasH kind (picW ss) L) (ss.length * picW ss) L.length L.length).2) := by rw [hL]; exact fewD_eq _ _ _ _
    show Calls _ _ _ _ (DiscsRet2 w (fewD kind (picW ss) ss.length (picL ss)) true)
    rw [← hL] at HD
    clear h hb hm hc0 hx0 he hin hL
    generalize fewD kind (picW ss) ss.length (picL ss) = res at *
    generalize hasH kind (picW ss) L = hh at *
    generalize picW ss = W at *
    generalize ss.length = H at *
    obtain ⟨M, hM⟩ : ∃ M, M = H * W := ⟨_, rfl⟩
    have hWH : (W : Int) * (H : Int) = (M : Int) := by rw [hM, ← Int.natCast_mul, Nat.mul_comm]
    have hM1 : M ≤ 256 := by rw [hM]; exact Nat.mul_le_mul (show H ≤ 16 by omega) (show W ≤ 16 by omega)
    rw [← hM] at HHO HFD
    have C1 : Hid (i0.bytes * M ≤ 281474976710656) := by show _ ≤ _; rw [hz2]; omega
    have C2 : Hid (M ≤ maxLen) := by show _ ≤ _; unfold maxLen; omega
    have HWH := Lib.hid hWH
    clear hM
    go_enter Try.func63, Try.ntmps63
    go_wp2_with fail
    rw [← hW0]
    clear hW0
    refine HASK.out.mono ?_
    rintro e w1 ⟨rfl, hx1⟩
    go_wp2_with fail
    refine (HD.out _ hx1).mono ?_
    rintro e w2 ⟨a2, c2, rfl, hx2, hm2⟩
    have HX2 := Lib.hid (hx1.trans hx2)
    have HR2 := Lib.hid hm2.row
    have hb2 : ∀ i, i < L.length → ∃ b o, a2 = some ⟨b, o, none⟩ ∧ b < w2.heap.size := fun i hi => by
      obtain ⟨b, o, e, -, h, -⟩ := hm2 (i * 3) (by rw [flatD_len]; omega)
      exact ⟨b, o, e, h⟩
    have HB2 := Lib.hid hb2
    clear hx1 hx2 hm2 HD HASK hb2
    go_wp2_with fail
    refine (HWS.out _ HX2.out).mono ?_
    rintro e w3 ⟨rfl, hx3⟩
    have HX3 := Lib.hid (HX2.out.trans hx3)
    have HR3 := Lib.hid (RowD.ext HR2.out hx3)
    have hz23 := hx3.size
    clear hx3
    go_wp2_with fail
    refine (HHS.out _ HX3.out).mono ?_
    rintro e w4 ⟨rfl, hx4⟩
    have HX4 := Lib.hid (HX0.out.trans (HX3.out.trans hx4))
    have HR4 := Lib.hid (RowD.ext HR3.out hx4)
    have hz24 : w2.heap.size ≤ w4.heap.size := Nat.le_trans hz23 hx4.size
    have HZ24 := Lib.hid hz24
    clear hx4 HX3 HR3 HX2 HR2 hz23 hz24 HWS HHS
    go_wp2_with (at_make; refine wpList_make_full _ rfl _ _ 41 rfl 0 2 i0 (.int .i64 0) 1 Try.underlying41 hi hz0 hz1 .i64 .i64 _ _ M rfl rfl rfl rfl C1.out C2.out (Nat.zero_le _) (fun w5 hown hgrow => ?_); go_loud (have HS0 : Hid (CtSt w5 w4.heap.size 2 M (fun _ => 0) w5) := ⟨.refl _ _, (by have e : clL M (fun _ => 0) = List.replicate M 0 := (by unfold clL; apply List.ext_getElem (by simp); intro i h1 h2; simp); rw [e]; exact blk_of_made (f := Value.int .i64) 0 rfl hown)⟩; have HX5 : Hid (w4.Ext w5) := World.Ext.made hgrow; clear hown hgrow))
    have HR5 : Hid (∀ wr, Wrote (fun k => k = w4.heap.size) w5 wr → RowD wr a2 L) := fun wr hx i hi => by
      obtain ⟨b, o, e, hc⟩ := (HR4.out.ext HX5.out) i hi
      obtain ⟨b', o', e', hb⟩ := HB2.out 0 (by rw [flatD_len] at hi; omega)
      rw [e] at e'
      cases e'
      have := HZ24.out
      exact ⟨b, o, e, hx.cell hc (by dsimp only; omega)⟩
    have HX0' := Lib.hid (HX4.out.trans HX5.out)
    have hg4 : w4.heap.size < w5.heap.size := HS0.out.2.lt
    have hgw : w.heap.size ≤ w4.heap.size := HX4.out.size
    have HC0 : Hid (cntH hh (List.range 0) = fun _ => 0) := by show _ = _; rfl
    have HCS : Hid (∀ k p, cntH hh (List.range (k + 1)) p = cntH hh (List.range k) p + oneN (hh k p)) := fun k p => cnt_succ hh k p
    have HCL : Hid (∀ k p, cntH hh (List.range k) p ≤ k) := fun k p => cnt_le hh k p
    have HFR0 : Hid (fewR hh M L.length 0 = (cntH hh (List.range L.length), [])) := rfl
    clear HR4 HB2 HZ24 HX4 HX5 C1 C2 hi hz0 hz1 hz2
    generalize w4.heap.size = g at *
    generalize hCC : (fun k => cntH hh (List.range k)) = CC at *
    have hcc : ∀ k, cntH hh (List.range k) = CC k := fun k => congrFun hCC k
    simp only [hcc] at HC0 HCS HCL HFR0
    clear hCC hcc
    have hln : L.length ≤ 256 := HLN.out
    have hW0 : (0 : Int) < (W : Int) := by omega
    have hW1 : (W : Int) ≠ 0 := by omega
    go_wp2
    go_loopw [9, 10] (fun i _ wr => ∃ k : Nat, k ≤ L.length ∧ i = .int .i64 k ∧ Hid (CtSt w5 g 2 M (CC k) wr)) (fun i _ _ => L.length - (intOf i).toNat)
    case atStart => exact ⟨0, Nat.zero_le _, rfl, by rw [HC0.out]; exact HS0⟩
    case round =>
      obtain ⟨k, hk, rfl, HS⟩ := hrel
      clear HS0
      obtain ⟨wo, rfl⟩ : ∃ wo : World, wo = wr := ⟨_, rfl⟩
      have hk0 : (0 : Int) ≤ (k : Int) := by omega
      by_cases hltk : k < L.length
      · have hltk' : (k : Int) < (L.length : Int) := by omega
        have HSU : Hid (CtSt w5 g 2 M (upC hh k (CC k) 0) wo) := by rw [upC_zero]; exact HS
        clear HS
        go_wp2
        go_loopw [10] (fun i wr => ∃ j : Nat, j ≤ M ∧ i = .int .i64 j ∧ Hid (CtSt w5 g 2 M (upC hh k (CC k) j) wr)) (fun i _ => M - (intOf i).toNat)
        case atStart => exact ⟨0, Nat.zero_le _, rfl, HSU⟩
        case round =>
          obtain ⟨j, hj, rfl, HS⟩ := hrel
          clear HSU
          obtain ⟨wp, rfl⟩ : ∃ wp : World, wp = wr := ⟨_, rfl⟩
          have hj0 : (0 : Int) ≤ (j : Int) := by omega
          by_cases hltj : j < M
          · have hltj' : (j : Int) < (M : Int) := by omega
            obtain ⟨b1, o1, rfl, r1, r2, r3⟩ := (HR5.out wp HS.out.1).at hltk
            have HC := Lib.hid (fun w' => HHO.out w' k j hltk hltj)
            have HUA := Lib.hid (upC_at hh k (CC k) j)
            have HUN := Lib.hid (upC_next hh k (CC k) j)
            have HUE : Hid (∀ p, p ≠ j → upC hh k (CC k) (j + 1) p = upC hh k (CC k) j p) := fun p hp => upC_ne hh k (CC k) hp
            have hcl := HCL.out k j
            generalize L.getD k (0, 0, 0) = dk at *
            obtain ⟨k1, k2, k3⟩ := dk
            dsimp only at r1 r2 r3 HC
            cases hb : hh k j
            · rw [hb] at HC HUN
              have HS2 : Hid (∀ x, CtSt w5 g 2 M (upC hh k (CC k) (j + 1)) (wp.over x)) := fun x => (HS.out.ext ⟨x, rfl⟩).congr fun p _ => by
                by_cases e : p = j
                · rw [e, HUN.out, HUA.out]; rfl
                · exact (HUE.out p e).symm
              clear hb HUA HUN HUE HS
              go_wp2_with fail
              refine wp_region_over_lit (by kernel_rfl) (by kernel_rfl) ?_; (repeat (go_big_quiet_step ((go_at_call 160; exact Calls.over_of (HC.out _))))); refine wpQuiet_nil ?_; rintro _ ⟨x1, rfl⟩
              have HS3 := Lib.hid (HS2.out x1)
              clear HS2 r1 r2 r3
              go_wp2
              go_roundw
              case rel => exact ⟨j + 1, by omega, by go_num, HS3⟩
              case measure => simp [intOf]; omega
            · rw [hb] at HC HUN
              clear hb
              go_wp2_with fail
              refine wp_region_over_lit (by kernel_rfl) (by kernel_rfl) ?_; (repeat (go_big_quiet_step ((go_at_call 160; exact Calls.over_of (HC.out _))))); refine wpQuiet_nil ?_; rintro _ ⟨x1, rfl⟩
              have HS2 := Lib.hid (HS.out.ext ⟨x1, rfl⟩)
              clear HS r1 r2 r3
              generalize wp.over x1 = wq at *
              obtain ⟨t1, t2⟩ := HS2.out.cell hltj
              rw [HUA.out] at t1
              have lg := World.block_lt_of_cell? _ _ t1
              have HS3 : Hid (CtSt w5 g 2 M (upC hh k (CC k) (j + 1)) (wq.setCell ⟨g, j, none⟩ (.int .i64 ((CC k j : Nat) + 1)))) := HS2.out.set hltj (by rw [HUN.out]; simp [oneN]) fun p _ hp => HUE.out p hp
              clear HUA HUN HUE HS2
              generalize CC k j = cj at *
              go_wp2
              go_roundw
              case rel => exact ⟨j + 1, by omega, by go_num, HS3⟩
              case measure => simp [intOf]; omega
          · have : j = M := by omega
            have hnl : ¬ (j : Int) < (M : Int) := by omega
            have HS2 : Hid (CtSt w5 g 2 M (CC (k + 1)) wp) := HS.out.congr fun p hp => by
              rw [HCS.out]
              unfold upC
              rw [if_pos (by omega)]
            clear HS
            go_wp2
            go_roundw
            case rel => exact ⟨k + 1, by omega, by go_num, HS2⟩
            case measure => simp [intOf]; omega
      · have hke : k = L.length := by omega
        have hnl : ¬ (k : Int) < (L.length : Int) := by omega
        have HS1 : Hid (CtSt w5 g 2 M (fewR hh M L.length 0).1 wo) := by rw [HFR0.out, ← hke]; exact HS
        have HFR2 : Hid ((fewR hh M L.length 0).2 = []) := rfl
        have HFY : Hid (∀ k, k < L.length → needB hh M (fewR hh M L.length k).1 k = true → (fewR hh M L.length (k + 1)).1 = (fewR hh M L.length k).1 ∧ (fewR hh M L.length (k + 1)).2 = (fewR hh M L.length k).2 ++ [k]) := fun k hk h => by rw [fewR_yes hk h]; exact ⟨rfl, rfl⟩
        have HFN : Hid (∀ k, k < L.length → needB hh M (fewR hh M L.length k).1 k = false → (fewR hh M L.length (k + 1)).1 = lessH hh (fewR hh M L.length k).1 k ∧ (fewR hh M L.length (k + 1)).2 = (fewR hh M L.length k).2) := fun k hk h => by rw [fewR_no hk h]; exact ⟨rfl, rfl⟩
        have HFL : Hid (∀ k p, (fewR hh M L.length k).1 p ≤ L.length) := fun k p => fewR_le p k
        have HFK : Hid (∀ k, (fewR hh M L.length k).2.length ≤ k) := fun k => fewR_len k
        have HFP : Hid (∀ k p, k < L.length → hh k p = true → 0 < (fewR hh M L.length k).1 p) := fun k p => fewR_pos
        have HR8 : Hid (∀ wr, Wrote (fun k => k = g) wo wr → RowD wr a2 L) := fun wr hx => HR5.out wr (HS1.out.1.trans hx)
        have hgo : g < wo.heap.size := HS1.out.2.lt
        have HXW : Hid (∀ wr, Wrote (fun k => k = g) wo wr → w.Ext wr) := fun wr hx => HX0'.out.wroteNew (HS1.out.1.trans hx) fun k hk e => by omega
        have hwo : w.heap.size ≤ wo.heap.size := Nat.le_trans hgw (Nat.le_of_lt hgo)
        clear HS HFR0 HCS HCL HR5 HC0
        generalize fewR hh M L.length = FR at *
        have HST : Hid (FwSt wo g 2 M (.slice (some ⟨wo.heap.size, 0, none⟩) 0 0) (pickD L (FR 0).2) (FR 0).1 (wo.alloc (.cells #[] 98))) := by
          have hx : wo.Ext (wo.alloc (.cells #[] 98)) := by repeat (first | exact World.Ext.refl _ | exact ⟨_, rfl⟩ | assumption | refine World.Ext.over ?_ _ | refine World.Ext.drewN ?_ _ | refine World.Ext.drew ?_ | refine World.Ext.alloc ?_ _ | refine World.Ext.setCell ?_ (by simp) _)
          show FwSt _ _ _ _ _ _ _ _
          rw [HFR2.out]
          exact ⟨⟨hx.wrote _, HS1.out.2.ext hx⟩, GrowD.empty _ (Nat.le_refl _)⟩
        clear HS1 HFR2
        go_wp2
        go_loopw [11, 12, 13, 14, 15] (fun v i _ _ _ wr => ∃ k : Nat, k ≤ L.length ∧ i = .int .i64 k ∧ Hid (FwSt wo g 2 M v (pickD L (FR k).2) (FR k).1 wr)) (fun _ i _ _ _ _ => L.length - (intOf i).toNat)
        case atStart => exact ⟨0, Nat.zero_le _, rfl, HST⟩
        case round =>
          clear hnl hke hltk
          obtain ⟨k, hk, rfl, HS⟩ := hrel
          clear HST
          obtain ⟨wp, rfl⟩ : ∃ wp : World, wp = wr := ⟨_, rfl⟩
          have hk0 : (0 : Int) ≤ (k : Int) := by omega
          by_cases hltk : k < L.length
          · have hltk' : (k : Int) < (L.length : Int) := by omega
            have HY := Lib.hid (HFY.out k hltk)
            have HN := Lib.hid (HFN.out k hltk)
            have HCL := Lib.hid (HFL.out k)
            have HPO : Hid (∀ p, hh k p = true → 0 < (FR k).1 p) := fun p h => HFP.out k p hltk h
            have HFKk := HFK.out k
            obtain ⟨AN, hAN⟩ : ∃ AN : Nat → Bool, AN = fun j => (List.range j).any fun p => hh k p && decide ((FR k).1 p = 1) := ⟨_, rfl⟩
            have HAN0 : Hid (AN 0 = false) := by rw [hAN]; rfl
            have HANS : Hid (∀ j, AN (j + 1) = (AN j || (hh k j && decide ((FR k).1 j = 1)))) := fun j => by rw [hAN]; exact any_range_succ _ j
            have HANE : Hid (needB hh M (FR k).1 k = AN M) := by rw [hAN]; rfl
            clear hAN
            obtain ⟨C, hC⟩ : ∃ C, C = (FR k).1 := ⟨_, rfl⟩
            obtain ⟨O, hO⟩ : ∃ O, O = (FR k).2 := ⟨_, rfl⟩
            rw [← hC] at HY HN HCL HPO HANE HS
            rw [← hO] at HY HN HS HFKk
            simp only [← hC] at HANS
            clear hC hO
            go_wp2
            go_loopw [13, 14] (fun q i wr => ∃ (j : Nat) (nd : Bool), j ≤ M ∧ i = .int .i64 j ∧ q = .bool nd ∧ Hid (nd = AN j) ∧ Hid (FwSt wo g 2 M u11 (pickD L O) C wr)) (fun _ i _ => M - (intOf i).toNat)
            case atStart => exact ⟨0, false, Nat.zero_le _, rfl, rfl, HAN0.out.symm, HS⟩
            case round =>
              clear HS
              obtain ⟨j, nd, hj, rfl, rfl, HND, HS⟩ := hrel
              obtain ⟨wq, rfl⟩ : ∃ wq : World, wq = wr := ⟨_, rfl⟩
              have hj0 : (0 : Int) ≤ (j : Int) := by omega
              by_cases hltj : j < M
              · have hltj' : (j : Int) < (M : Int) := by omega
                cases nd
                · obtain ⟨b1, o1, rfl, r1, r2, r3⟩ := (HR8.out wq HS.out.ct.1).at hltk
                  obtain ⟨t1, -⟩ := HS.out.ct.cell hltj
                  have HC := Lib.hid (fun w' => HHO.out w' k j hltk hltj)
                  have HA := Lib.hid (HANS.out j)
                  rw [← HND.out, Bool.false_or] at HA
                  obtain ⟨z, hz⟩ : ∃ z : Int, z = ((C j : Nat) : Int) := ⟨_, rfl⟩
                  rw [← hz] at t1
                  have hz1 : (z == 1) = decide (C j = 1) := by
                    rw [hz, Bool.eq_iff_iff, beq_iff_eq, decide_eq_true_eq]
                    omega
                  clear hz HND
                  generalize L.getD k (0, 0, 0) = dk at *
                  obtain ⟨k1, k2, k3⟩ := dk
                  dsimp only at r1 r2 r3 HC
                  cases hb : decide (C j = 1)
                  · rw [hb, Bool.and_false] at HA
                    rw [hb] at hz1
                    clear hb HC
                    go_wp2_with fail
                    refine wp_region_over_lit (by kernel_rfl) (by kernel_rfl) ?_; (repeat (go_big_quiet_step (fail))); refine wpQuiet_nil ?_; rintro _ ⟨x1, rfl⟩
                    have HS3 := Lib.hid (HS.out.ext ⟨x1, rfl⟩)
                    clear HS r1 r2 r3 t1
                    go_wp2
                    go_roundw
                    case rel => exact ⟨j + 1, false, by omega, by go_num, rfl, HA.out.symm, HS3⟩
                    case measure => simp [intOf]; omega
                  · rw [hb, Bool.and_true] at HA
                    rw [hb] at hz1
                    clear hb
                    obtain ⟨an, han⟩ : ∃ an, an = AN (j + 1) := ⟨_, rfl⟩
                    rw [← HA.out, ← han] at HC
                    have HAA := Lib.hid han
                    clear han
                    go_wp2_with fail
                    refine wp_region_over_lit (by kernel_rfl) (by kernel_rfl) ?_; (repeat (go_big_quiet_step ((go_at_call 160; exact Calls.over_of (HC.out _))))); refine wpQuiet_nil ?_; rintro _ ⟨x1, rfl⟩
                    have HS3 := Lib.hid (HS.out.ext ⟨x1, rfl⟩)
                    clear HS r1 r2 r3 t1
                    go_wp2
                    go_roundw
                    case rel => exact ⟨j + 1, an, by omega, by go_num, rfl, HAA, HS3⟩
                    case measure => simp [intOf]; omega
                · have HA : Hid (true = AN (j + 1)) := by show _ = _; rw [HANS.out, ← HND.out]; rfl
                  clear HND
                  go_wp2_with fail
                  refine wp_region_over_lit (by kernel_rfl) (by kernel_rfl) ?_; (repeat (go_big_quiet_step (fail))); refine wpQuiet_nil ?_; rintro _ ⟨x1, rfl⟩
                  have HS3 := Lib.hid (HS.out.ext ⟨x1, rfl⟩)
                  clear HS
                  go_wp2
                  go_roundw
                  case rel => exact ⟨j + 1, true, by omega, by go_num, rfl, HA, HS3⟩
                  case measure => simp [intOf]; omega
              · have hjM : j = M := by omega
                have hnl : ¬ (j : Int) < (M : Int) := by omega
                have HNB : Hid (needB hh M C k = nd) := by show _ = _; rw [HANE.out, ← hjM]; exact HND.out.symm
                clear HND HANE HANS HAN0
                cases nd
                · have HN2 := Lib.hid (HN.out HNB.out)
                  have HS1 : Hid (FwSt wo g 2 M u11 (pickD L O) (dnC hh k C 0) wq) := by rw [dnC_zero]; exact HS
                  clear HNB HY HN HS
                  go_wp2
                  go_loopw [15] (fun i wr => ∃ j : Nat, j ≤ M ∧ i = .int .i64 j ∧ Hid (FwSt wo g 2 M u11 (pickD L O) (dnC hh k C j) wr)) (fun i _ => M - (intOf i).toNat)
                  case atStart => exact ⟨0, Nat.zero_le _, rfl, HS1⟩
                  case round =>
                    clear HS1 hjM hnl hltj
                    obtain ⟨j, hj, rfl, HS⟩ := hrel
                    obtain ⟨wz, rfl⟩ : ∃ wz : World, wz = wr := ⟨_, rfl⟩
                    have hj0 : (0 : Int) ≤ (j : Int) := by omega
                    by_cases hltj : j < M
                    · have hltj' : (j : Int) < (M : Int) := by omega
                      obtain ⟨b1, o1, rfl, r1, r2, r3⟩ := (HR8.out wz HS.out.ct.1).at hltk
                      have HC := Lib.hid (fun w' => HHO.out w' k j hltk hltj)
                      have HUA := Lib.hid (dnC_at hh k C j)
                      have HUN := Lib.hid (dnC_next hh k C j)
                      have HUE : Hid (∀ p, p ≠ j → dnC hh k C (j + 1) p = dnC hh k C j p) := fun p hp => dnC_ne hh k C hp
                      have hcl := HCL.out j
                      have HPJ := Lib.hid (HPO.out j)
                      generalize L.getD k (0, 0, 0) = dk at *
                      obtain ⟨k1, k2, k3⟩ := dk
                      dsimp only at r1 r2 r3 HC
                      cases hb : hh k j
                      · rw [hb] at HC HUN
                        have HS2 : Hid (∀ x, FwSt wo g 2 M u11 (pickD L O) (dnC hh k C (j + 1)) (wz.over x)) := fun x => (HS.out.ext ⟨x, rfl⟩).congr fun p _ => by
                          by_cases e : p = j
                          · rw [e, HUN.out, HUA.out]; rfl
                          · exact (HUE.out p e).symm
                        clear hb HUA HUN HUE HS HPJ
                        go_wp2_with fail
                        refine wp_region_over_lit (by kernel_rfl) (by kernel_rfl) ?_; (repeat (go_big_quiet_step ((go_at_call 160; exact Calls.over_of (HC.out _))))); refine wpQuiet_nil ?_; rintro _ ⟨x1, rfl⟩
                        have HS3 := Lib.hid (HS2.out x1)
                        clear HS2 r1 r2 r3
                        go_wp2
                        go_roundw
                        case rel => exact ⟨j + 1, by omega, by go_num, HS3⟩
                        case measure => simp [intOf]; omega
                      · rw [hb] at HC HUN
                        have hpj := HPJ.out hb
                        clear hb HPJ
                        go_wp2_with fail
                        refine wp_region_over_lit (by kernel_rfl) (by kernel_rfl) ?_; (repeat (go_big_quiet_step ((go_at_call 160; exact Calls.over_of (HC.out _))))); refine wpQuiet_nil ?_; rintro _ ⟨x1, rfl⟩
                        have HS2 := Lib.hid (HS.out.ext ⟨x1, rfl⟩)
                        clear HS r1 r2 r3
                        generalize wz.over x1 = wy at *
                        obtain ⟨t1, t2⟩ := HS2.out.ct.cell hltj
                        rw [HUA.out] at t1
                        have lg := World.block_lt_of_cell? _ _ t1
                        have HS3 : Hid (FwSt wo g 2 M u11 (pickD L O) (dnC hh k C (j + 1)) (wy.setCell ⟨g, j, none⟩ (.int .i64 ((C j : Nat) - 1)))) := HS2.out.set hgo hltj (by rw [HUN.out]; simp only [oneN, if_true]; omega) fun p _ hp => HUE.out p hp
                        clear HUA HUN HUE HS2
                        generalize C j = cj at *
                        go_wp2
                        go_roundw
                        case rel => exact ⟨j + 1, by omega, by go_num, HS3⟩
                        case measure => simp [intOf]; omega
                    · have hnl : ¬ (j : Int) < (M : Int) := by omega
                      have HS2 : Hid (FwSt wo g 2 M u11 (pickD L (FR (k + 1)).2) (FR (k + 1)).1 wz) := by
                        have h := HS.out.congr (c' := (FR (k + 1)).1) fun p hp => by
                          rw [HN2.out.1, less_oneN]
                          unfold dnC
                          rw [if_pos (by omega)]
                        rw [← HN2.out.2] at h
                        exact h
                      clear HS HN2
                      go_wp2
                      go_roundw
                      case rel => exact ⟨k + 1, by omega, by go_num, HS2⟩
                      case measure => simp [intOf]; omega
                · have HY2 := Lib.hid (HY.out HNB.out)
                  clear HNB HY HN
                  obtain ⟨b1, o1, rfl, r1, r2, r3⟩ := (HR8.out wq HS.out.ct.1).at hltk
                  have hol : (pickD L O).length = O.length := by unfold pickD; rw [List.length_map]
                  have HB1 : Hid ((pickD L O).length + 1 ≤ maxLen) := by show _ ≤ _; rw [hol]; unfold maxLen; omega
                  have HB2 : Hid (((pickD L O).length + 1) * 24 ≤ 140737488355328) := by show _ ≤ _; rw [hol]; omega
                  have HQ : Hid (pickD L (FR (k + 1)).2 = pickD L O ++ [L.getD k (0, 0, 0)]) := by show _ = _; rw [HY2.out.2, pickD_snoc]
                  have HNEXT : Hid (∀ (o : Obj) (v' : Value) (w4 : World), (wq.alloc o).grownBy w4 u11.ownBlock → w4.ownsRow wo.heap.size 98 3 v' ((pickD L O).length + 1) ((flatD (pickD L O)).map (Value.int .i64) ++ [.int .i64 (L.getD k (0, 0, 0)).1, .int .i64 (L.getD k (0, 0, 0)).2.1, .int .i64 (L.getD k (0, 0, 0)).2.2]) → Hid (FwSt wo g 2 M v' (pickD L (FR (k + 1)).2) (FR (k + 1)).1 w4)) := fun o v' w4 hg ho => by
                    show FwSt _ _ _ _ _ _ _ _
                    rw [HQ.out, HY2.out.1]
                    exact (HS.out.ext (by repeat (first | exact World.Ext.refl _ | exact ⟨_, rfl⟩ | assumption | refine World.Ext.over ?_ _ | refine World.Ext.drewN ?_ _ | refine World.Ext.drew ?_ | refine World.Ext.alloc ?_ _ | refine World.Ext.setCell ?_ (by simp) _))).push hgo hg ho
                  have hown := HS.out.d
                  unfold GrowD at hown
                  have HLE : ∀ o' : Obj, wo.heap.size ≤ (wq.alloc o').heap.size := fun o' => by have := HS.out.ct.1.size; simp; omega
                  clear HS HQ hol HY2
                  generalize pickD L O = ps at *
                  generalize L.getD k (0, 0, 0) = dk at *
                  obtain ⟨k1, k2, k3⟩ := dk
                  dsimp only at r1 r2 r3 HNEXT
                  go_wp2_with (at_builtin; refine wpList_append_own _ rfl _ _ 88 rfl wo.heap.size 98 d0 (.agg #[.int .i64 0, .int .i64 0, .int .i64 0]) 3 24 Try.underlying88 hd hy0 hy1 hy2 rfl (by decide) _ _ _ rfl (hown.alloc _) ⟨wq.heap.size, 0, none⟩ 1 1 [.int .i64 k1, .int .i64 k2, .int .i64 k3] rfl rfl (cell_three_at (by simp)) (by simp [Value.oneCell']) HB1.out HB2.out (HLE _) (fun v' w4 hown' hgrow _ => ?_); have HS9 := HNEXT.out _ _ _ hgrow hown'; clear hgrow hown' hown)
                  go_roundw
                  case rel => exact ⟨k + 1, by omega, by go_num, HS9⟩
                  case measure => simp [intOf]; omega
          · have hke : k = L.length := by omega
            have hnl : ¬ (k : Int) < (L.length : Int) := by omega
            rw [hke] at HS
            obtain ⟨a9, c9, rfl, _⟩ := HS.out.d.form
            have HR : Hid (DiscsRet2 w res true (.returned (.tuple #[.slice a9 (pickD L (FR L.length).2).length c9, .bool true])) wp) := by
              show DiscsRet2 _ _ _ _ _
              rw [HFD.out]
              exact ⟨a9, c9, rfl, HXW.out wp HS.out.ct.1, HS.out.d.own.mono hwo (Nat.le_refl _)⟩
            clear HS
            go_wp2
            go_ret2
            exact HR.out
end Go.Proofs.Ytahhnjoeaodcjaa
