/- FewDiscs: the program's. -/
import Derived.Test.YtahhnjoeaodcjaaFewP
namespace Go.Proofs.Ytahhnjoeaodcjaa
open Go Go.RowKit
theorem pixD_at {kind : Int} {W H : Nat} (d : Int × Int × Int) {p : Nat} (hp : p < H * W) : (pixD kind W H d).getD p false = hasT kind d ((p % W : Nat) : Int) ((p / W : Nat) : Int) := by
  unfold pixD mkl
  rw [List.getD_eq_getElem?_getD, List.getElem?_map, List.getElem?_range hp]
  rfl
theorem oneN_le (t : Bool) : oneN t ≤ 1 := by cases t <;> decide
theorem optF_bnd (ss : List ByteArray) (kind : Int) : (optD (askOk ss kind) (fewD kind (picW ss) ss.length (picL ss))).length ≤ 262144 := by
  cases h : askOk ss kind
  · show ([] : List (Int × Int × Int)).length ≤ _
    simp
  · have h2 := h
    unfold askOk at h2
    rw [Bool.and_eq_true] at h2
    obtain ⟨q1, q2, q3, q4, -⟩ := picOk_spec h2.1
    show (fewD kind (picW ss) ss.length (picL ss)).length ≤ _
    have h3 : (fewD kind (picW ss) ss.length (picL ss)).length ≤ (dscL kind (picW ss) ss.length (picL ss)).length := by
      unfold fewD pickD
      rw [List.length_map]
      have := (fewL_sub (h := hasH kind (picW ss) (dscL kind (picW ss) ss.length (picL ss))) (m := ss.length * picW ss) (js := List.range (dscL kind (picW ss) ss.length (picL ss)).length)).length_le
      rwa [List.length_range] at this
    have := dscL_len kind (picW ss) ss.length (picL ss)
    have := Nat.mul_le_mul (show ss.length ≤ 64 by omega) (show picW ss ≤ 64 by omega)
    omega
theorem oneN_any (t : Bool) (w : World) : Calls Try.prog 96 #[.bool t] w fun e w' => e = .returned (.int .i64 (oneN t : Nat)) ∧ w.Ext w' := by
  cases t
  · go_enter Try.func96, Try.ntmps96
    go_wp2
    go_ret
    exact ⟨rfl, .refl _⟩
  · go_enter Try.func96, Try.ntmps96
    go_wp2
    go_ret
    exact ⟨rfl, .refl _⟩
theorem Try.infoIntF : (Try.prog.info? 3).map (fun i => (i.zero, i.size, i.bytes)) = some (some (.int .i64 0), 1, 8) := by kernel_rfl
/-- Images in a slice of pointers: number k has the pixels of row k. -/
def ImgRow (w : World) (a : Option Addr) (n M : Nat) (hh : Nat → Nat → Bool) : Prop := ∀ k, k < n → ∃ b o bk ab cap, a = some ⟨b, o, none⟩ ∧ w.cell? ⟨b, o + k, none⟩ = some (.pointer (some ⟨bk, 0, none⟩)) ∧ w.cell? ⟨bk, 2, none⟩ = some (.slice (some ⟨ab, 0, none⟩) M cap) ∧ ∀ j, j < M → w.cell? ⟨ab, j, none⟩ = some (.bool (hh k j))
set_option maxRecDepth 5000 in
set_option maxHeartbeats 6400000 in
theorem implFewDiscs_any (a : Option Addr) (c : Nat) (ss : List ByteArray) (kind : Int) (w : World) (hb : PicBnd ss) (hm : RowS w a ss) :
    Calls Try.prog 64 #[.agg #[.slice a ss.length c], .int .i64 kind] w (DiscsRet2 w (optD (askOk ss kind) (fewD kind (picW ss) ss.length (picL ss))) (askOk ss kind)) := by
  obtain ⟨i0, hi, hz0, hz1, hz2⟩ := info_parts Try.infoIntF
  obtain ⟨d0, hd, hy0, hy1, hy2⟩ := info_parts Try.infoDisc
  obtain ⟨W0, hW0⟩ : ∃ W0, W0 = w.alloc (.cells #[.slice a ss.length c] 26) := ⟨_, rfl⟩
  have hx0 : w.Ext W0 := by rw [hW0]; repeat (first | exact World.Ext.refl _ | exact ⟨_, rfl⟩ | assumption | refine World.Ext.over ?_ _ | refine World.Ext.drewN ?_ _ | refine World.Ext.drew ?_ | refine World.Ext.alloc ?_ _ | refine World.Ext.setCell ?_ (by simp) _)
  have hc0 : W0.cell? ⟨w.heap.size, 0, none⟩ = some (.slice a ss.length c) := by rw [hW0]; simp [go_sem]
  have HIO : Hid (Calls Try.prog 90 #[.agg #[.slice a ss.length c]] W0 (ImgOf W0 ss (picOk ss))) := imageOf_any a c ss W0 hb.1 hb.2 (hm.ext hx0) _ rfl
  have HX0 := Lib.hid hx0
  have HK : Hid (∀ w, Calls Try.prog 157 #[.int .i64 kind] w fun e w' => e = .returned (.bool (inB kind 0 2)) ∧ w.Ext w') := fun w => kindOk_any kind w _ rfl
  clear hm hb hx0
  cases h : picOk ss
  · rw [h] at HIO
    have e : askOk ss kind = false := by unfold askOk; rw [h]; rfl
    rw [e]
    show Calls _ _ _ _ (DiscsRet2 w [] false)
    clear h hc0 e
    go_enter Try.func64, Try.ntmps64
    go_wp2_with fail
    rw [← hW0]
    refine HIO.out.mono ?_
    rintro e w1 ⟨rfl, hx1⟩
    have HX := Lib.hid (HX0.out.trans hx1)
    clear hx1 hW0
    go_wp2
    go_ret2
    exact DiscsRet2.no HX.out
  · rw [h] at HIO
    obtain ⟨q1, q2, q3, q4, he, _⟩ := picOk_spec h
    have e : askOk ss kind = inB kind 0 2 := by unfold askOk; rw [h]; rfl
    rw [e]
    cases hk : inB kind 0 2
    · rw [hk] at HK
      show Calls _ _ _ _ (DiscsRet2 w [] false)
      clear h hc0 e hk he
      go_enter Try.func64, Try.ntmps64
      go_wp2_with fail
      rw [← hW0]
      refine HIO.out.mono ?_
      rintro e w1 ⟨b, ab, rfl, hx1, hi1, _⟩
      clear hi1
      go_wp2_with fail
      refine (HK.out _).mono ?_
      rintro e w2 ⟨rfl, hx2⟩
      have HX := Lib.hid (HX0.out.trans (hx1.trans hx2))
      clear hx1 hx2 hW0
      go_wp2
      go_ret2
      exact DiscsRet2.no HX.out
    · rw [hk] at HK
      show Calls _ _ _ _ (DiscsRet2 w (fewD kind (picW ss) ss.length (picL ss)) true)
      have HDC : Hid (∀ w' b ab, Img w' b ab (picW ss) ss.length (picL ss) → Calls Try.prog 158 #[.pointer (some ⟨b, 0, none⟩), .int .i64 kind] w' (DiscsPix w' kind (picW ss) ss.length (dscL kind (picW ss) ss.length (picL ss)))) := fun w' b ab hI => discs_any b ab _ _ kind _ w' (by omega) (by omega) hI
      have HLP : Hid ((picL ss).length = ss.length * picW ss) := by show _ = _; rw [picL_len he, Nat.mul_comm]
      obtain ⟨L, hL⟩ : ∃ L, L = dscL kind (picW ss) ss.length (picL ss) := ⟨_, rfl⟩
      have HLN : Hid (L.length ≤ 256) := by
        show _ ≤ _
        rw [hL]
        exact Nat.le_trans (dscL_len _ _ _ _) (Nat.mul_le_mul (show ss.length ≤ 16 by omega) (show picW ss ≤ 16 by omega))
      have HFD : Hid (fewD kind (picW ss) ss.length (picL ss) = pickD L (fewR (hasH kind (picW ss) L) (ss.length * picW ss) L.length L.length).2) := by rw [hL]; exact fewD_eq _ _ _ _
      rw [← hL] at HDC
      have HPX : Hid (∀ k j, j < ss.length * picW ss → (pixD kind (picW ss) ss.length (L.getD k (0, 0, 0))).getD j false = hasH kind (picW ss) L k j) := fun k j hj => pixD_at _ hj
      have HPL : Hid (∀ k, (pixD kind (picW ss) ss.length (L.getD k (0, 0, 0))).length = ss.length * picW ss) := fun k => mkl_len _ _ _
      clear h hc0 e hk he hL
      generalize fewD kind (picW ss) ss.length (picL ss) = res at *
      generalize hasH kind (picW ss) L = hh at *
      obtain ⟨M, hM⟩ : ∃ M, M = ss.length * picW ss := ⟨_, rfl⟩
      have hM1 : M ≤ 256 := by rw [hM]; exact Nat.mul_le_mul (show ss.length ≤ 16 by omega) (show picW ss ≤ 16 by omega)
      rw [← hM] at HFD HLP
      simp only [← hM] at HPX HPL
      have C1 : Hid (i0.bytes * M ≤ 281474976710656) := by show _ ≤ _; rw [hz2]; omega
      have C2 : Hid (M ≤ maxLen) := by show _ ≤ _; unfold maxLen; omega
      clear hM
      go_enter Try.func64, Try.ntmps64
      go_wp2_with fail
      rw [← hW0]
      refine HIO.out.mono ?_
      rintro e w1 ⟨b, ab, rfl, hx1, hi1, _⟩
      have HI := Lib.hid hi1
      clear hi1
      go_wp2_with fail
      refine (HK.out _).mono ?_
      rintro e w2 ⟨rfl, hx2⟩
      have HX := Lib.hid (HX0.out.trans (hx1.trans hx2))
      have HI2 := Lib.hid (HI.out.ext hx2)
      clear hx1 hx2 hW0 HI
      go_wp2_with fail
      refine (HDC.out w2 b ab HI2.out).mono ?_
      rintro e w4 ⟨a2, c2, a3, c3, bs, rfl, hx4, hm2, hbl, hrow, himg⟩
      have HX4 := Lib.hid (HX.out.trans hx4)
      obtain ⟨cap, hc2⟩ := (HI2.out.ext hx4).c2
      have lb := (HI2.out.ext hx4).lt
      rw [HLP.out] at hc2
      have HR4 := Lib.hid hm2.row
      have HB4 : Hid (∀ i, i < L.length → ∃ b o, a2 = some ⟨b, o, none⟩ ∧ b < w4.heap.size) := fun i hi => by
        obtain ⟨b, o, e, -, h, -⟩ := hm2 (i * 3) (by rw [flatD_len]; omega)
        exact ⟨b, o, e, h⟩
      have HIR : Hid (ImgRow w4 a3 L.length M hh) := fun k hk => by
        obtain ⟨b1, o1, e1, q1⟩ := hrow k (by omega)
        obtain ⟨ab1, hI⟩ := himg k (by omega)
        obtain ⟨cap1, q2⟩ := hI.c2
        rw [HPL.out] at q2
        refine ⟨b1, o1, bs.getD k 0, ab1, cap1, e1, q1, q2, fun j hj => ?_⟩
        rw [← HPX.out k j hj]
        exact hI.px.cell false (by rw [HPL.out]; exact hj)
      clear hx4 hm2 hbl hrow himg HI2 HDC HPX HPL HLP HIO HX0 HK HX
      go_wp2_with (at_make; refine wpList_make_full _ rfl _ _ 203 rfl 0 3 i0 (.int .i64 0) 1 Try.underlying203 hi hz0 hz1 .i64 .i64 _ _ M rfl rfl rfl rfl C1.out C2.out (Nat.zero_le _) (fun w5 hown hgrow => ?_); go_loud (have HS0 : Hid (CtSt w5 w4.heap.size 3 M (fun _ => 0) w5) := ⟨.refl _ _, (by have e : clL M (fun _ => 0) = List.replicate M 0 := (by unfold clL; apply List.ext_getElem (by simp); intro i h1 h2; simp); rw [e]; exact blk_of_made (f := Value.int .i64) 0 rfl hown)⟩; have HX5 : Hid (w4.Ext w5) := World.Ext.made hgrow; clear hown hgrow))
      clear hc2 lb
      have HR5 : Hid (∀ wr, Wrote (fun k => k = w4.heap.size) w5 wr → RowD wr a2 L) := fun wr hx i hi => by
        obtain ⟨b, o, e, hc⟩ := (HR4.out.ext HX5.out) i hi
        obtain ⟨b', o', e', hb⟩ := HB4.out 0 (by rw [flatD_len] at hi; omega)
        rw [e] at e'
        cases e'
        exact ⟨b, o, e, hx.cell hc (by dsimp only; omega)⟩
      have HKP : Hid (∀ wr, Wrote (fun k => k = w4.heap.size) w5 wr → ∀ (ad : Addr) (v : Value), w4.cell? ad = some v → wr.cell? ad = some v) := fun wr hx ad v hc => by
        have := World.block_lt_of_cell? _ _ hc
        exact hx.cell (HX5.out.cell hc) (by omega)
      have HX0' := Lib.hid (HX4.out.trans HX5.out)
      have hg4 : w4.heap.size < w5.heap.size := HS0.out.2.lt
      have hgw : w.heap.size ≤ w4.heap.size := HX4.out.size
      have HC0 : Hid (cntH hh (List.range 0) = fun _ => 0) := by show _ = _; rfl
      have HCS : Hid (∀ k p, cntH hh (List.range (k + 1)) p = cntH hh (List.range k) p + oneN (hh k p)) := fun k p => cnt_succ hh k p
      have HCL : Hid (∀ k p, cntH hh (List.range k) p ≤ k) := fun k p => cnt_le hh k p
      have HFR0 : Hid (fewR hh M L.length 0 = (cntH hh (List.range L.length), [])) := rfl
      clear HR4 HB4 HX4 HX5 C1 C2 hi hz0 hz1 hz2
      generalize w4.heap.size = g at *
      generalize hCC : (fun k => cntH hh (List.range k)) = CC at *
      have hcc : ∀ k, cntH hh (List.range k) = CC k := fun k => congrFun hCC k
      simp only [hcc] at HC0 HCS HCL HFR0
      clear hCC hcc
      have hln : L.length ≤ 256 := HLN.out
      go_wp2
      go_loopw [12, 13, 14, 49] (fun _ _ _ i wr => ∃ k : Nat, k ≤ L.length ∧ i = .int .i64 k ∧ Hid (CtSt w5 g 3 M (CC k) wr)) (fun _ _ _ i _ => L.length - (intOf i).toNat)
      case atStart => exact ⟨0, Nat.zero_le _, rfl, by rw [HC0.out]; exact HS0⟩
      case round =>
        obtain ⟨k, hk, rfl, HS⟩ := hrel
        clear HS0
        obtain ⟨wo, rfl⟩ : ∃ wo : World, wo = wr := ⟨_, rfl⟩
        have hk0 : (0 : Int) ≤ (k : Int) := by omega
        by_cases hltk : k < L.length
        · have hltk' : (k : Int) < (L.length : Int) := by omega
          have HSU : Hid (CtSt w5 g 3 M (upC hh k (CC k) 0) wo) := by rw [upC_zero]; exact HS
          obtain ⟨b1, o1, bk, abk, capk, rfl, u1, u2, u3⟩ := HIR.out k hltk
          have HU := Lib.hid u3
          have t1 := HKP.out wo HS.out.1 _ _ u1
          have t2 := HKP.out wo HS.out.1 _ _ u2
          have lbk := World.block_lt_of_cell? _ _ t2
          clear HS u1 u2 u3
          go_wp2
          clear t1 t2 lbk
          go_loopw [13, 14, 58] (fun _ _ i wr => ∃ j : Nat, j ≤ M ∧ i = .int .i64 j ∧ Hid (CtSt w5 g 3 M (upC hh k (CC k) j) wr)) (fun _ _ i _ => M - (intOf i).toNat)
          case atStart => exact ⟨0, Nat.zero_le _, rfl, HSU⟩
          case round =>
            obtain ⟨j, hj, rfl, HS⟩ := hrel
            clear HSU
            obtain ⟨wp, rfl⟩ : ∃ wp : World, wp = wr := ⟨_, rfl⟩
            have hj0 : (0 : Int) ≤ (j : Int) := by omega
            by_cases hltj : j < M
            · have hltj' : (j : Int) < (M : Int) := by omega
              have r1 := HKP.out wp HS.out.1 _ _ (HU.out j hltj)
              have HUA := Lib.hid (upC_at hh k (CC k) j)
              have HUN := Lib.hid (upC_next hh k (CC k) j)
              have HUE : Hid (∀ p, p ≠ j → upC hh k (CC k) (j + 1) p = upC hh k (CC k) j p) := fun p hp => upC_ne hh k (CC k) hp
              have hcl := HCL.out k j
              obtain ⟨t1, t2⟩ := HS.out.cell hltj
              rw [HUA.out] at t1
              have lg := World.block_lt_of_cell? _ _ t1
              have HC := Lib.hid (fun w' => oneN_any (hh k j) w')
              have hon := oneN_le (hh k j)
              have HS2 : Hid (∀ x, (wp.over x).cell? ⟨g, j, none⟩ = some (.int .i64 (CC k j : Nat)) ∧ (wp.over x).frozen? ⟨g, j, none⟩ = false ∧ g < (wp.over x).heap.size ∧ CtSt w5 g 3 M (upC hh k (CC k) (j + 1)) ((wp.over x).setCell ⟨g, j, none⟩ (.int .i64 ((CC k j : Nat) + (oneN (hh k j) : Nat))))) := fun x => by
                have hx : wp.Ext (wp.over x) := ⟨x, rfl⟩
                have h := HS.out.ext hx
                obtain ⟨s1, s2⟩ := h.cell hltj
                rw [HUA.out] at s1
                exact ⟨s1, s2, World.block_lt_of_cell? _ _ s1, h.set hltj (by rw [HUN.out]; omega) fun p _ hp => HUE.out p hp⟩
              clear HUA HUN HUE HS
              generalize oneN (hh k j) = on at *
              generalize hh k j = hb at *
              generalize CC k j = cj at *
              go_wp2_with fail
              refine wp_region_over_tail 8 (by kernel_rfl) (by kernel_rfl) ?_; simp only [List.take_succ_cons, List.take_zero, List.drop_succ_cons, List.drop_zero]; (repeat (go_big_quiet_step ((go_at_call 96; exact Calls.over_of (HC.out _))))); refine wpQuiet_nil ?_; rintro _ ⟨x1, rfl⟩
              obtain ⟨s1, s2, s3, hs4⟩ := HS2.out x1
              have HS4 := Lib.hid hs4
              clear hs4 HS2 t1 t2 lg r1
              generalize wp.over x1 = wq at *
              go_wp2
              go_roundw
              case rel => exact ⟨j + 1, by omega, by go_num, HS4⟩
              case measure => simp [intOf]; omega
            · have : j = M := by omega
              have hnl : ¬ (j : Int) < (M : Int) := by omega
              have HS2 : Hid (CtSt w5 g 3 M (CC (k + 1)) wp) := HS.out.congr fun p hp => by
                rw [HCS.out]
                unfold upC
                rw [if_pos (by omega)]
              clear HS
              go_wp2
              go_roundw
              case rel => exact ⟨k + 1, by omega, by go_num, HS2⟩
              case measure => simp [intOf]; omega
        · have hke : k = L.length := by omega
          have hnl : ¬ (k : Int) < (L.length : Int) := by omega
          have HS1 : Hid (CtSt w5 g 3 M (fewR hh M L.length 0).1 wo) := by rw [HFR0.out, ← hke]; exact HS
          have HFR2 : Hid ((fewR hh M L.length 0).2 = []) := rfl
          have HFY : Hid (∀ k, k < L.length → needB hh M (fewR hh M L.length k).1 k = true → (fewR hh M L.length (k + 1)).1 = (fewR hh M L.length k).1 ∧ (fewR hh M L.length (k + 1)).2 = (fewR hh M L.length k).2 ++ [k]) := fun k hk h => by rw [fewR_yes hk h]; exact ⟨rfl, rfl⟩
          have HFN : Hid (∀ k, k < L.length → needB hh M (fewR hh M L.length k).1 k = false → (fewR hh M L.length (k + 1)).1 = lessH hh (fewR hh M L.length k).1 k ∧ (fewR hh M L.length (k + 1)).2 = (fewR hh M L.length k).2) := fun k hk h => by rw [fewR_no hk h]; exact ⟨rfl, rfl⟩
          have HFL : Hid (∀ k p, (fewR hh M L.length k).1 p ≤ L.length) := fun k p => fewR_le p k
          have HFK : Hid (∀ k, (fewR hh M L.length k).2.length ≤ k) := fun k => fewR_len k
          have HFP : Hid (∀ k p, k < L.length → hh k p = true → 0 < (fewR hh M L.length k).1 p) := fun k p => fewR_pos
          have HR8 : Hid (∀ wr, Wrote (fun k => k = g) wo wr → RowD wr a2 L) := fun wr hx => HR5.out wr (HS1.out.1.trans hx)
          have HKQ : Hid (∀ wr, Wrote (fun k => k = g) wo wr → ∀ (ad : Addr) (v : Value), w4.cell? ad = some v → wr.cell? ad = some v) := fun wr hx => HKP.out wr (HS1.out.1.trans hx)
          have hgo : g < wo.heap.size := HS1.out.2.lt
          have HXW : Hid (∀ wr, Wrote (fun k => k = g) wo wr → w.Ext wr) := fun wr hx => HX0'.out.wroteNew (HS1.out.1.trans hx) fun k hk e => by omega
          have hwo : w.heap.size ≤ wo.heap.size := Nat.le_trans hgw (Nat.le_of_lt hgo)
          clear HS HFR0 HCS HCL HR5 HC0 HKP
          generalize fewR hh M L.length = FR at *
          have HST : Hid (FwSt wo g 3 M (.slice (some ⟨wo.heap.size, 0, none⟩) 0 0) (pickD L (FR 0).2) (FR 0).1 (wo.alloc (.cells #[] 98))) := by
            have hx : wo.Ext (wo.alloc (.cells #[] 98)) := by repeat (first | exact World.Ext.refl _ | exact ⟨_, rfl⟩ | assumption | refine World.Ext.over ?_ _ | refine World.Ext.drewN ?_ _ | refine World.Ext.drew ?_ | refine World.Ext.alloc ?_ _ | refine World.Ext.setCell ?_ (by simp) _)
            show FwSt _ _ _ _ _ _ _ _
            rw [HFR2.out]
            exact ⟨⟨hx.wrote _, HS1.out.2.ext hx⟩, GrowD.empty _ (Nat.le_refl _)⟩
          clear HS1 HFR2
          go_wp2
          go_loopw [15, 16, 17, 18, 19, 20, 21, 22, 76] (fun v _ _ _ _ _ _ _ i wr => ∃ k : Nat, k ≤ L.length ∧ i = .int .i64 k ∧ Hid (FwSt wo g 3 M v (pickD L (FR k).2) (FR k).1 wr)) (fun _ _ _ _ _ _ _ _ i _ => L.length - (intOf i).toNat)
          case atStart => exact ⟨0, Nat.zero_le _, rfl, HST⟩
          case round =>
            clear hnl hke hltk
            obtain ⟨k, hk, rfl, HS⟩ := hrel
            clear HST
            obtain ⟨wp, rfl⟩ : ∃ wp : World, wp = wr := ⟨_, rfl⟩
            have hk0 : (0 : Int) ≤ (k : Int) := by omega
            by_cases hltk : k < L.length
            · have hltk' : (k : Int) < (L.length : Int) := by omega
              have HY := Lib.hid (HFY.out k hltk)
              have HN := Lib.hid (HFN.out k hltk)
              have HCL := Lib.hid (HFL.out k)
              have HPO : Hid (∀ p, hh k p = true → 0 < (FR k).1 p) := fun p h => HFP.out k p hltk h
              have HFKk := HFK.out k
              obtain ⟨AN, hAN⟩ : ∃ AN : Nat → Bool, AN = fun j => (List.range j).any fun p => hh k p && decide ((FR k).1 p = 1) := ⟨_, rfl⟩
              have HAN0 : Hid (AN 0 = false) := by rw [hAN]; rfl
              have HANS : Hid (∀ j, AN (j + 1) = (AN j || (hh k j && decide ((FR k).1 j = 1)))) := fun j => by rw [hAN]; exact any_range_succ _ j
              have HANE : Hid (needB hh M (FR k).1 k = AN M) := by rw [hAN]; rfl
              clear hAN
              obtain ⟨C, hC⟩ : ∃ C, C = (FR k).1 := ⟨_, rfl⟩
              obtain ⟨O, hO⟩ : ∃ O, O = (FR k).2 := ⟨_, rfl⟩
              rw [← hC] at HY HN HCL HPO HANE HS
              rw [← hO] at HY HN HS HFKk
              simp only [← hC] at HANS
              clear hC hO
              obtain ⟨b2, o2, rfl, r1, r2, r3⟩ := (HR8.out wp HS.out.ct.1).at hltk
              obtain ⟨⟨k1, k2, k3⟩, hdk⟩ : ∃ d, L.getD k (0, 0, 0) = d := ⟨_, rfl⟩
              have HDK := Lib.hid hdk
              rw [hdk] at r1 r2 r3
              dsimp only at r1 r2 r3
              clear hdk
              obtain ⟨w3, hw3⟩ : ∃ w3, w3 = wp.alloc (.cells #[.int .i64 k1, .int .i64 k2, .int .i64 k3] 98) := ⟨_, rfl⟩
              have hx3 : wp.Ext w3 := by rw [hw3]; repeat (first | exact World.Ext.refl _ | exact ⟨_, rfl⟩ | assumption | refine World.Ext.over ?_ _ | refine World.Ext.drewN ?_ _ | refine World.Ext.drew ?_ | refine World.Ext.alloc ?_ _ | refine World.Ext.setCell ?_ (by simp) _)
              have HQ : Hid (w3.cell? ⟨wp.heap.size, 0, none⟩ = some (.int .i64 k1) ∧ w3.cell? ⟨wp.heap.size, 1, none⟩ = some (.int .i64 k2) ∧ w3.cell? ⟨wp.heap.size, 2, none⟩ = some (.int .i64 k3)) := by rw [hw3]; refine ⟨?_, ?_, ?_⟩ <;> simp [go_sem]
              have HS3 := Lib.hid (HS.out.ext hx3)
              obtain ⟨b1, o1, bk, abk, capk, rfl, u1, u2, u3⟩ := HIR.out k hltk
              have HU1 := Lib.hid u1
              have HU2 := Lib.hid u2
              have HU := Lib.hid u3
              clear HS hx3 u1 u2 u3
              go_upto_region 19 with fail
              rw [← hw3]
              clear hw3 r1 r2 r3
              have t1 := HKQ.out w3 HS3.out.ct.1 _ _ HU1.out
              have t2 := HKQ.out w3 HS3.out.ct.1 _ _ HU2.out
              have lbk := World.block_lt_of_cell? _ _ t2
              go_wp2
              clear t1 t2 lbk
              go_loopw [18, 19, 20, 89] (fun q _ _ i wr => ∃ (j : Nat) (nd : Bool), j ≤ M ∧ i = .int .i64 j ∧ q = .bool nd ∧ Hid (nd = AN j) ∧ Hid (w3.Ext wr)) (fun _ _ _ i _ => M - (intOf i).toNat)
              case atStart => exact ⟨0, false, Nat.zero_le _, rfl, rfl, HAN0.out.symm, .refl _⟩
              case round =>
                obtain ⟨j, nd, hj, rfl, rfl, HND, HX⟩ := hrel
                obtain ⟨wq, rfl⟩ : ∃ wq : World, wq = wr := ⟨_, rfl⟩
                have hj0 : (0 : Int) ≤ (j : Int) := by omega
                by_cases hltj : j < M
                · have hltj' : (j : Int) < (M : Int) := by omega
                  have HS := Lib.hid (HS3.out.ext HX.out)
                  have r1 := HKQ.out wq HS.out.ct.1 _ _ (HU.out j hltj)
                  obtain ⟨t1, -⟩ := HS.out.ct.cell hltj
                  have HA := Lib.hid (HANS.out j)
                  rw [← HND.out] at HA
                  obtain ⟨z, hz⟩ : ∃ z : Int, z = ((C j : Nat) : Int) := ⟨_, rfl⟩
                  rw [← hz] at t1
                  have hz1 : (z == 1) = decide (C j = 1) := by
                    rw [hz, Bool.eq_iff_iff, beq_iff_eq, decide_eq_true_eq]
                    omega
                  clear hz HND HS
                  generalize decide (C j = 1) = one at *
                  generalize hh k j = hb at *
                  cases nd
                  · cases hb
                    · have HA2 : Hid (false = AN (j + 1)) := by show _ = _; rw [HA.out]; rfl
                      clear HA
                      go_wp2
                      go_roundw
                      case rel => exact ⟨j + 1, false, by omega, by go_num, rfl, HA2, HX⟩
                      case measure => simp [intOf]; omega
                    · have HA2 : Hid (one = AN (j + 1)) := by show _ = _; rw [HA.out]; simp
                      clear HA
                      go_wp2
                      all_goals
                        go_roundw
                        case rel => exact ⟨j + 1, _, by omega, by go_num, rfl, HA2, HX⟩
                        case measure => simp [intOf]; omega
                  · have HA2 : Hid (true = AN (j + 1)) := by show _ = _; rw [HA.out]; rfl
                    clear HA
                    cases hb
                    all_goals
                      go_wp2
                      go_roundw
                      case rel => exact ⟨j + 1, true, by omega, by go_num, rfl, HA2, HX⟩
                      case measure => simp [intOf]; omega
                · have hjM : j = M := by omega
                  have hnl : ¬ (j : Int) < (M : Int) := by omega
                  have HNB : Hid (needB hh M C k = nd) := by show _ = _; rw [HANE.out, ← hjM]; exact HND.out.symm
                  have HS := Lib.hid (HS3.out.ext HX.out)
                  clear HND HANE HANS HAN0
                  cases nd
                  · have HN2 := Lib.hid (HN.out HNB.out)
                    have HS1 : Hid (FwSt wo g 3 M u15 (pickD L O) (dnC hh k C 0) wq) := by rw [dnC_zero]; exact HS
                    have t1 := HKQ.out wq HS.out.ct.1 _ _ HU1.out
                    have t2 := HKQ.out wq HS.out.ct.1 _ _ HU2.out
                    have lbk := World.block_lt_of_cell? _ _ t2
                    clear HNB HY HN HS HQ HX HS3
                    go_wp2
                    clear t1 t2 lbk
                    go_loopw [21, 22, 119] (fun _ _ i wr => ∃ j : Nat, j ≤ M ∧ i = .int .i64 j ∧ Hid (FwSt wo g 3 M u15 (pickD L O) (dnC hh k C j) wr)) (fun _ _ i _ => M - (intOf i).toNat)
                    case atStart => exact ⟨0, Nat.zero_le _, rfl, HS1⟩
                    case round =>
                      clear HS1 hjM hnl hltj
                      obtain ⟨j, hj, rfl, HS⟩ := hrel
                      obtain ⟨wz, rfl⟩ : ∃ wz : World, wz = wr := ⟨_, rfl⟩
                      have hj0 : (0 : Int) ≤ (j : Int) := by omega
                      by_cases hltj : j < M
                      · have hltj' : (j : Int) < (M : Int) := by omega
                        have r1 := HKQ.out wz HS.out.ct.1 _ _ (HU.out j hltj)
                        have HUA := Lib.hid (dnC_at hh k C j)
                        have HUN := Lib.hid (dnC_next hh k C j)
                        have HUE : Hid (∀ p, p ≠ j → dnC hh k C (j + 1) p = dnC hh k C j p) := fun p hp => dnC_ne hh k C hp
                        have hcl := HCL.out j
                        have hpj : oneN (hh k j) ≤ C j := by
                          have h := HPO.out j
                          cases e : hh k j
                          · exact Nat.zero_le _
                          · exact h e
                        obtain ⟨t1, t2⟩ := HS.out.ct.cell hltj
                        rw [HUA.out] at t1
                        have lg := World.block_lt_of_cell? _ _ t1
                        have HC := Lib.hid (fun w' => oneN_any (hh k j) w')
                        have hon := oneN_le (hh k j)
                        have HS2 : Hid (∀ x, (wz.over x).cell? ⟨g, j, none⟩ = some (.int .i64 (C j : Nat)) ∧ (wz.over x).frozen? ⟨g, j, none⟩ = false ∧ g < (wz.over x).heap.size ∧ FwSt wo g 3 M u15 (pickD L O) (dnC hh k C (j + 1)) ((wz.over x).setCell ⟨g, j, none⟩ (.int .i64 ((C j : Nat) - (oneN (hh k j) : Nat))))) := fun x => by
                          have hx : wz.Ext (wz.over x) := ⟨x, rfl⟩
                          have h := HS.out.ext hx
                          obtain ⟨s1, s2⟩ := h.ct.cell hltj
                          rw [HUA.out] at s1
                          exact ⟨s1, s2, World.block_lt_of_cell? _ _ s1, h.set hgo hltj (by rw [HUN.out]; omega) fun p _ hp => HUE.out p hp⟩
                        clear HUA HUN HUE HS
                        generalize oneN (hh k j) = on at *
                        generalize hh k j = hb at *
                        generalize C j = cj at *
                        go_wp2_with fail
                        refine wp_region_over_tail 8 (by kernel_rfl) (by kernel_rfl) ?_; simp only [List.take_succ_cons, List.take_zero, List.drop_succ_cons, List.drop_zero]; (repeat (go_big_quiet_step ((go_at_call 96; exact Calls.over_of (HC.out _))))); refine wpQuiet_nil ?_; rintro _ ⟨x1, rfl⟩
                        obtain ⟨s1, s2, s3, hs4⟩ := HS2.out x1
                        have HS4 := Lib.hid hs4
                        clear hs4 HS2 t1 t2 lg r1
                        generalize wz.over x1 = wy at *
                        go_wp2
                        go_roundw
                        case rel => exact ⟨j + 1, by omega, by go_num, HS4⟩
                        case measure => simp [intOf]; omega
                      · have hnl : ¬ (j : Int) < (M : Int) := by omega
                        have HS2 : Hid (FwSt wo g 3 M u15 (pickD L (FR (k + 1)).2) (FR (k + 1)).1 wz) := by
                          have h := HS.out.congr (c' := (FR (k + 1)).1) fun p hp => by
                            rw [HN2.out.1, less_oneN]
                            unfold dnC
                            rw [if_pos (by omega)]
                          rw [← HN2.out.2] at h
                          exact h
                        clear HS HN2
                        go_wp2
                        go_roundw
                        case rel => exact ⟨k + 1, by omega, by go_num, HS2⟩
                        case measure => simp [intOf]; omega
                  · have HY2 := Lib.hid (HY.out HNB.out)
                    clear HNB HY HN
                    obtain ⟨p0, p1, p2⟩ := HQ.out
                    replace p0 := HX.out.cell p0
                    replace p1 := HX.out.cell p1
                    replace p2 := HX.out.cell p2
                    have lp := World.block_lt_of_cell? _ _ p0
                    have hol : (pickD L O).length = O.length := by unfold pickD; rw [List.length_map]
                    have HB1 : Hid ((pickD L O).length + 1 ≤ maxLen) := by show _ ≤ _; rw [hol]; unfold maxLen; omega
                    have HB2 : Hid (((pickD L O).length + 1) * 24 ≤ 140737488355328) := by show _ ≤ _; rw [hol]; omega
                    have HQQ : Hid (pickD L (FR (k + 1)).2 = pickD L O ++ [(k1, k2, k3)]) := by show _ = _; rw [HY2.out.2, pickD_snoc, HDK.out]
                    have HNEXT : Hid (∀ (o : Obj) (v' : Value) (w4 : World), (wq.alloc o).grownBy w4 u15.ownBlock → w4.ownsRow wo.heap.size 98 3 v' ((pickD L O).length + 1) ((flatD (pickD L O)).map (Value.int .i64) ++ [.int .i64 k1, .int .i64 k2, .int .i64 k3]) → Hid (FwSt wo g 3 M v' (pickD L (FR (k + 1)).2) (FR (k + 1)).1 w4)) := fun o v' w4 hg ho => by
                      show FwSt _ _ _ _ _ _ _ _
                      rw [HQQ.out, HY2.out.1]
                      exact (HS.out.ext (by repeat (first | exact World.Ext.refl _ | exact ⟨_, rfl⟩ | assumption | refine World.Ext.over ?_ _ | refine World.Ext.drewN ?_ _ | refine World.Ext.drew ?_ | refine World.Ext.alloc ?_ _ | refine World.Ext.setCell ?_ (by simp) _))).push hgo hg ho
                    have hown := HS.out.d
                    unfold GrowD at hown
                    have HLE : ∀ o' : Obj, wo.heap.size ≤ (wq.alloc o').heap.size := fun o' => by have := HS.out.ct.1.size; simp; omega
                    clear HS HQQ hol HY2 HS3 HX
                    generalize pickD L O = ps at *
                    go_wp2_with (at_builtin; refine wpList_append_own _ rfl _ _ 88 rfl wo.heap.size 98 d0 (.agg #[.int .i64 0, .int .i64 0, .int .i64 0]) 3 24 Try.underlying88 hd hy0 hy1 hy2 rfl (by decide) _ _ _ rfl (hown.alloc _) ⟨wq.heap.size, 0, none⟩ 1 1 [.int .i64 k1, .int .i64 k2, .int .i64 k3] rfl rfl (cell_three_at (by simp)) (by simp [Value.oneCell']) HB1.out HB2.out (HLE _) (fun v' w4 hown' hgrow _ => ?_); have HS9 := HNEXT.out _ _ _ hgrow hown'; clear hgrow hown' hown p0 p1 p2 lp)
                    go_roundw
                    case rel => exact ⟨k + 1, by omega, by go_num, HS9⟩
                    case measure => simp [intOf]; omega
            · have hke : k = L.length := by omega
              have hnl : ¬ (k : Int) < (L.length : Int) := by omega
              rw [hke] at HS
              obtain ⟨a9, c9, rfl, _⟩ := HS.out.d.form
              have HR : Hid (DiscsRet2 w res true (.returned (.tuple #[.slice a9 (pickD L (FR L.length).2).length c9, .bool true])) wp) := by
                show DiscsRet2 _ _ _ _ _
                rw [HFD.out]
                exact ⟨a9, c9, rfl, HXW.out wp HS.out.ct.1, HS.out.d.own.mono hwo (Nat.le_refl _)⟩
              clear HS
              go_wp2
              go_ret2
              exact HR.out
end Go.Proofs.Ytahhnjoeaodcjaa
