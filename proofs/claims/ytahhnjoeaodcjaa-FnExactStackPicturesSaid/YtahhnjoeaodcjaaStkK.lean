/- StackPictures: the program's, whole. -/
import Derived.Test.YtahhnjoeaodcjaaStkI
import Derived.Deep.RegionHeld3
namespace Go.Proofs.Ytahhnjoeaodcjaa
open Go Go.RowKit
theorem likeP_dim {m : List (List ByteArray)} {k : Nat} (h : likeP (m.getD 0 []) (m.getD k []) = true) : picW (m.getD k []) = picW (m.getD 0 []) ∧ (m.getD k []).length = (m.getD 0 []).length ∧ (picL (m.getD k [])).length = (m.getD 0 []).length * picW (m.getD 0 []) ∧ picW (m.getD 0 []) ≤ 16 ∧ (m.getD 0 []).length ≤ 16 := by
  obtain ⟨q0, q1, q2, q3⟩ := likeP_true h
  obtain ⟨-, -, -, -, e1, -⟩ := picOk_spec q1
  obtain ⟨v1, v2, v3, v4, -, -⟩ := picOk_spec q0
  exact ⟨q2.symm, q3.symm, by rw [picL_len e1, ← q2, ← q3], by omega, by omega⟩
set_option maxRecDepth 5000 in
set_option maxHeartbeats 12800000 in
theorem implStk_any (a : Option Addr) (c : Nat) (A : Nat → Option Addr) (C : Nat → Nat) (m : List (List ByteArray)) (w : World) (hb : PcsBnd m) (hm : PcsAt w a A C m) :
    Calls Try.prog 25 #[.slice a m.length c] w (GreyRet2 w (optM (stkOk m) (stkG m)) (stkOk m)) := by
  obtain ⟨W0, hW0⟩ : ∃ W0, W0 = w.alloc (.cells #[.slice none 0 0] 45) := ⟨_, rfl⟩
  have hx0 : w.Ext W0 := by rw [hW0]; repeat (first | exact World.Ext.refl _ | exact ⟨_, rfl⟩ | assumption | refine World.Ext.over ?_ _ | refine World.Ext.drewN ?_ _ | refine World.Ext.drew ?_ | refine World.Ext.alloc ?_ _ | refine World.Ext.setCell ?_ (by simp) _)
  have HONE : Hid (One W0 w.heap.size 45 (.slice none 0 0)) := by rw [hW0]; exact One.new _ _ _ _ rfl
  have HX0 := Lib.hid hx0
  have hl0 := HONE.out.lt
  have hmb := hb.1
  obtain ⟨Q, hQ⟩ : ∃ Q, Q = GreyRet2 w (optM (stkOk m) (stkG m)) (stkOk m) := ⟨_, rfl⟩
  have HQN : Hid (stkOk m = false → ∀ w', w.Ext w' → Q (.returned (.tuple #[.agg #[.slice none 0 0], .bool false])) w') := fun h w' hx => by
    rw [hQ, h]
    exact GreyRet2.no hx
  have HQY : Hid (stkOk m = true → ∀ e w', GreyRet2 w (stkG m) true e w' → Q e w') := fun h e w' hr => by
    rw [hQ, h]
    exact hr
  rw [← hQ]
  clear hQ
  obtain ⟨t, ht⟩ : ∃ t, inB (m.length : Int) 1 99 = t := ⟨_, rfl⟩
  have HIN : Hid (Calls Try.prog 103 #[.int .i64 m.length, .int .i64 1, .int .i64 99] W0 fun e w'' => e = .returned (.bool t) ∧ W0.Ext w'') := in_any _ _ _ W0 t ht
  cases t
  · have hok : stkOk m = false := by
      unfold stkOk
      rw [← Bool.not_eq_true, inB_true] at ht
      by_cases h1 : 1 ≤ m.length
      · rw [decide_eq_false (show ¬ m.length ≤ 99 by omega), Bool.and_false]; rfl
      · rw [decide_eq_false h1]; rfl
    have HQ := Lib.hid (HQN.out hok)
    clear hb hm hok HQN HQY hx0 ht
    go_enter Try.func25, Try.ntmps25
    go_wp2_with fail
    rw [← hW0]
    clear hW0
    refine HIN.out.mono ?_
    rintro e w1 ⟨rfl, hx1⟩
    obtain ⟨r1, r2, r3, HR⟩ := Res.storeM (lo := w.heap.size + 1) (.slice none 0 0) (HX0.out.trans hx1) (by omega) (HONE.out.ext hx1) (by omega) (OwnMat.none _ _ _ none)
    clear hx1
    go_wp2
    exact bodyPost_ret (v := .tuple #[.agg #[.slice none 0 0], .bool false]) (by simp [results, Try.results25, go_sem, r3]) rfl (HQ.out _ HR.out.1)
  rw [inB_true] at ht
  have hn1 : 1 ≤ m.length := by omega
  have hn2 : m.length ≤ 99 := by omega
  obtain ⟨⟨b, o, rfl, -⟩, -⟩ := hm 0 (by omega)
  have HC : Hid (∀ w', w.Ext w' → ∀ i, i < m.length → w'.cell? ⟨b, o + i, none⟩ = some (.slice (A i) (m.getD i []).length (C i)) ∧ RowS w' (A i) (m.getD i [])) := fun w' hx i hi => by
    obtain ⟨⟨b', o', e', h1⟩, h2⟩ := hm i hi
    cases e'
    exact ⟨hx.cell h1, RowOf.ext h2 hx⟩
  have HC0 : Hid (∀ w', w.Ext w' → w'.cell? ⟨b, o, none⟩ = some (.slice (A 0) (m.getD 0 []).length (C 0))) := fun w' hx => (HC.out w' hx 0 (by omega)).1
  have HNO : Hid (∀ i, i < m.length → likeP (m.getD 0 []) (m.getD i []) = false → stkOk m = false) := fun i hi h => by
    unfold stkOk; rw [likeAll_false hi h, Bool.and_false]
  have HYES : Hid ((∀ i, i < m.length → likeP (m.getD 0 []) (m.getD i []) = true) → stkOk m = true) := fun h => by
    unfold stkOk; rw [likeAll_true.2 h, decide_eq_true hn1, decide_eq_true hn2]; rfl
  have HTW : Hid (∀ w', w.Ext w' → ∀ i, i < m.length → Calls Try.prog 104 #[.agg #[.slice (A i) (m.getD i []).length (C i)], .agg #[.slice (A 0) (m.getD 0 []).length (C 0)]] w' (TwoNew w' (m.getD i []) (m.getD 0 []) (likeP (m.getD 0 []) (m.getD i [])))) := fun w' hx i hi => by
    rw [likeP_comm]
    exact twoImages_new (A i) (C i) _ (A 0) (C 0) _ w' (hb.2 i) (hb.2 0) (HC.out w' hx i hi).2 (HC.out w' hx 0 (by omega)).2
  have HDIM : Hid (∀ i, likeP (m.getD 0 []) (m.getD i []) = true → picW (m.getD i []) = picW (m.getD 0 []) ∧ (m.getD i []).length = (m.getD 0 []).length ∧ (picL (m.getD i [])).length = (m.getD 0 []).length * picW (m.getD 0 []) ∧ picW (m.getD 0 []) ≤ 16 ∧ (m.getD 0 []).length ≤ 16) := fun i h => likeP_dim h
  have HG : Hid (stkG m = grl (picW (m.getD 0 [])) (m.getD 0 []).length (stkT m ((m.getD 0 []).length * picW (m.getD 0 [])) m.length 0)) := rfl
  clear hb hm hx0 ht
  generalize hNN : (m.getD 0 []).length * picW (m.getD 0 []) = N at *
  generalize picW (m.getD 0 []) = W at *
  generalize (m.getD 0 []).length = H at *
  generalize stkG m = G at *
  generalize stkOk m = ok at *
  generalize m.getD 0 [] = m0 at *
  have HNN := Lib.hid hNN
  clear hNN
  have hn0 : (0 : Int) < (m.length : Int) := by omega
  have hn0n : 0 < m.length := by omega
  go_enter Try.func25, Try.ntmps25
  go_wp2_with fail
  rw [← hW0]
  clear hW0
  refine HIN.out.mono ?_
  rintro e w1 ⟨rfl, hx1⟩
  obtain ⟨W2, hW2⟩ : ∃ W2, W2 = w1.alloc (.cells #[.slice none 0 0] 45) := ⟨_, rfl⟩
  have hx2 : w1.Ext W2 := by rw [hW2]; repeat (first | exact World.Ext.refl _ | exact ⟨_, rfl⟩ | assumption | refine World.Ext.over ?_ _ | refine World.Ext.drewN ?_ _ | refine World.Ext.drew ?_ | refine World.Ext.alloc ?_ _ | refine World.Ext.setCell ?_ (by simp) _)
  have HST : Hid (StkJ w w1.heap.size m N W H 0 W2) := ⟨HX0.out.trans (hx1.trans hx2), HONE.out.ext (hx1.trans hx2), by have := hx1.size; omega, .inl ⟨rfl, by rw [hW2]; exact One.new _ _ _ _ rfl⟩⟩
  clear hx1 HIN HX0 HONE hl0
  go_wp2_with fail
  rw [← hW2]
  clear hW2 hx2
  generalize w1.heap.size = p4 at *
  go_loopw [5, 6, 7, 8, 9, 18] (fun _ _ _ _ _ i wr => ∃ k : Nat, k ≤ m.length ∧ i = .int .i64 k ∧ Hid (∀ r, r < k → likeP m0 (m.getD r []) = true) ∧ Hid (StkJ w p4 m N W H k wr)) (fun _ _ _ _ _ i _ => m.length - (intOf i).toNat)
  case atStart => exact ⟨0, Nat.zero_le _, rfl, fun r hr => by omega, HST⟩
  case round =>
    clear HST
    obtain ⟨k, hk, rfl, HL, HS⟩ := hrel
    obtain ⟨wo, rfl⟩ : ∃ wo : World, wo = wr := ⟨_, rfl⟩
    by_cases hlt : k < m.length
    · have hlt' : (k : Int) < (m.length : Int) := by omega
      have hk0 : (0 : Int) ≤ (k : Int) := by omega
      obtain ⟨tt, htt⟩ : ∃ tt, m.getD k [] = tt := ⟨_, rfl⟩
      have HTT := Lib.hid htt
      obtain ⟨W3, hW3⟩ : ∃ W3, W3 = wo.alloc (.cells #[.slice (A k) (tt).length (C k)] 26) := ⟨_, rfl⟩
      have hx3 : wo.Ext W3 := by rw [hW3]; repeat (first | exact World.Ext.refl _ | exact ⟨_, rfl⟩ | assumption | refine World.Ext.over ?_ _ | refine World.Ext.drewN ?_ _ | refine World.Ext.drew ?_ | refine World.Ext.alloc ?_ _ | refine World.Ext.setCell ?_ (by simp) _)
      have c6 : W3.cell? ⟨wo.heap.size, 0, none⟩ = some (.slice (A k) (tt).length (C k)) := by rw [hW3]; simp [go_sem]
      have l6 := World.block_lt_of_cell? _ _ c6
      have HS3 := Lib.hid (HS.out.ext hx3)
      have ck := (HC.out wo HS.out.x k hlt).1
      rw [htt] at ck
      have c0 := HC0.out W3 HS3.out.x
      have lk := World.block_lt_of_cell? _ _ ck
      have l0 := World.block_lt_of_cell? _ _ c0
      have HT3 : Hid (∀ w', W3.Ext w' → Calls Try.prog 104 #[.agg #[.slice (A k) (tt).length (C k)], .agg #[.slice (A 0) H (C 0)]] w' (TwoNew w' (tt) m0 (likeP m0 (tt)))) := fun w' hx => by
        have h := HTW.out w' (HS3.out.x.trans hx) k hlt
        rw [htt] at h
        exact h
      clear htt
      have hE : W3.Ext W3 := World.Ext.refl _
      go_upto_region 7 with fail
      rw [← hW3]
      clear hW3 hx3 ck lk HS
      cases hl : likeP m0 (tt)
      · rw [hl] at HT3
        have HQ := Lib.hid (HQN.out (HNO.out k hlt (by rw [HTT.out]; exact hl)))
        clear hl HL
        go_cut [7, 8, 9] (fun u7 u8 u9 wc => StkF W3 u9 wc)
        case first =>
          go_region_held3 (fun w' => w'.cell? ⟨wo.heap.size, 0, none⟩ = some (.slice (A k) tt.length (C k)) ∧ w'.cell? ⟨b, o, none⟩ = some (.slice (A 0) H (C 0)))
            (first | (refine ⟨World.Ext.cell ?_ c6, World.Ext.cell ?_ c0⟩ <;> ((repeat (first | exact World.Ext.refl _ | exact ⟨_, rfl⟩ | assumption | refine World.Ext.over ?_ _ | refine World.Ext.drewN ?_ _ | refine World.Ext.drew ?_ | refine World.Ext.alloc ?_ _ | refine World.Ext.setCell ?_ ?_ _ | (simp; done))); done)) | (refine ⟨World.Ext.cell ?_ c6, World.Ext.cell ?_ c0⟩ <;> (refine World.Ext.trans ?_ hx4; (repeat (first | exact World.Ext.refl _ | exact ⟨_, rfl⟩ | assumption | refine World.Ext.over ?_ _ | refine World.Ext.drewN ?_ _ | refine World.Ext.drew ?_ | refine World.Ext.alloc ?_ _ | refine World.Ext.setCell ?_ ?_ _ | (simp; done))); done)) | (refine ⟨World.Ext.cell ?_ c6, World.Ext.cell ?_ c0⟩ <;> (refine World.Ext.trans ?_ (World.Ext.trans hx4 ?_) <;> ((repeat (first | exact World.Ext.refl _ | exact ⟨_, rfl⟩ | assumption | refine World.Ext.over ?_ _ | refine World.Ext.drewN ?_ _ | refine World.Ext.drew ?_ | refine World.Ext.alloc ?_ _ | refine World.Ext.setCell ?_ ?_ _ | (simp; done))); done))) | (refine ⟨World.Ext.cell ?_ c6, World.Ext.cell ?_ c0⟩ <;> exact hS _))
            (first | (go_at_call 104; go_loud (refine (HT3.out _ (by (repeat (first | exact World.Ext.refl _ | exact ⟨_, rfl⟩ | assumption | refine World.Ext.over ?_ _ | refine World.Ext.drewN ?_ _ | refine World.Ext.drew ?_ | refine World.Ext.alloc ?_ _ | refine World.Ext.setCell ?_ ?_ _ | (simp; done))))).mono ?_; rintro e w4 ⟨u, v, rfl, hx4⟩; (first | have hA := newCellD hx4 | have hA := newCell1 hx4 | skip); (try have hAl := World.block_lt_of_cell? w4 _ hA.1); (first | have hS := fun v => (StkF.two (W3 := W3) (v := v) hx4).2 | have hS := fun v => (StkF.three (W3 := W3) (v := v) hx4).2 | skip))))
          all_goals
            go_wp2_with fail
            go_meet
            first
              | exact StkF.one hx4
              | exact StkF.two hx4
              | exact StkF.three hx4
        case rest =>
          obtain ⟨rfl, hx⟩ := hcut
          have HS4 := Lib.hid (HS3.out.ext hx)
          obtain ⟨r1, r2, r3, HR⟩ := Res.storeM (lo := w.heap.size + 1) (.slice none 0 0) HS4.out.x (by omega) HS4.out.one (by omega) (OwnMat.none _ _ _ none)
          clear hx
          go_wp2
          exact bodyPost_ret (v := .tuple #[.agg #[.slice none 0 0], .bool false]) (by simp [results, Try.results25, go_sem, r3]) rfl (HQ.out _ HR.out.1)
      · rw [hl] at HT3
        have HL2 : Hid (∀ r, r < k + 1 → likeP m0 (m.getD r []) = true) := fun r hr => by
          by_cases e : r = k
          · rw [e, HTT.out]; exact hl
          · exact HL.out r (by omega)
        obtain ⟨dw, dh, dl, dw2, dh2⟩ := HDIM.out k (by rw [HTT.out]; exact hl)
        rw [HTT.out] at dw dh dl
        have HDWH := Lib.hid (show picW tt = W ∧ tt.length = H ∧ (picL tt).length = N from ⟨dw, dh, dl⟩)
        clear hl HL dw dh dl
        go_cut [7, 8, 9] (fun u7 u8 u9 wc => StkC W3 (picW (tt)) (tt).length (picL (tt)) u7 u9 wc)
        case first =>
          go_region_held3 (fun w' => w'.cell? ⟨wo.heap.size, 0, none⟩ = some (.slice (A k) tt.length (C k)) ∧ w'.cell? ⟨b, o, none⟩ = some (.slice (A 0) H (C 0)))
            (first | (refine ⟨World.Ext.cell ?_ c6, World.Ext.cell ?_ c0⟩ <;> ((repeat (first | exact World.Ext.refl _ | exact ⟨_, rfl⟩ | assumption | refine World.Ext.over ?_ _ | refine World.Ext.drewN ?_ _ | refine World.Ext.drew ?_ | refine World.Ext.alloc ?_ _ | refine World.Ext.setCell ?_ ?_ _ | (simp; done))); done)) | (refine ⟨World.Ext.cell ?_ c6, World.Ext.cell ?_ c0⟩ <;> (refine World.Ext.trans ?_ hx4; (repeat (first | exact World.Ext.refl _ | exact ⟨_, rfl⟩ | assumption | refine World.Ext.over ?_ _ | refine World.Ext.drewN ?_ _ | refine World.Ext.drew ?_ | refine World.Ext.alloc ?_ _ | refine World.Ext.setCell ?_ ?_ _ | (simp; done))); done)) | (refine ⟨World.Ext.cell ?_ c6, World.Ext.cell ?_ c0⟩ <;> (refine World.Ext.trans ?_ (World.Ext.trans hx4 ?_) <;> ((repeat (first | exact World.Ext.refl _ | exact ⟨_, rfl⟩ | assumption | refine World.Ext.over ?_ _ | refine World.Ext.drewN ?_ _ | refine World.Ext.drew ?_ | refine World.Ext.alloc ?_ _ | refine World.Ext.setCell ?_ ?_ _ | (simp; done))); done))) | (refine ⟨World.Ext.cell ?_ c6, World.Ext.cell ?_ c0⟩ <;> exact hS _))
            (first | (go_at_call 104; go_loud (refine (HT3.out _ (by (repeat (first | exact World.Ext.refl _ | exact ⟨_, rfl⟩ | assumption | refine World.Ext.over ?_ _ | refine World.Ext.drewN ?_ _ | refine World.Ext.drew ?_ | refine World.Ext.alloc ?_ _ | refine World.Ext.setCell ?_ ?_ _ | (simp; done))))).mono ?_; rintro e w4 ⟨b4, ab4, v4, rfl, hx4, hi4, hb4, hab4⟩; (first | have hA := newCellD hx4 | have hA := newCell1 hx4 | skip); (try have hAl := World.block_lt_of_cell? w4 _ hA.1); (first | have hS := fun v => (StkF.two (W3 := W3) (v := v) hx4).2 | have hS := fun v => (StkF.three (W3 := W3) (v := v) hx4).2 | skip))))
          all_goals
            go_wp2_with fail
            go_meet
            first
              | exact StkC.one hx4 hi4 hb4 hab4
              | exact StkC.two hx4 hi4 hb4 hab4
              | exact StkC.three hx4 hi4 hb4 hab4
        case rest =>
          obtain ⟨p7, b7, ab7, rfl, rfl, hx, h7, hi7, g1, g2, g3⟩ := hcut
          obtain ⟨dw, dh, dl⟩ := HDWH.out
          rw [dw, dh] at hi7
          clear dw dh
          have HS4 := Lib.hid (HS3.out.ext hx)
          have HP4 : p4 < W3.heap.size := by
            rcases HS3.out.tb with ⟨-, h⟩ | ⟨-, _, _, _, _, _, _, h, -⟩ <;> exact h.lt
          have hsz := hx.size
          have H7 := Lib.hid h7
          have HI7 := Lib.hid hi7
          have c7 := h7.cell
          have l7 := h7.lt
          have hN : H * W = N := HNN.out
          have HFIN : Hid (∀ (wE : World) (lo hi c' : Nat) (a' : Option Addr) (A' : Nat → Option Addr) (C' : Nat → Nat), w.Ext wE → One wE w.heap.size 45 (.slice none 0 0) → One wE p4 45 (.slice a' H c') → One wE p7 116 (.pointer (some ⟨b7, 0, none⟩)) → Img wE b7 ab7 W H (picL (tt)) → p4 < lo → hi ≤ wE.heap.size → ¬ (lo ≤ p7 ∧ p7 < hi) → ¬ (lo ≤ b7 ∧ b7 < hi) → ¬ (lo ≤ ab7 ∧ ab7 < hi) → OwnMat lo hi wE a' A' C' (grl W H (stkT m N k 0)) →
              Calls Try.prog 107 #[.pointer (some ⟨b7, 0, none⟩), .func (.func 108) #[] #[.pointer (some ⟨p4, 0, none⟩), .pointer (some ⟨p7, 0, none⟩)]] wE fun e w' => e = .returned (.tuple #[]) ∧ StkJ w p4 m N W H (k + 1) w') := fun wE lo hi c' a' A' C' hX hone h4 h7' hi' q1 q2 d7 db dab ho => by
            refine (stkEach_any wE p4 p7 b7 ab7 W H lo hi c' N k a' A' C' m hN (by omega) dw2 dh2 h4 h7' (by rw [HTT.out]; exact hi') (by omega) d7 db dab ho).mono ?_
            rintro e w' ⟨he, hw, ho'⟩
            have hlo := HS3.out.lo
            refine ⟨he, hX.wroteNew hw (fun k h1 h2 => by omega), hone.keep (hw.block _ hone.lt (by omega)), hlo, .inr ⟨by omega, a', c', A', C', lo, hi, h4.keep (hw.block _ h4.lt (by omega)), q1, Nat.le_trans q2 hw.size, ho'⟩⟩
          by_cases hk00 : k = 0
          · subst hk00
            have HGR : Hid (Calls Try.prog 105 #[.pointer (some ⟨b7, 0, none⟩), .func (.func 106) #[] #[]] wc (MatRet wc (grl W H (stkT m N 0 0)))) := by
              have h := grid_any b7 ab7 106 W H _ #[] (fun _ _ => 0) wc (by omega) (by omega) hi7 enters_stk1 (fun w' _ x y _ _ => stk1_any x y w')
              rw [grl_zero W H N m] at h
              exact h
            have H4 : Hid (One wc p4 45 (.slice none 0 0)) := by
              rcases HS4.out.tb with ⟨-, h⟩ | ⟨h, -⟩
              · exact h
              · omega
            have hb7 := hi7.lt
            have hab7 := hi7.px.lt
            clear hi7 h7 hx dl
            go_wp2_with fail
            refine HGR.out.mono ?_
            rintro e w5 ⟨a5, c5, A5, C5, rfl, hx5, hm5⟩
            rw [grl_len]
            have ho5 := hm5.mat (by decide)
            have h45 := H4.out.ext hx5
            have c4 := h45.cell
            have f4 := h45.free
            have l4 := h45.lt
            obtain ⟨W6, hW6⟩ : ∃ W6, W6 = w5.setCell ⟨p4, 0, none⟩ (.slice a5 H c5) := ⟨_, rfl⟩
            have HX6 : w.Ext W6 := by rw [hW6]; exact (HS4.out.x.trans hx5).setCell (p := ⟨p4, 0, none⟩) (Nat.le_of_lt HS4.out.lo) _
            have HE : Hid (Calls Try.prog 107 #[.pointer (some ⟨b7, 0, none⟩), .func (.func 108) #[] #[.pointer (some ⟨p4, 0, none⟩), .pointer (some ⟨p7, 0, none⟩)]] W6 fun e w' => e = .returned (.tuple #[]) ∧ StkJ w p4 m N W H (0 + 1) w') := by
              have hlo := HS4.out.lo
              have hl4 := H4.out.lt
              have hsz5 := hx5.size
              have hs6 : W6.heap.size = w5.heap.size := by rw [hW6]; simp [World.setCell]
              refine HFIN.out W6 wc.heap.size w5.heap.size c5 a5 A5 C5 HX6 ?_ ?_ ?_ ?_ hl4 (by omega) (by omega) (by omega) (by omega) ?_
              · rw [hW6]; exact (HS4.out.one.ext hx5).other (a := ⟨p4, 0, none⟩) (by dsimp only; omega) _
              · rw [hW6]; exact h45.set _
              · rw [hW6]; exact (H7.out.ext hx5).other (a := ⟨p4, 0, none⟩) (by dsimp only; omega) _
              · rw [hW6]; exact (HI7.out.ext hx5).keep (Below.heap_setCell _ _ _ _ (by dsimp only; omega)) (Below.heap_setCell _ _ _ _ (by dsimp only; omega))
              · rw [hW6]; exact ho5.wrote (Wrote.setCell (S := fun k => k = p4) (Wrote.refl _ _) (p := ⟨p4, 0, none⟩) rfl _) (fun k h1 h2 => by omega)
            have c76 : W6.cell? ⟨p7, 0, none⟩ = some (.pointer (some ⟨b7, 0, none⟩)) := by
              have hl4 := H4.out.lt
              rw [hW6]
              exact ((H7.out.ext hx5).other (a := ⟨p4, 0, none⟩) (by dsimp only; omega) _).cell
            have l76 := World.block_lt_of_cell? _ _ c76
            clear hm5 ho5 h45 hx5 HGR c7 l7 HFIN HX6 H7 HI7 H4 HS4 HS3
            go_upto_region 12 with fail
            rw [← hW6]
            clear hW6 c4 f4 l4
            go_wp2_with fail
            refine HE.out.mono ?_
            rintro e w8 ⟨rfl, hs8⟩
            have HS8 := Lib.hid hs8
            clear hs8 HE c76 l76
            go_wp2
            go_roundw
            case rel => exact ⟨0 + 1, by omega, by go_num, HL2, HS8⟩
            case measure => simp [intOf]; omega
          · have fk0 : ((k : Int) == 0) = false := by rw [beq_eq_false_iff_ne]; omega
            have HE : Hid (Calls Try.prog 107 #[.pointer (some ⟨b7, 0, none⟩), .func (.func 108) #[] #[.pointer (some ⟨p4, 0, none⟩), .pointer (some ⟨p7, 0, none⟩)]] wc fun e w' => e = .returned (.tuple #[]) ∧ StkJ w p4 m N W H (k + 1) w') := by
              rcases HS3.out.tb with ⟨h, -⟩ | ⟨-, a', c', A', C', lo, hi, t1, t2, t3, t4⟩
              · exact absurd h hk00
              · exact HFIN.out wc lo hi c' a' A' C' HS4.out.x HS4.out.one (t1.ext hx) h7 hi7 t2 (by omega) (by omega) (by omega) (by omega) (t4.ext hx)
            clear hi7 h7 hx dl HFIN H7 HI7 HS4 HS3
            go_wp2_with fail
            refine HE.out.mono ?_
            rintro e w8 ⟨rfl, hs8⟩
            have HS8 := Lib.hid hs8
            clear hs8 HE c7 l7
            go_wp2
            go_roundw
            case rel => exact ⟨k + 1, by omega, by go_num, HL2, HS8⟩
            case measure => simp [intOf]; omega
    · have hke : k = m.length := by omega
      subst hke
      have HQ := Lib.hid (HQY.out (HYES.out HL.out))
      obtain ⟨a', c', A', C', lo, hi, t1, t2, t3, t4⟩ : ∃ a c A C lo hi, One wo p4 45 (.slice a H c) ∧ p4 < lo ∧ hi ≤ wo.heap.size ∧ OwnMat lo hi wo a A C (grl W H (stkT m N m.length 0)) := by
        rcases HS.out.tb with ⟨h, -⟩ | ⟨-, h⟩
        · omega
        · exact h
      have hgl : G.length = H := by rw [HG.out, grl_len]
      rw [← HG.out] at t4
      rw [← hgl] at t1
      have hlo := HS.out.lo
      obtain ⟨r1, r2, r3, HR⟩ := Res.storeM (lo := lo) (.slice a' G.length c') HS.out.x (Nat.le_refl _) HS.out.one (by omega) (t4.mono (Nat.le_refl _) t3)
      have c4 := t1.cell
      have l4 := t1.lt
      have hl2 := HS.out.one.lt
      clear HS t1 t4 HL hgl
      go_wp2
      exact bodyPost_ret (v := .tuple #[.agg #[.slice a' G.length c'], .bool true]) (by simp [results, Try.results25, go_sem, r3]) rfl (HQ.out _ _ ⟨a', c', A', C', rfl, HR.out.1, HR.out.2⟩)
end Go.Proofs.Ytahhnjoeaodcjaa
