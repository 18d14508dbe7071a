/- StackPictures: the reference's. -/
import Derived.Test.YtahhnjoeaodcjaaStkP
namespace Go.Proofs.Ytahhnjoeaodcjaa
open Go Go.RowKit
structure StkD (m : List (List ByteArray)) (W H : Nat) : Prop where
  w1 : 1 ≤ W
  w2 : W ≤ 16
  h1 : 1 ≤ H
  h2 : H ≤ 16
  e : ∀ i, i < m.length → Even (m.getD i []) ∧ picW (m.getD i []) = W ∧ (m.getD i []).length = H ∧ (picL (m.getD i [])).length = H * W
theorem stkD_of {m : List (List ByteArray)} (hn : 1 ≤ m.length) (h : ∀ i, i < m.length → likeP (m.getD 0 []) (m.getD i []) = true) : StkD m (picW (m.getD 0 [])) (m.getD 0 []).length := by
  obtain ⟨h1, -, -, -⟩ := likeP_true (h 0 (by omega))
  obtain ⟨v1, v2, v3, v4, -, -⟩ := picOk_spec h1
  refine ⟨by omega, by omega, by omega, by omega, fun i hi => ?_⟩
  obtain ⟨-, q1, q2, q3⟩ := likeP_true (h i hi)
  obtain ⟨-, -, -, -, e1, -⟩ := picOk_spec q1
  refine ⟨e1, q2.symm, q3.symm, ?_⟩
  rw [picL_len e1, ← q2, ← q3]
/-- The numbers under way, and the result's cell. -/
structure StkN (w : World) (g : Nat) (l : List Int) (wr : World) : Prop where
  x : w.Ext wr
  lo : w.heap.size < g
  one : One wr w.heap.size 45 (.slice none 0 0)
  blk : BlkOf (Value.int .i64) wr g 2 l
theorem StkN.ext {w wr w' : World} {g : Nat} {l : List Int} (h : StkN w g l wr) (hx : wr.Ext w') : StkN w g l w' := ⟨h.x.trans hx, h.lo, h.one.ext hx, h.blk.ext hx⟩
theorem StkN.put {w wr : World} {g : Nat} {l l' : List Int} (h : StkN w g l wr) (k : Nat) (v : Int) (e : l.set k v = l') : StkN w g l' (wr.setCell ⟨g, k, none⟩ (.int .i64 v)) :=
  ⟨h.x.setCell (p := ⟨g, k, none⟩) (Nat.le_of_lt h.lo) _, h.lo, h.one.other (a := ⟨g, k, none⟩) (by have := h.lo; dsimp only; omega) _, e ▸ h.blk.set k v⟩
set_option maxRecDepth 5000 in
set_option maxHeartbeats 6400000 in
theorem specStk_any (a : Option Addr) (c : Nat) (A : Nat → Option Addr) (C : Nat → Nat) (m : List (List ByteArray)) (w : World) (hb : PcsBnd m) (hm : PcsAt w a A C m) :
    Calls Try.prog 23 #[.slice a m.length c] w (GreyRet2 w (optM (stkOk m) (stkG m)) (stkOk m)) := by
  obtain ⟨i0, hi, hz0, hz1, hz2⟩ := info_parts Try.infoI64
  obtain ⟨W0, hW0⟩ : ∃ W0, W0 = w.alloc (.cells #[.slice none 0 0] 45) := ⟨_, rfl⟩
  have hx0 : w.Ext W0 := by rw [hW0]; repeat (first | exact World.Ext.refl _ | exact ⟨_, rfl⟩ | assumption | refine World.Ext.over ?_ _ | refine World.Ext.drewN ?_ _ | refine World.Ext.drew ?_ | refine World.Ext.alloc ?_ _ | refine World.Ext.setCell ?_ (by simp) _)
  have HONE : Hid (One W0 w.heap.size 45 (.slice none 0 0)) := by rw [hW0]; exact One.new _ _ _ _ rfl
  have HX0 := Lib.hid hx0
  have hl0 := HONE.out.lt
  have hmb := hb.1
  obtain ⟨Q, hQ⟩ : ∃ Q, Q = GreyRet2 w (optM (stkOk m) (stkG m)) (stkOk m) := ⟨_, rfl⟩
  have HQN : Hid (stkOk m = false → ∀ w', w.Ext w' → Q (.returned (.tuple #[.agg #[.slice none 0 0], .bool false])) w') := fun h w' hx => by
    rw [hQ, h]
    exact GreyRet2.no hx
  have HQY : Hid (stkOk m = true → ∀ e w', GreyRet2 w (stkG m) true e w' → Q e w') := fun h e w' hr => by
    rw [hQ, h]
    exact hr
  rw [← hQ]
  clear hQ
  by_cases hn1 : 1 ≤ m.length
  rotate_left
  · have hok : stkOk m = false := by unfold stkOk; rw [decide_eq_false hn1]; rfl
    have HQ := Lib.hid (HQN.out hok)
    have hn0 : (m.length : Int) < 1 := by omega
    obtain ⟨r1, r2, r3, HR⟩ := Res.storeM (lo := w.heap.size + 1) (.slice none 0 0) HX0.out (by omega) HONE.out (by omega) (OwnMat.none _ _ _ none)
    clear hb hm hok HQN HQY hx0
    go_enter Try.func23, Try.ntmps23
    go_upto_region 2 with fail
    rw [← hW0]
    clear hW0
    go_wp2
    exact bodyPost_ret (v := .tuple #[.agg #[.slice none 0 0], .bool false]) (by simp [results, Try.results23, go_sem, r3]) rfl (HQ.out _ HR.out.1)
  by_cases hn2 : m.length ≤ 99
  rotate_left
  · have hok : stkOk m = false := by unfold stkOk; rw [decide_eq_false hn2, Bool.and_false]; rfl
    have HQ := Lib.hid (HQN.out hok)
    have hn0 : (99 : Int) < (m.length : Int) := by omega
    have hn0' : ¬ (m.length : Int) < 1 := by omega
    obtain ⟨r1, r2, r3, HR⟩ := Res.storeM (lo := w.heap.size + 1) (.slice none 0 0) HX0.out (by omega) HONE.out (by omega) (OwnMat.none _ _ _ none)
    clear hb hm hok HQN HQY hx0
    go_enter Try.func23, Try.ntmps23
    go_upto_region 2 with fail
    rw [← hW0]
    clear hW0
    go_wp2
    exact bodyPost_ret (v := .tuple #[.agg #[.slice none 0 0], .bool false]) (by simp [results, Try.results23, go_sem, r3]) rfl (HQ.out _ HR.out.1)
  obtain ⟨⟨b, o, rfl, -⟩, -⟩ := hm 0 (by omega)
  have HC : Hid (∀ w', w.Ext w' → ∀ i, i < m.length → w'.cell? ⟨b, o + i, none⟩ = some (.slice (A i) (m.getD i []).length (C i)) ∧ RowS w' (A i) (m.getD i [])) := fun w' hx i hi => by
    obtain ⟨⟨b', o', e', h1⟩, h2⟩ := hm i hi
    cases e'
    exact ⟨hx.cell h1, RowOf.ext h2 hx⟩
  have HLK : Hid (∀ w', w.Ext w' → ∀ i, i < m.length → Calls Try.prog 98 #[.pointer (some ⟨b, o, none⟩), .pointer (some ⟨b, o + i, none⟩)] w' fun e w'' => e = .returned (.bool (likeP (m.getD 0 []) (m.getD i []))) ∧ w'.Ext w'') := fun w' hx i hi =>
    l01Like_at b o b (o + i) (A 0) (C 0) _ (A i) (C i) _ w' (hb.2 0) (hb.2 i) (HC.out w' hx 0 (by omega)).1 (HC.out w' hx 0 (by omega)).2 (HC.out w' hx i hi).1 (HC.out w' hx i hi).2
  have HNO : Hid (∀ i, i < m.length → likeP (m.getD 0 []) (m.getD i []) = false → stkOk m = false) := fun i hi h => by
    unfold stkOk; rw [likeAll_false hi h, Bool.and_false]
  have HYES : Hid ((∀ i, i < m.length → likeP (m.getD 0 []) (m.getD i []) = true) → stkOk m = true) := fun h => by
    unfold stkOk; rw [likeAll_true.2 h, decide_eq_true hn1, decide_eq_true hn2]; rfl
  have HD : Hid ((∀ i, i < m.length → likeP (m.getD 0 []) (m.getD i []) = true) → StkD m (picW (m.getD 0 [])) (m.getD 0 []).length) := fun h => stkD_of hn1 h
  have HWS : Hid (StkD m (picW (m.getD 0 [])) (m.getD 0 []).length → ∀ w', w.Ext w' → Calls Try.prog 99 #[.pointer (some ⟨b, o, none⟩)] w' fun e w'' => e = .returned (.int .i64 (picW (m.getD 0 []))) ∧ w'.Ext w'') := fun hd w' hx =>
    l01Width_at b o (A 0) (C 0) _ w' (by have := hd.h1; omega) (by have := hd.h2; omega) (by have := hd.w2; omega) (HC.out w' hx 0 (by omega)).1 (HC.out w' hx 0 (by omega)).2
  have HHS : Hid (StkD m (picW (m.getD 0 [])) (m.getD 0 []).length → ∀ w', w.Ext w' → Calls Try.prog 100 #[.pointer (some ⟨b, o, none⟩)] w' fun e w'' => e = .returned (.int .i64 (m.getD 0 []).length) ∧ w'.Ext w'') := fun hd w' hx =>
    l01Height_at b o (A 0) (C 0) _ w' (by have := hd.h2; omega) (HC.out w' hx 0 (by omega)).1
  have HLI : Hid (StkD m (picW (m.getD 0 [])) (m.getD 0 []).length → ∀ w', w.Ext w' → ∀ i, i < m.length → Calls Try.prog 101 #[.pointer (some ⟨b, o + i, none⟩)] w' fun e w'' => ∃ v, e = .returned v ∧ BlSt w' v (picL (m.getD i [])) w'') := fun hd w' hx i hi => by
    obtain ⟨e1, e2, e3, -⟩ := hd.e i hi
    have := hd.h2; have := hd.w2
    exact l01List_at b (o + i) (A i) (C i) _ w' e1 (by omega) (by omega) (HC.out w' hx i hi).1 (HC.out w' hx i hi).2
  have HPL : Hid (StkD m (picW (m.getD 0 [])) (m.getD 0 []).length → ∀ i, i < m.length → (picL (m.getD i [])).length = (m.getD 0 []).length * picW (m.getD 0 [])) := fun hd i hi => (hd.e i hi).2.2.2
  have HG : Hid (stkG m = grl (picW (m.getD 0 [])) (m.getD 0 []).length (stkT m ((m.getD 0 []).length * picW (m.getD 0 [])) m.length 0)) := rfl
  clear hb hm hx0 HC
  generalize picW (m.getD 0 []) = W at *
  generalize (m.getD 0 []).length = H at *
  generalize stkG m = G at *
  generalize stkOk m = ok at *
  generalize m.getD 0 [] = m0 at *
  have hn1' : ¬ (m.length : Int) < 1 := by omega
  have hn2' : ¬ (99 : Int) < (m.length : Int) := by omega
  have hn0 : (0 : Int) < (m.length : Int) := by omega
  go_enter Try.func23, Try.ntmps23
  go_wp2_with fail
  rw [← hW0]
  clear hW0
  go_loopw [4] (fun i wr => ∃ k : Nat, k ≤ m.length ∧ i = .int .i64 k ∧ Hid (∀ r, r < k → likeP m0 (m.getD r []) = true) ∧ Hid (W0.Ext wr)) (fun i _ => m.length - (intOf i).toNat)
  case atStart => exact ⟨0, Nat.zero_le _, rfl, fun r hr => by omega, .refl _⟩
  case round =>
    obtain ⟨k, hk, rfl, HL, HX⟩ := hrel
    obtain ⟨wo, rfl⟩ : ∃ wo : World, wo = wr := ⟨_, rfl⟩
    by_cases hlt : k < m.length
    · have hlt' : (k : Int) < (m.length : Int) := by omega
      have hk0 : (0 : Int) ≤ (k : Int) := by omega
      have HLK2 : Hid (∀ w', wo.Ext w' → Calls Try.prog 98 #[.pointer (some ⟨b, o, none⟩), .pointer (some ⟨b, o + k, none⟩)] w' fun e w'' => e = .returned (.bool (likeP m0 (m.getD k []))) ∧ w'.Ext w'') := fun w' hx => HLK.out w' (HX0.out.trans (HX.out.trans hx)) k hlt
      cases hl : likeP m0 (m.getD k [])
      · rw [hl] at HLK2
        have HQ := Lib.hid (HQN.out (HNO.out k hlt hl))
        clear hl HL
        go_wp2_with fail
        refine wp_region_over_lit (by kernel_rfl) (by kernel_rfl) ?_; (repeat (go_big_quiet_step ((go_at_call 98; exact Calls.over_of (HLK2.out _ ⟨_, rfl⟩))))); refine wpQuiet_nil ?_; rintro _ ⟨x1, rfl⟩
        obtain ⟨r1, r2, r3, HR⟩ := Res.storeM (lo := w.heap.size + 1) (.slice none 0 0) (HX0.out.trans (HX.out.over x1)) (by omega) (HONE.out.ext (HX.out.over x1)) (by omega) (OwnMat.none _ _ _ none)
        go_wp2
        exact bodyPost_ret (v := .tuple #[.agg #[.slice none 0 0], .bool false]) (by simp [results, Try.results23, go_sem, r3]) rfl (HQ.out _ HR.out.1)
      · rw [hl] at HLK2
        have HL2 : Hid (∀ r, r < k + 1 → likeP m0 (m.getD r []) = true) := fun r hr => by
          by_cases e : r = k
          · rw [e]; exact hl
          · exact HL.out r (by omega)
        clear hl HL
        go_wp2_with fail
        refine wp_region_over_lit (by kernel_rfl) (by kernel_rfl) ?_; (repeat (go_big_quiet_step ((go_at_call 98; exact Calls.over_of (HLK2.out _ ⟨_, rfl⟩))))); refine wpQuiet_nil ?_; rintro _ ⟨x1, rfl⟩
        have HX2 := Lib.hid (HX.out.over x1)
        go_wp2
        go_roundw
        case rel => exact ⟨k + 1, by omega, by go_num, HL2, HX2⟩
        case measure => simp [intOf]; omega
    · have hke : k = m.length := by omega
      subst hke
      have hd := HD.out HL.out
      have HQ := Lib.hid (HQY.out (HYES.out HL.out))
      have HWS2 : Hid (∀ w', wo.Ext w' → Calls Try.prog 99 #[.pointer (some ⟨b, o, none⟩)] w' fun e w'' => e = .returned (.int .i64 W) ∧ w'.Ext w'') := fun w' hx => HWS.out hd w' (HX0.out.trans (HX.out.trans hx))
      have HWS3 := Lib.hid (HWS.out hd)
      have HHS2 : Hid (∀ w', wo.Ext w' → Calls Try.prog 100 #[.pointer (some ⟨b, o, none⟩)] w' fun e w'' => e = .returned (.int .i64 H) ∧ w'.Ext w'') := fun w' hx => HHS.out hd w' (HX0.out.trans (HX.out.trans hx))
      have HLI2 := Lib.hid (HLI.out hd)
      have HPL2 := Lib.hid (HPL.out hd)
      have hw1 := hd.w1
      have hw2 := hd.w2
      have hh1 := hd.h1
      have hh2 := hd.h2
      clear hd HD HWS HHS HLI HPL HQN HQY HYES HNO HLK HL
      obtain ⟨N, hN⟩ : ∃ N, N = H * W := ⟨_, rfl⟩
      rw [← hN] at HPL2 HG
      have hN2 : N ≤ 256 := by rw [hN]; exact Nat.mul_le_mul hh2 hw2
      have C1 : Hid (i0.bytes * N ≤ 281474976710656) := by show _ ≤ _; rw [hz2]; omega
      have C2 : Hid (N ≤ maxLen) := by show _ ≤ _; unfold maxLen; omega
      have hmi : (W : Int) * (H : Int) = (N : Int) := by rw [hN, ← Int.natCast_mul, Nat.mul_comm]
      have HMI := Lib.hid hmi
      have HN := Lib.hid hN
      have hmb0 : 0 ≤ (W : Int) * (H : Int) := by rw [hmi]; omega
      have hmb1 : (W : Int) * (H : Int) ≤ 256 := by rw [hmi]; omega
      clear hmi hN
      go_upto_region 8 with fail
      refine wp_region_over_tail 7 (by kernel_rfl) (by kernel_rfl) ?_; simp only [List.take_succ_cons, List.take_zero, List.drop_succ_cons, List.drop_zero]; (repeat (go_big_quiet_step ((first | (go_at_call 99; exact Calls.over_of (HWS2.out _ ⟨_, rfl⟩)) | (go_at_call 100; exact Calls.over_of (HHS2.out _ ⟨_, rfl⟩)))))); refine wpQuiet_nil ?_; rintro _ ⟨x1, rfl⟩
      have HX1 := Lib.hid (HX.out.over x1)
      generalize wo.over x1 = w1 at *
      go_wp2_with (at_make; refine wpList_make_full _ rfl _ _ 41 rfl 0 2 i0 (.int .i64 0) 1 Try.underlying41 hi hz0 hz1 .i64 .i64 _ _ N rfl rfl HMI.out HMI.out C1.out C2.out (Nat.zero_le _) (fun w3 hown hgrow => ?_))
      have HST : Hid (StkN w w1.heap.size (stkT m N 0 0) w3) := by
        have hx3 := World.Ext.made hgrow
        refine ⟨HX0.out.trans (HX1.out.trans hx3), by have := HX1.out.size; omega, HONE.out.ext (HX1.out.trans hx3), ?_⟩
        rw [stkT_zero]
        exact blk_of_made (f := Value.int .i64) 0 rfl hown
      clear hown hgrow HWS2 HHS2 HX HX1 hmb0 hmb1 C1 C2 HONE HX0 hl0
      generalize w1.heap.size = g at *
      go_loopw [6, 7, 8] (fun i _ _ wr => ∃ k : Nat, k ≤ m.length ∧ i = .int .i64 k ∧ Hid (StkN w g (stkT m N k 0) wr)) (fun i _ _ _ => m.length - (intOf i).toNat)
      case atStart => exact ⟨0, Nat.zero_le _, rfl, HST⟩
      case round =>
        clear HST
        obtain ⟨k, hk, rfl, HS⟩ := hrel
        obtain ⟨w4, rfl⟩ : ∃ w4 : World, w4 = wr := ⟨_, rfl⟩
        by_cases hlt : k < m.length
        · have hlt' : (k : Int) < (m.length : Int) := by omega
          have hk0 : (0 : Int) ≤ (k : Int) := by omega
          have HPLk := Lib.hid (HPL2.out k hlt)
          have HCE := Lib.hid (fun q => cntK_le m q k)
          have HKEEP := Lib.hid (fun (q : Nat) (h : q < N) (hb : (picL (m.getD k [])).getD q false = false) => stkT_keep (m := m) (j := k) h hb)
          have HSET : Hid (∀ q, q < N → (picL (m.getD k [])).getD q false = true → (stkT m N k q).getD q 0 = ((cntK m q k : Nat) : Int) ∧ (stkT m N k q).set q (((cntK m q k : Nat) : Int) + 1) = stkT m N k (q + 1)) := fun q h hb => by
            refine ⟨by rw [stkT_at h, if_neg (by omega)], ?_⟩
            rw [← stkT_set h]
            simp only [cntK, hb, if_true]
            rfl
          go_wp2_with fail
          refine (HLI2.out w4 HS.out.x k hlt).mono ?_
          rintro e w5 ⟨v5, rfl, hs5⟩
          obtain ⟨a5, c5, rfl, -⟩ := hs5.2.form
          have HS5 : Hid (StkN w g (stkT m N k 0) w5 ∧ OwnOf Value.bool false (g + 1) w5.heap.size w5 a5 (picL (m.getD k []))) := ⟨HS.out.ext hs5.1, (hs5.2.own false).mono (by have := HS.out.blk.lt; omega) (Nat.le_refl _)⟩
          clear hs5 HS
          generalize picL (m.getD k []) = L at *
          have hL : L.length = N := HPLk.out
          generalize w5.heap.size = hi5 at HS5
          go_wp2
          go_loopw [8, 52] (fun _ q wr => ∃ z : Nat, z ≤ N ∧ q = .int .i64 z ∧ Hid (StkN w g (stkT m N k z) wr ∧ OwnOf Value.bool false (g + 1) hi5 wr a5 L)) (fun _ q _ => N - (intOf q).toNat)
          case atStart => exact ⟨0, Nat.zero_le _, rfl, HS5⟩
          case round =>
            clear HS5
            obtain ⟨z, hz, rfl, HS⟩ := hrel
            obtain ⟨w6, rfl⟩ : ∃ w6 : World, w6 = wr := ⟨_, rfl⟩
            by_cases hlz : z < N
            · have hlz' : (z : Int) < (L.length : Int) := by omega
              have hz0' : (0 : Int) ≤ (z : Int) := by omega
              have hlzN : (z : Int) < (N : Int) := by omega
              obtain ⟨b6, o6, rfl, -, -, h6, -⟩ := HS.out.2 z (by omega)
              have hcz := HCE.out z
              have hlen := stkT_len m N k z
              cases hbz : L.getD z false
              · rw [hbz] at h6
                have HS7 : Hid (StkN w g (stkT m N k (z + 1)) w6 ∧ OwnOf Value.bool false (g + 1) hi5 w6 (some ⟨b6, o6, none⟩) L) := ⟨by rw [← HKEEP.out z hlz hbz]; exact HS.out.1, HS.out.2⟩
                clear HS hbz
                go_wp2
                go_roundw
                case rel => exact ⟨z + 1, by omega, by go_num, HS7⟩
                case measure => simp [intOf]; omega
              · rw [hbz] at h6
                obtain ⟨q1, q2⟩ := HSET.out z hlz hbz
                have g6 := HS.out.1.blk.cell 0 (i := z) (by omega)
                rw [q1] at g6
                have f6 := HS.out.1.blk.free z
                have HS7 : Hid (StkN w g (stkT m N k (z + 1)) (w6.setCell ⟨g, z, none⟩ (.int .i64 (((cntK m z k : Nat) : Int) + 1))) ∧ OwnOf Value.bool false (g + 1) hi5 (w6.setCell ⟨g, z, none⟩ (.int .i64 (((cntK m z k : Nat) : Int) + 1))) (some ⟨b6, o6, none⟩) L) :=
                  ⟨HS.out.1.put z _ q2, HS.out.2.wrote (Wrote.setCell (S := fun k => k = g) (Wrote.refl _ _) (p := ⟨g, z, none⟩) rfl _) fun k h1 h2 => by omega⟩
                have hc0 : (0 : Int) ≤ ((cntK m z k : Nat) : Int) := by omega
                have hc1 : ((cntK m z k : Nat) : Int) ≤ 99 := by omega
                clear HS hbz q1 q2 hcz hlen
                generalize ((cntK m z k : Nat) : Int) = cz at *
                go_wp2
                go_roundw
                case rel => exact ⟨z + 1, by omega, by go_num, HS7⟩
                case measure => simp [intOf]; omega
            · have hze : N = z := by omega
              subst hze
              have hnl : ¬ (N : Int) < (L.length : Int) := by omega
              have HS9 : Hid (StkN w g (stkT m N (k + 1) 0) w6) := by show StkN _ _ _ _; rw [← stkT_next]; exact HS.out.1
              clear HS
              go_wp2
              go_roundw
              case rel => exact ⟨k + 1, by omega, by go_num, HS9⟩
              case measure => simp [intOf]; omega
        · have hke : k = m.length := by omega
          subst hke
          have hrow : RowI w4 (some ⟨g, 0, none⟩) (stkT m N m.length 0) := (HS.out.blk.own 0 (lo := 0) (hi := w4.heap.size) (Nat.zero_le _) (Nat.le_refl _)).row
          have HROW := Lib.hid hrow
          have hlen := stkT_len m N m.length 0
          have HL7 : Hid (∀ w', w4.Ext w' → Calls Try.prog 102 #[.int .i64 W, .slice (some ⟨g, 0, none⟩) N N] w' (MatRet w' G)) := fun w' hx => by
            have h := l07Rows_any g 0 N W H (stkT m N m.length 0) w' hw1 (by omega) (by omega) (by rw [hlen, HN.out]) (by omega) (RowOf.ext HROW.out hx)
            rw [hlen] at h
            rw [HG.out]
            exact h
          clear hrow hlen
          go_wp2_with fail
          refine (HWS3.out w4 HS.out.x).mono ?_
          rintro e w5 ⟨rfl, hx5⟩
          go_wp2_with fail
          refine (HL7.out w5 hx5).mono ?_
          rintro e w6 ⟨a6, c6, A6, C6, rfl, hx6, hm6⟩
          have hlo := HS.out.lo
          have hsz := hx5.size
          have hlg := HS.out.blk.lt
          obtain ⟨r1, r2, r3, HR⟩ := Res.storeM (lo := w5.heap.size) (.slice a6 G.length c6) (HS.out.x.trans (hx5.trans hx6)) (Nat.le_refl _) (HS.out.one.ext (hx5.trans hx6)) (by omega) (hm6.mat (by decide))
          clear hx5 hx6 hm6 HS HROW HL7
          go_wp2
          exact bodyPost_ret (v := .tuple #[.agg #[.slice a6 G.length c6], .bool true]) (by simp [results, Try.results23, go_sem, r3]) rfl (HQ.out _ _ ⟨a6, c6, A6, C6, rfl, HR.out.1, HR.out.2⟩)
end Go.Proofs.Ytahhnjoeaodcjaa
