/- The reference draws rings; a picture of at most twelve rows and columns. -/
import Derived.Test.YthgkmaccbcpaeaaGenG
namespace Go.Proofs.Ythgkmaccbcpaeaa
open Go Go.RowKit
theorem pic_bndM {W H : Nat} {s : List ByteArray} (hs : PicOf W H s) (hW : W ≤ 16) (hH : H ≤ 16) : PicBnd s := ⟨by rw [hs.2.1]; omega, fun y => by
  by_cases hy : y < s.length
  · rw [(picOk_spec hs.1).2.2.2.2.1.2 y hy, hs.2.2]; omega
  · rw [List.getD_eq_getElem?_getD, List.getElem?_eq_none (by omega)]; simp⟩
set_option maxRecDepth 5000 in
set_option maxHeartbeats 3200000 in
theorem drawRings_any (wB : World) (p n : Nat) (w : World) (hn : n ≤ 50000) (h : SrcSt wB p n w) :
    Calls Try.prog 112 #[.pointer (some ⟨p, 0, none⟩)] w (DrawnPic wB w p (n + 3300) PicBnd) := by
  obtain ⟨i0, hi, hz0, hz1, hz2⟩ := info_parts Try.infoBool'
  have HP : Hid (∀ w' n' N, n' ≤ 2000000 → SrcSt wB p n' w' → Calls Try.prog 80 #[.pointer (some ⟨p, 0, none⟩), .int .i64 N] w' (PickRet wB p (n' + 2) w' N)) := fun w' n' N h1 h2 => pick_any wB p n' N w' (by omega) h2
  have HO : Hid (∀ w' n' N, n' ≤ 2000000 → SrcSt wB p n' w' → Calls Try.prog 170 #[.pointer (some ⟨p, 0, none⟩), .int .i64 N] w' fun e w'' => ∃ b : Bool, e = .returned (.bool b) ∧ Wrote (fun k => k = p) w' w'' ∧ SrcSt wB p (n' + 2) w'') := fun w' n' N h1 h2 => one_any wB p n' N w' (by omega) h2
  have HDW : Hid (∀ w', SrcSt wB p (n + 2) w' → Calls Try.prog 191 #[.pointer (some ⟨p, 0, none⟩)] w' (DrawnPic wB w' p (n + 2 + 3200) PicBnd)) := fun w' hs => draw_any wB p (n + 2) w' (by omega) hs
  obtain ⟨W0, hW0⟩ : ∃ W0, W0 = w.alloc (.cells #[.slice none 0 0] 26) := ⟨_, rfl⟩
  have HR0 : Hid (RsSt wB w p w.heap.size n W0) := by rw [hW0]; exact RsSt.start h
  have hsz0 : W0.heap.size = w.heap.size + 1 := by rw [hW0]; simp
  have HSRC := Lib.hid h
  have HW0 : Hid (∀ w', W0.Ext w' → (w.alloc (.cells #[.slice none 0 0] 26)).Ext w') := fun w' h => by rw [← hW0]; exact h
  have HSZ0 := Lib.hid hsz0
  clear h hsz0
  go_enter Try.func112, Try.ntmps112
  go_wp2_with fail
  rw [← hW0]
  clear hW0
  refine (HO.out W0 n 2 (by omega) HR0.out.src).mono ?_
  rintro e w1 ⟨b, rfl, hw, hs⟩
  have HR1 := Lib.hid (HR0.out.call hw hs)
  clear hw hs
  cases b
  · have HDT : Hid (DrSt wB w p w.heap.size (w.heap.size + 1) 0 (n + 2) w1 → True) := fun _ => trivial
    clear HDT HDW
    go_wp2_with fail
    refine (HP.out w1 (n + 2) 8 (by omega) HR1.out.src).mono ?_
    rintro e w2 ⟨x, rfl, x0, x1, hw, hs⟩
    have HR2 := Lib.hid (HR1.out.call hw hs)
    obtain ⟨X, hX⟩ : ∃ X : Nat, x = X := ⟨x.toNat, by omega⟩
    subst hX
    have hX8 : X ≤ 7 := by omega
    clear hw hs HR1 x0 x1
    go_wp2_with fail
    refine (HP.out w2 (n + 2 + 2) 8 (by omega) HR2.out.src).mono ?_
    rintro e w3 ⟨y, rfl, y0, y1, hw, hs⟩
    have HR3 := Lib.hid (HR2.out.call hw hs)
    obtain ⟨Y, hY⟩ : ∃ Y : Nat, y = Y := ⟨y.toNat, by omega⟩
    subst hY
    have hY8 : Y ≤ 7 := by omega
    clear hw hs HR2 y0 y1
    go_upto_region 5 with fail
    obtain ⟨W, hW⟩ : ∃ W, W = X + 3 := ⟨_, rfl⟩
    obtain ⟨H, hH⟩ : ∃ H, H = Y + 3 := ⟨_, rfl⟩
    rw [show (3 : Int) + (X : Int) = (W : Int) by omega, show (3 : Int) + (Y : Int) = (H : Int) by omega]
    have hW1 : 1 ≤ W := by omega
    have hW2 : W ≤ 16 := by omega
    have hH1 : 1 ≤ H := by omega
    have hH2 : H ≤ 16 := by omega
    clear hW hH hX8 hY8
    have hm : W * H ≤ 256 := Nat.mul_le_mul hW2 hH2
    have hm1 : 1 ≤ W * H := Nat.mul_pos hW1 hH1
    have hmi : (W : Int) * (H : Int) = ((W * H : Nat) : Int) := by rw [Int.natCast_mul]
    have hmb : (W : Int) * (H : Int) ≤ 4096 := by rw [hmi]; omega
    have hmb0 : 0 ≤ (W : Int) * (H : Int) := by rw [hmi]; omega
    obtain ⟨m, hmm⟩ : ∃ m, m = W * H := ⟨_, rfl⟩
    rw [← hmm] at hm hm1 hmi
    have C1 : Hid (i0.bytes * m ≤ 281474976710656) := by show _ ≤ _; rw [hz2]; omega
    have C2 : Hid (m ≤ maxLen) := by show _ ≤ _; unfold maxLen; omega
    have HMI := Lib.hid hmi
    have HMM := Lib.hid hmm
    clear hmm hmi
    go_wp2_with (at_make; refine wpList_make_full _ rfl _ _ 103 rfl 0 4 i0 (.bool false) 1 Try.underlying103 hi hz0 hz1 .i64 .i64 _ _ m rfl rfl HMI.out HMI.out C1.out C2.out (Nat.zero_le _) (fun w4 hown hgrow => ?_); go_loud (have hS0 : DrSt wB w p w.heap.size w3.heap.size m (n + 10) w4 := ⟨HR3.out.wrote.trans ((World.Ext.made hgrow).wrote _), (HR3.out.src.ext (World.Ext.made hgrow)).more (by omega), HR3.out.one.ext (World.Ext.made hgrow), ⟨_, by simp, blk_of_made (f := Value.bool) false rfl hown⟩, HR3.out.ap.1, Nat.le_refl _, HR3.out.one.lt⟩; have HS0 := Lib.hid hS0; clear hS0 hown hgrow))
    generalize w3.heap.size = g at *
    refine (HP.out w4 (n + 10) 4 (by omega) HS0.out.src).mono ?_
    rintro e w5 ⟨r, rfl, r0, r1, hw, hs⟩
    have HS := Lib.hid (HS0.out.call hw hs)
    obtain ⟨k, hk⟩ : ∃ k : Nat, (k : Int) = 1 + r := ⟨(1 + r).toNat, by omega⟩
    have hk4 : k ≤ 4 := by omega
    clear hw hs HS0 C1 C2 hi hz0 hz1 hz2 HR0 HR3
    go_upto_region 7 with fail
    rw [← hk]
    clear hk r0 r1
    go_wp2
    go_loopw [6, 7, 8, 9, 10, 11, 12, 13, 14] (fun i _ _ _ _ _ _ _ _ wr => ∃ j : Nat, j ≤ k ∧ i = .int .i64 j ∧ Hid (DrSt wB w p w.heap.size g m (n + 12 + 20 * (k - j)) wr)) (fun i _ _ _ _ _ _ _ _ _ => (intOf i).toNat)
    case atStart => exact ⟨k, Nat.le_refl _, rfl, by rw [Nat.sub_self]; exact HS⟩
    case round =>
      clear HS
      obtain ⟨j, hj, rfl, HS⟩ := hrel
      obtain ⟨wo, rfl⟩ : ∃ wo : World, wo = wr := ⟨_, rfl⟩
      by_cases hlt : 0 < j
      · have hlt' : (0 : Int) < (j : Int) := by omega
        go_wp2_with fail
        refine (HP.out wo (n + 12 + 20 * (k - j)) _ (by omega) HS.out.src).mono ?_
        rintro e w3 ⟨x, rfl, x0, x1, hw, hs⟩
        have HS3 := Lib.hid (HS.out.call hw hs)
        have x2 : x < (W : Int) := by omega
        clear hw hs HS x1
        go_wp2_with fail
        refine (HP.out w3 _ _ (by omega) HS3.out.src).mono ?_
        rintro e w4 ⟨y, rfl, y0, y1, hw, hs⟩
        have HS4 := Lib.hid (HS3.out.call hw hs)
        have y2 : y < (H : Int) := by omega
        clear hw hs HS3 y1
        go_wp2_with fail
        refine (HP.out w4 _ _ (by omega) HS4.out.src).mono ?_
        rintro e w5 ⟨u, rfl, u0, u1, hw, hs⟩
        have HS5 := Lib.hid (HS4.out.call hw hs)
        have u2 : u < (W : Int) := by omega
        clear hw hs HS4 u1
        go_wp2_with fail
        refine (HP.out w5 _ _ (by omega) HS5.out.src).mono ?_
        rintro e w6 ⟨v, rfl, v0, v1, hw, hs⟩
        have HS6 := Lib.hid ((HS5.out.call hw hs).more (n' := n + 12 + 20 * (k - (j - 1))) (by omega))
        have v2 : v < (H : Int) := by omega
        clear hw hs HS5 v1
        have HIN : Hid (∀ a b c w', Calls Try.prog 175 #[.int .i64 a, .int .i64 b, .int .i64 c] w' fun e w'' => ∃ t : Bool, e = .returned (.bool t) ∧ w'.Ext w'') := fun a b c w' => (l00In_any a b c w' _ rfl).mono fun e w'' h => ⟨_, h.1, h.2⟩
        go_wp2
        go_loopw [11, 12, 13, 14, 56] (fun _ _ _ _ i wr => ∃ q : Nat, q ≤ m ∧ i = .int .i64 q ∧ Hid (DrSt wB w p w.heap.size g m (n + 12 + 20 * (k - (j - 1))) wr)) (fun _ _ _ _ i _ => m - (intOf i).toNat)
        case atStart => exact ⟨0, Nat.zero_le _, rfl, HS6⟩
        case round =>
          clear HS6
          obtain ⟨q, hq, rfl, HS⟩ := hrel
          obtain ⟨wq, rfl⟩ : ∃ wq : World, wq = wr := ⟨_, rfl⟩
          have hq0 : (0 : Int) ≤ (q : Int) := by omega
          by_cases hltq : q < m
          · have hltq' : (q : Int) < (m : Int) := by omega
            go_upto_region 18 with fail
            generalize (q : Int) % (W : Int) = cu at *
            generalize wrap64 ((q : Int) / (W : Int)) = cv at *
            go_wp2_with fail
            all_goals
              refine (HIN.out _ _ _ _).mono ?_
              rintro e w8 ⟨t, rfl, hx8⟩
              have HS8 := Lib.hid (HS.out.ext hx8)
              clear hx8 HS
              cases t
              · go_wp2
                go_roundw
                case rel => exact ⟨q + 1, by omega, by go_num, HS8⟩
                case measure => simp [intOf]; omega
              · go_wp2_with fail
                refine (HIN.out _ _ _ _).mono ?_
                rintro e w9 ⟨t, rfl, hx9⟩
                have HS9 := Lib.hid (HS8.out.ext hx9)
                clear hx9 HS8
                cases t
                · go_wp2
                  go_roundw
                  case rel => exact ⟨q + 1, by omega, by go_num, HS9⟩
                  case measure => simp [intOf]; omega
                · obtain ⟨vb, hc, hf, hset⟩ := HS9.out.at hltq
                  have HS10 := Lib.hid hset
                  clear hset HS9
                  go_wp2
                  go_roundw
                  case rel => exact ⟨q + 1, by omega, by go_num, HS10.out _⟩
                  case measure => simp [intOf]; omega
          · have hqe : q = m := by omega
            subst hqe
            go_wp2
            go_roundw
            case rel => exact ⟨j - 1, by omega, by go_num, HS⟩
            case measure => simp [intOf]; omega
      · have : j = 0 := by omega
        subst this
        obtain ⟨l, hl, hb⟩ := HS.out.px
        have HMK := Lib.hid (l01MakeG_any (some ⟨g, 0, none⟩) m W H l wo hW1 (by omega) (by omega) (by rw [hl, HMM.out]) (hb.own false (Nat.le_refl _) (Nat.le_refl _) (lo := g)).row)
        rw [hl] at HMK
        have HL : Hid (l.length = W * H) := by show _ = _; rw [hl, HMM.out]
        clear hb hl
        go_wp2_with fail
        refine HMK.out.mono ?_
        rintro e w4 ⟨a4, c4, rfl, hx4, ho4⟩
        obtain ⟨r1, r2, r3, HR⟩ := HS.out.store hx4 ho4 (.slice a4 H c4)
        clear hx4 ho4 HS HMK
        go_wp2
        exact bodyPost_ret (v := .agg #[.slice a4 H c4]) (by simp [results, Try.results112, go_sem, r3]) rfl ⟨a4, c4, picRows W H l, pic_bndM ⟨picOk_rows hW1 hW2 hH1 hH2 HL.out, picRows_len _ _ _, picW_rows (by omega) HL.out⟩ hW2 hH2, by rw [picRows_len], HR.out.1, HR.out.2.1.more (by omega), by rw [picRows_len]; exact HR.out.2.2⟩
  · go_wp2_with fail
    refine (HDW.out w1 HR1.out.src).mono ?_
    rintro e w2 ⟨a, c, ss, hb, rfl, hw, hs, hg⟩
    obtain ⟨r1, r2, r3, HR⟩ := (HR1.out.call hw hs).store hg HR1.out.wrote.size (.slice a ss.length c)
    have HB := Lib.hid hb
    clear hw hs hg hb HDW HR1 HR0
    go_wp2
    exact bodyPost_ret (v := .agg #[.slice a ss.length c]) (by simp [results, Try.results112, go_sem, r3]) rfl ⟨a, c, ss, HB.out, rfl, HR.out.1, HR.out.2.1.more (by omega), HR.out.2.2⟩
end Go.Proofs.Ythgkmaccbcpaeaa
