/- A picture of runs: the reference. -/
import Derived.Test.YtpdmfnndegcjjaaRunJ
import Derived.IntWalk
namespace Go.Proofs.Ytpdmfnndegcjjaa
open Go Go.RowKit
set_option maxRecDepth 5000 in
set_option maxHeartbeats 8000000 in
theorem specPOR_any (i0 i1 : Int) (a : Option Addr) (c : Nat) (A : Nat → Option Addr) (C : Nat → Nat) (m : List (List Int)) (w : World) (hb : MatBnd m) (hm : MatAt w a A C m) :
    Calls Try.prog 67 #[.int .i64 i0, .int .i64 i1, .slice a m.length c] w (PicRet2 w (porRows i0 i1 m) (porOk i0 i1 m)) := by
  obtain ⟨ib, hib, hb0, hb1, hb2⟩ := info_parts Try.infoBoolP
  obtain ⟨W0, hW0⟩ : ∃ W0, W0 = w.alloc (.cells #[.slice none 0 0] 26) := ⟨_, rfl⟩
  have hx0 : w.Ext W0 := by rw [hW0]; repeat (first | exact World.Ext.refl _ | exact ⟨_, rfl⟩ | assumption | refine World.Ext.over ?_ _ | refine World.Ext.drewN ?_ _ | refine World.Ext.drew ?_ | refine World.Ext.alloc ?_ _ | refine World.Ext.setCell ?_ (by simp) _)
  have hone : One W0 w.heap.size 26 (.slice none 0 0) := by rw [hW0]; exact One.new _ _ _ _ rfl
  have HX0 := Lib.hid hx0
  have HO := Lib.hid hone
  have HSD := Lib.hid (fun z w' t (ht : inB z 1 16 = t) => l01Side_any z w' t ht)
  cases h0 : inB i0 1 16
  · have ho := porOk_size (m := m) (show sizeB i0 i1 = false by unfold sizeB; rw [h0]; rfl)
    have HC0 := Lib.hid (HSD.out i0 W0 _ h0)
    rw [porRows_no ho, ho]
    clear hb hm hx0 hone h0 ho HSD
    go_enter Try.func67, Try.ntmps67
    go_wp2_with fail
    rw [← hW0]
    clear hW0
    refine HC0.out.mono ?_
    rintro e w1 ⟨rfl, hx1⟩
    obtain ⟨r1, r2, r3, HR⟩ := One.noPic (HX0.out.trans hx1) (Nat.le_refl _) (HO.out.ext hx1)
    clear hx1
    go_wp2
    exact bodyPost_ret (v := .tuple #[.agg #[.slice none 0 0], .bool false]) (by simp [results, Try.results67, go_sem, r3]) rfl (PicRet2.no HR.out)
  cases h1 : inB i1 1 16
  · have ho := porOk_size (m := m) (show sizeB i0 i1 = false by unfold sizeB; rw [h1, Bool.and_false])
    have HC0 := Lib.hid (HSD.out i0 W0 _ h0)
    have HC1 := Lib.hid (fun w' => HSD.out i1 w' _ h1)
    rw [porRows_no ho, ho]
    clear hb hm hx0 hone h0 h1 ho HSD
    go_enter Try.func67, Try.ntmps67
    go_wp2_with fail
    rw [← hW0]
    clear hW0
    refine HC0.out.mono ?_
    rintro e w1 ⟨rfl, hx1⟩
    go_wp2_with fail
    refine (HC1.out w1).mono ?_
    rintro e w2 ⟨rfl, hx2⟩
    obtain ⟨r1, r2, r3, HR⟩ := One.noPic (HX0.out.trans (hx1.trans hx2)) (Nat.le_refl _) (HO.out.ext (hx1.trans hx2))
    clear hx1 hx2
    go_wp2
    exact bodyPost_ret (v := .tuple #[.agg #[.slice none 0 0], .bool false]) (by simp [results, Try.results67, go_sem, r3]) rfl (PicRet2.no HR.out)
  have HC0 := Lib.hid (HSD.out i0 W0 _ h0)
  have HC1 := Lib.hid (fun w' => HSD.out i1 w' _ h1)
  have hs : sizeB i0 i1 = true := by unfold sizeB; rw [h0, h1]; rfl
  obtain ⟨sW1, sW2⟩ := inB_true.1 h0
  obtain ⟨sH1, sH2⟩ := inB_true.1 h1
  obtain ⟨W, rfl⟩ := Int.eq_ofNat_of_zero_le (show 0 ≤ i0 by omega)
  obtain ⟨H, rfl⟩ := Int.eq_ofNat_of_zero_le (show 0 ≤ i1 by omega)
  have HALL : Hid ((∀ k, k < m.length → runGood W H (m.getD k []) = true) → porOk W H m = decide (runsTo W (paintTo W H m m.length) (H * W) = m)) := fun h => porOk_all hs h
  have HBAD : Hid (∀ k, k < m.length → runGood W H (m.getD k []) = false → porRows W H m = [] ∧ porOk W H m = false) := fun k hk h => ⟨porRows_no (porOk_bad hk h), porOk_bad hk h⟩
  have HYES : Hid (porOk W H m = true → porRows W H m = picRows W H (paintTo W H m m.length)) := fun h => porRows_yes h
  have HNO : Hid (porOk W H m = false → porRows W H m = []) := fun h => porRows_no h
  have HM := Lib.hid (hm.ext hx0)
  have HIN : Hid (∀ w' z lo hi t, inB z lo hi = t → Calls Try.prog 166 #[.int .i64 z, .int .i64 lo, .int .i64 hi] w' fun e w'' => e = .returned (.bool t) ∧ w'.Ext w'') := fun w' z lo hi t ht => l00In_any _ _ _ w' t ht
  have HMK : Hid (∀ w' l a c, l.length = W * H → RowB w' a l → Calls Try.prog 167 #[.int .i64 W, .slice a l.length c] w' (PicVal w' (picRows W H l))) := fun w' l a c hl hr => (l01Make_any a c W H l w' (by omega) (by omega) (by omega) hl hr).mono fun e w'' ⟨a', c', e1, e2, e3⟩ => ⟨a', c', by rw [picRows_len]; exact e1, e2, e3⟩
  have HRN : Hid (∀ w' p a c, w'.cell? ⟨p, 0, none⟩ = some (.slice a (picRows W H (paintTo W H m m.length)).length c) → RowS w' a (picRows W H (paintTo W H m m.length)) → Calls Try.prog 169 #[.pointer (some ⟨p, 0, none⟩)] w' (MatRet w' (runsTo W (paintTo W H m m.length) (H * W)))) := fun w' p a c hp hr => by
    have hl := paintTo_len W H m m.length
    have h := l04Runs_any p a c _ w' (even_rows (by omega) hl) (by rw [picW_rows (by omega) hl]; omega) (by rw [picW_rows (by omega) hl]; omega) (by rw [picRows_len]; omega) hp hr
    rw [picW_rows (by omega) hl, picL_rows hl, picRows_len] at h
    exact h
  have HPN : Hid (∀ (k a b c : Nat), m.getD k [] = [(a : Int), (b : Int), (c : Int)] → paintTo W H m (k + 1) = paintRun (paintTo W H m k) (a * W + b) c) := fun k a b c h => paintTo_next h
  have HPL : Hid (∀ k, (paintTo W H m k).length = W * H) := fun k => paintTo_len W H m k
  have HMB := Lib.hid hb
  have hn := hb.1
  have HP0 : Hid (paintTo W H m 0 = List.replicate (W * H) false) := rfl
  have HRL : Hid (∀ l, (runsTo W l (H * W)).length ≤ 4096) := fun l => Nat.le_trans (runsTo_len W l (H * W)) (Nat.mul_le_mul (show H ≤ 64 by omega) (show W ≤ 64 by omega))
  have hm2 : W * H ≤ 4096 := Nat.mul_le_mul (show W ≤ 64 by omega) (show H ≤ 64 by omega)
  have C1 : Hid (ib.bytes * (W * H) ≤ 281474976710656) := by show _ ≤ _; rw [hb2]; omega
  have C2 : Hid (W * H ≤ maxLen) := by show _ ≤ _; unfold maxLen; omega
  have hmi : (W : Int) * (H : Int) = ((W * H : Nat) : Int) := by rw [Int.natCast_mul]
  have hmb : (W : Int) * (H : Int) ≤ 4096 := by rw [hmi]; omega
  have hmb0 : 0 ≤ (W : Int) * (H : Int) := by rw [hmi]; omega
  have HMI := Lib.hid hmi
  have HW16 : Hid (W ≤ 16 ∧ H ≤ 16 ∧ 1 ≤ W) := by refine ⟨by omega, by omega, by omega⟩
  have hw1 : IntKind.i64.wrap ((H : Int) - 1) = (H : Int) - 1 := IntWalk.i64_in _ (by omega)
  have hw2 : IntKind.i64.wrap ((W : Int) - 1) = (W : Int) - 1 := IntWalk.i64_in _ (by omega)
  clear hb hm hx0 hone hs h0 h1 hmi HSD
  go_enter Try.func67, Try.ntmps67
  go_wp2_with fail
  rw [← hW0]
  clear hW0
  refine HC0.out.mono ?_
  rintro e w1 ⟨rfl, hx1⟩
  go_wp2_with fail
  refine (HC1.out w1).mono ?_
  rintro e w2 ⟨rfl, hx2⟩
  have HX2 := Lib.hid (hx1.trans hx2)
  clear hx1 hx2 HC0 HC1
  go_wp2_with (at_make; refine wpList_make_full _ rfl _ _ 38 rfl 0 4 ib (.bool false) 1 Try.underlying38 hib hb0 hb1 .i64 .i64 _ _ (W * H) rfl rfl HMI.out HMI.out C1.out C2.out (Nat.zero_le _) (fun w3 hown hgrow => ?_); have hB3 : BlkOf Value.bool w3 w2.heap.size 4 (List.replicate (W * H) false) := blk_of_made (f := Value.bool) false rfl hown; have HST : Hid (W0.Ext w3 ∧ BlkOf Value.bool w3 w2.heap.size 4 (paintTo W H m 0)) := ⟨HX2.out.trans (World.Ext.made hgrow), by rw [HP0.out]; exact hB3⟩; clear hown hgrow hB3)
  have HG : Hid (W0.heap.size ≤ w2.heap.size) := HX2.out.size
  clear HX2 C1 C2 HP0 hmb hmb0 HMI
  generalize w2.heap.size = g at *
  go_loopw [9, 10] (fun i _ wr => ∃ k : Nat, k ≤ m.length ∧ i = .int .i64 k ∧ Hid (∀ r, r < k → runGood W H (m.getD r []) = true) ∧ Hid (W0.Ext wr ∧ BlkOf Value.bool wr g 4 (paintTo W H m k))) (fun i _ _ => m.length - (intOf i).toNat)
  case atStart => exact ⟨0, Nat.zero_le _, rfl, fun r hr => by omega, HST⟩
  case round =>
    clear HST
    obtain ⟨k, hk, rfl, HK, HS⟩ := hrel
    obtain ⟨wo, rfl⟩ : ∃ wo : World, wo = wr := ⟨_, rfl⟩
    have hk0 : (0 : Int) ≤ (k : Int) := by omega
    by_cases hlt : k < m.length
    · have hlt' : (k : Int) < (m.length : Int) := by omega
      obtain ⟨⟨b1, o1, rfl, hc1⟩, hr1⟩ := (HM.out.ext HS.out.1) k hlt
      have hrl := HMB.out.2 k
      cases hg : runGood W H (m.getD k [])
      · have HE := Lib.hid (HBAD.out k hlt hg)
        rcases runGood_cases _ hg with hl | ⟨z0, z1, z2, hrow, hcs, -⟩
        · have hne : (((m.getD k []).length : Int) != 3) = true := by
            simp only [bne_iff_ne, ne_eq]
            omega
          clear hg hl hr1 HRN HIN HPN HALL HYES HNO HBAD HK HG HRL HM HMK HPL
          generalize (m.getD k []).length = rl at *
          go_wp2_with fail
          refine wp_region_over_lit (by kernel_rfl) (by kernel_rfl) ?_; (repeat (go_big_quiet_step (fail))); refine wpQuiet_nil ?_; rintro _ ⟨x1, rfl⟩
          have HX9 : Hid (W0.Ext (wo.over x1)) := HS.out.1.trans ⟨x1, rfl⟩; obtain ⟨r1, r2, r3, HR⟩ := One.noPic (HX0.out.trans HX9.out) (Nat.le_refl _) (HO.out.ext HX9.out); go_wp2; exact bodyPost_ret (v := .tuple #[.agg #[.slice none 0 0], .bool false]) (by simp [results, Try.results67, go_sem, r3]) rfl (by rw [HE.out.1, HE.out.2]; exact PicRet2.no HR.out)
        · rw [hrow] at hc1 hr1
          obtain ⟨br, or', hA, q0⟩ := hr1 0 (by simp)
          obtain ⟨br1, or1, hA1, q1⟩ := hr1 1 (by simp)
          obtain ⟨br2, or2, hA2, q2⟩ := hr1 2 (by simp)
          rw [hA] at hA1 hA2 hc1
          simp only [Option.some.injEq, Addr.mk.injEq, and_true] at hA1 hA2
          obtain ⟨rfl, rfl⟩ := hA1
          obtain ⟨rfl, rfl⟩ := hA2
          have q0 : wo.cell? ⟨br, or', none⟩ = some (.int .i64 z0) := q0
          have q1 : wo.cell? ⟨br, or' + 1, none⟩ = some (.int .i64 z1) := q1
          have q2 : wo.cell? ⟨br, or' + 2, none⟩ = some (.int .i64 z2) := q2
          have hc1 : wo.cell? ⟨b1, o1 + k, none⟩ = some (.slice (some ⟨br, or', none⟩) 3 (C k)) := hc1
          clear hg hr1 HRN HPN HALL HYES HNO HBAD HK HG HRL hrow hrl hA HM HMK HPL
          rcases hcs with h1 | ⟨h1, h2⟩ | ⟨h1, h2, h3⟩
          · have K1 := Lib.hid (fun w' => HIN.out w' _ _ _ _ h1)
            clear h1 HIN
            go_wp2_with fail
            refine wp_region_over_lit (by kernel_rfl) (by kernel_rfl) ?_; (repeat (go_big_quiet_step ((go_at_call 166; exact Calls.over_of (K1.out _))))); refine wpQuiet_nil ?_; rintro _ ⟨x1, rfl⟩
            have HX9 : Hid (W0.Ext (wo.over x1)) := HS.out.1.trans ⟨x1, rfl⟩; obtain ⟨r1, r2, r3, HR⟩ := One.noPic (HX0.out.trans HX9.out) (Nat.le_refl _) (HO.out.ext HX9.out); go_wp2; exact bodyPost_ret (v := .tuple #[.agg #[.slice none 0 0], .bool false]) (by simp [results, Try.results67, go_sem, r3]) rfl (by rw [HE.out.1, HE.out.2]; exact PicRet2.no HR.out)
          · have K1 := Lib.hid (fun w' => HIN.out w' _ _ _ _ h1)
            have K2 := Lib.hid (fun w' => HIN.out w' _ _ _ _ h2)
            clear h1 h2 HIN
            go_wp2_with fail
            refine wp_region_over_lit (by kernel_rfl) (by kernel_rfl) ?_; (repeat (go_big_quiet_step ((first | (go_at_call_of 166 (Value.int .i64 z0); exact Calls.over_of (K1.out _)) | (go_at_call_of 166 (Value.int .i64 z1); exact Calls.over_of (K2.out _)))))); refine wpQuiet_nil ?_; rintro _ ⟨x1, rfl⟩
            have HX9 : Hid (W0.Ext (wo.over x1)) := HS.out.1.trans ⟨x1, rfl⟩; obtain ⟨r1, r2, r3, HR⟩ := One.noPic (HX0.out.trans HX9.out) (Nat.le_refl _) (HO.out.ext HX9.out); go_wp2; exact bodyPost_ret (v := .tuple #[.agg #[.slice none 0 0], .bool false]) (by simp [results, Try.results67, go_sem, r3]) rfl (by rw [HE.out.1, HE.out.2]; exact PicRet2.no HR.out)
          · have K1 := Lib.hid (fun w' => HIN.out w' _ _ _ _ h1)
            have K2 := Lib.hid (fun w' => HIN.out w' _ _ _ _ h2)
            have K3 := Lib.hid (fun w' => HIN.out w' _ _ _ _ h3)
            have h2 := inB_true.1 h2
            have hw3 : IntKind.i64.wrap ((W : Int) - z1) = (W : Int) - z1 := IntWalk.i64_in _ (by omega)
            clear h1 h3 HIN
            go_wp2_with fail
            refine wp_region_over_lit (by kernel_rfl) (by kernel_rfl) ?_; (repeat (go_big_quiet_step ((first | (go_at_call_of 166 (Value.int .i64 z0); exact Calls.over_of (K1.out _)) | (go_at_call_of 166 (Value.int .i64 z1); exact Calls.over_of (K2.out _)) | (go_at_call_of 166 (Value.int .i64 z2); exact Calls.over_of (K3.out _)))))); refine wpQuiet_nil ?_; rintro _ ⟨x1, rfl⟩
            have HX9 : Hid (W0.Ext (wo.over x1)) := HS.out.1.trans ⟨x1, rfl⟩; obtain ⟨r1, r2, r3, HR⟩ := One.noPic (HX0.out.trans HX9.out) (Nat.le_refl _) (HO.out.ext HX9.out); go_wp2; exact bodyPost_ret (v := .tuple #[.agg #[.slice none 0 0], .bool false]) (by simp [results, Try.results67, go_sem, r3]) rfl (by rw [HE.out.1, HE.out.2]; exact PicRet2.no HR.out)
      · obtain ⟨ra, rb, rc, hrow, g1, g2, g3⟩ := runGood_spec hg
        have HNX := Lib.hid (HPN.out k ra rb rc hrow)
        have HCE : Hid (∃ br or' : Nat, ∀ w', W0.Ext w' → w'.cell? ⟨b1, o1 + k, none⟩ = some (.slice (some ⟨br, or', none⟩) 3 (C k)) ∧ w'.cell? ⟨br, or', none⟩ = some (.int .i64 ra) ∧ w'.cell? ⟨br, or' + 1, none⟩ = some (.int .i64 rb) ∧ w'.cell? ⟨br, or' + 2, none⟩ = some (.int .i64 rc)) := by
          obtain ⟨⟨b1', o1', e0, hc1⟩, hr1⟩ := HM.out k hlt
          simp only [Option.some.injEq, Addr.mk.injEq, and_true] at e0
          obtain ⟨rfl, rfl⟩ := e0
          rw [hrow] at hc1 hr1
          obtain ⟨br, or', hA, q0⟩ := hr1 0 (by simp)
          obtain ⟨br1, or1, hA1, q1⟩ := hr1 1 (by simp)
          obtain ⟨br2, or2, hA2, q2⟩ := hr1 2 (by simp)
          rw [hA] at hA1 hA2 hc1
          simp only [Option.some.injEq, Addr.mk.injEq, and_true] at hA1 hA2
          obtain ⟨rfl, rfl⟩ := hA1
          obtain ⟨rfl, rfl⟩ := hA2
          exact ⟨br, or', fun w' hx => ⟨hx.cell hc1, hx.cell q0, hx.cell q1, hx.cell q2⟩⟩
        clear hc1 hr1
        obtain ⟨br, or', hce⟩ := HCE.out
        have HCE := Lib.hid hce
        clear hce
        obtain ⟨hc1, q0, q1, q2⟩ := HCE.out wo HS.out.1
        have HK2 : Hid (∀ r, r < k + 1 → runGood W H (m.getD r []) = true) := fun r hr => by
          by_cases e : r = k
          · rw [e]; exact hg
          · exact HK.out r (by omega)
        have K1 := Lib.hid (fun w' => HIN.out w' (ra : Int) 0 ((H : Int) - 1) true (inB_true.2 (by omega)))
        have K2 := Lib.hid (fun w' => HIN.out w' (rb : Int) 0 ((W : Int) - 1) true (inB_true.2 (by omega)))
        have K3 := Lib.hid (fun w' => HIN.out w' (rc : Int) 1 ((W : Int) - (rb : Int)) true (inB_true.2 (by omega)))
        have hw3 : IntKind.i64.wrap ((W : Int) - (rb : Int)) = (W : Int) - (rb : Int) := IntWalk.i64_in _ (by omega)
        have hw4 : IntKind.i64.wrap ((rb : Int) + (rc : Int)) = (rb : Int) + (rc : Int) := IntWalk.i64_in _ (by omega)
        have HIX : Hid (∀ x : Nat, rb ≤ x → x < rb + rc → ra * W + x < W * H ∧ (ra : Int) * (W : Int) + (x : Int) < ((W * H : Nat) : Int) ∧ 0 ≤ (ra : Int) * (W : Int) ∧ (ra : Int) * (W : Int) ≤ 4096 ∧ 0 ≤ (ra : Int) * (W : Int) + (x : Int) ∧ (ra : Int) * (W : Int) + (x : Int) ≤ 9999) := fun x h1 h2 => by
          have h := Nat.mul_le_mul_right W (show ra + 1 ≤ H by omega)
          rw [Nat.add_mul, Nat.one_mul, Nat.mul_comm H W] at h
          have e : (ra : Int) * (W : Int) = ((ra * W : Nat) : Int) := by rw [Int.natCast_mul]
          rw [e]
          refine ⟨by omega, by omega, by omega, by omega, by omega, by omega⟩
        have hrb : (rb : Int) ≤ 16 := by omega
        have hrc : (rc : Int) ≤ 16 := by omega
        have hrc0 : (1 : Int) ≤ (rc : Int) := by omega
        have hra : (ra : Int) ≤ 16 := by omega
        clear hrow hg HIN HPN hrl HK HBAD
        go_wp2_with fail
        refine wp_region_over_lit (by kernel_rfl) (by kernel_rfl) ?_; (repeat (go_big_quiet_step ((first | (go_at_call_of 166 (Value.int .i64 (ra : Int)); exact Calls.over_of (K1.out _)) | (go_at_call_of 166 (Value.int .i64 (rb : Int)); exact Calls.over_of (K2.out _)) | (go_at_call_of 166 (Value.int .i64 (rc : Int)); exact Calls.over_of (K3.out _)))))); refine wpQuiet_nil ?_; rintro _ ⟨x1, rfl⟩
        have HS2 : Hid (W0.Ext (wo.over x1) ∧ BlkOf Value.bool (wo.over x1) g 4 (paintRun (paintTo W H m k) (ra * W + rb) (rb - rb))) := ⟨HS.out.1.trans ⟨x1, rfl⟩, by rw [Nat.sub_self]; exact HS.out.2.ext ⟨x1, rfl⟩⟩
        clear K1 K2 K3 hw3
        go_wp2
        clear q0 q1 q2 hc1 HS
        go_loopw [10] (fun j wr => ∃ x : Nat, rb ≤ x ∧ x ≤ rb + rc ∧ j = .int .i64 x ∧ Hid (W0.Ext wr ∧ BlkOf Value.bool wr g 4 (paintRun (paintTo W H m k) (ra * W + rb) (x - rb)))) (fun j _ => rb + rc - (intOf j).toNat)
        case atStart => exact ⟨rb, Nat.le_refl _, by omega, rfl, HS2⟩
        case round =>
          clear HS2
          obtain ⟨x, hx1, hx2, rfl, HS⟩ := hrel
          obtain ⟨wi, rfl⟩ : ∃ wi : World, wi = wr := ⟨_, rfl⟩
          obtain ⟨hc1, q0, q1, q2⟩ := HCE.out wi HS.out.1
          by_cases hltx : x < rb + rc
          · have hltx' : (x : Int) < (rb : Int) + (rc : Int) := by omega
            have hx0 : (0 : Int) ≤ (x : Int) := by omega
            go_wp2_with fail
            refine wp_region_over_lit (by kernel_rfl) (by kernel_rfl) ?_; (repeat (go_big_quiet_step (fail))); refine wpQuiet_nil ?_; rintro _ ⟨x1, rfl⟩
            have HX1 := Lib.hid (HS.out.1.trans (⟨x1, rfl⟩ : wi.Ext (wi.over x1)))
            have HB1 := Lib.hid (HS.out.2.ext (⟨x1, rfl⟩ : wi.Ext (wi.over x1)))
            obtain ⟨wj, hwj⟩ : ∃ wj, wj = wi.over x1 := ⟨_, rfl⟩
            rw [← hwj] at HX1 HB1 ⊢
            clear hc1 q0 q1 q2 HS hwj
            obtain ⟨hc1, q0, q1, q2⟩ := HCE.out wj HX1.out
            obtain ⟨i1, i2, i3, i4, i5, i6⟩ := HIX.out x hx1 hltx
            have hlp : (paintRun (paintTo W H m k) (ra * W + rb) (x - rb)).length = W * H := by rw [paintRun_len]; exact HPL.out k
            have hcell := HB1.out.cell false (i := ra * W + x) (by rw [hlp]; exact i1)
            have hfree := HB1.out.free (ra * W + x)
            have hlt9 := HB1.out.lt
            have HS3 : Hid (W0.Ext (wj.setCell ⟨g, ra * W + x, none⟩ (.bool true)) ∧ BlkOf Value.bool (wj.setCell ⟨g, ra * W + x, none⟩ (.bool true)) g 4 (paintRun (paintTo W H m k) (ra * W + rb) (x + 1 - rb))) := by
              refine ⟨HX1.out.setCell (p := ⟨g, ra * W + x, none⟩) HG.out _, ?_⟩
              have h := HB1.out.set (ra * W + x) true
              rw [show x + 1 - rb = (x - rb) + 1 by omega]
              show BlkOf _ _ _ _ ((paintRun _ _ (x - rb)).set (ra * W + rb + (x - rb)) true)
              rw [show ra * W + rb + (x - rb) = ra * W + x by omega]
              exact h
            generalize (paintRun (paintTo W H m k) (ra * W + rb) (x - rb)).getD (ra * W + x) false = old at hcell
            clear HB1 HX1 hlp hw4
            go_wp2
            go_roundw
            case rel => exact ⟨x + 1, by omega, by omega, by go_num, HS3⟩
            case measure => simp [intOf]; omega
          · have hxe : x = rb + rc := by omega
            have hxe' : ¬ (x : Int) < (rb : Int) + (rc : Int) := by omega
            have HS3 : Hid (∀ x1, W0.Ext (wi.over x1) ∧ BlkOf Value.bool (wi.over x1) g 4 (paintTo W H m (k + 1))) := fun x1 => ⟨HS.out.1.trans ⟨x1, rfl⟩, by rw [HNX.out, show rc = x - rb by omega]; exact HS.out.2.ext ⟨x1, rfl⟩⟩
            clear HS
            go_wp2_with fail
            refine wp_region_over_lit (by kernel_rfl) (by kernel_rfl) ?_; (repeat (go_big_quiet_step (fail))); refine wpQuiet_nil ?_; rintro _ ⟨x1, rfl⟩
            have HS4 := Lib.hid (HS3.out x1)
            clear HS3 hc1 q0 q1 q2
            go_wp2
            go_roundw
            case rel => exact ⟨k + 1, by omega, by go_num, HK2, HS4⟩
            case measure => simp [intOf]; omega
    · have hkk : k = m.length := by omega
      subst hkk
      have HOK := Lib.hid (HALL.out HK.out)
      have hpl := HPL.out m.length
      have HMK1 := Lib.hid (HMK.out wo (paintTo W H m m.length) (some ⟨g, 0, none⟩) (W * H) hpl (HS.out.2.own false (Nat.le_refl g) (Nat.le_refl _)).row)
      rw [hpl] at HMK1
      have HRL1 := Lib.hid (HRL.out (paintTo W H m m.length))
      have HRO : Hid (∀ r, ((runsTo W (paintTo W H m m.length) (H * W)).getD r []).length ≤ maxLen) := fun r => runsTo_rowlen _ _ _ _
      have HX := Lib.hid HS.out.1
      clear HK HALL HBAD HPN HIN HS HRL HPL hpl HMK
      generalize runsTo W (paintTo W H m m.length) (H * W) = R at *
      generalize picRows W H (paintTo W H m m.length) = P at *
      go_wp2_with fail
      refine HMK1.out.mono ?_
      rintro e w3 ⟨a3, c3, rfl, hx3, ho3⟩
      obtain ⟨w4, hw4⟩ : ∃ w4, w4 = w3.alloc (.cells #[.slice a3 P.length c3] 26) := ⟨_, rfl⟩
      have hx4 : w3.Ext w4 := by rw [hw4]; repeat (first | exact World.Ext.refl _ | exact ⟨_, rfl⟩ | assumption | refine World.Ext.over ?_ _ | refine World.Ext.drewN ?_ _ | refine World.Ext.drew ?_ | refine World.Ext.alloc ?_ _ | refine World.Ext.setCell ?_ (by simp) _)
      have cq : w4.cell? ⟨w3.heap.size, 0, none⟩ = some (.slice a3 P.length c3) := by rw [hw4]; simp [go_sem]
      have HX4 := Lib.hid (HX.out.trans (hx3.trans hx4))
      have HO4 := Lib.hid (ho3.ext hx4)
      have HL3 : Hid (w3.heap.size ≤ w4.heap.size) := hx4.size
      have HCQ : Hid (∀ w', w4.Ext w' → w'.cell? ⟨w3.heap.size, 0, none⟩ = some (.slice a3 P.length c3)) := fun w' hx => hx.cell cq
      have HC4 := Lib.hid (HRN.out w4 w3.heap.size a3 c3 cq HO4.out.row)
      have hh0 : w.heap.size < W0.heap.size := HO.out.lt
      have hh1 := HX.out.size
      have hl3 : w.heap.size < wo.heap.size := by omega
      clear hx3 ho3 hx4 cq HX HRN HMK1 hh0 hh1
      go_wp2_with fail
      rw [← hw4]
      clear hw4
      generalize w3.heap.size = p3 at *
      refine HC4.out.mono ?_
      rintro e w5 ⟨a5, c5, A5, C5, rfl, hx5, hm5⟩
      have HC := Lib.hid (l04Equal_any a5 a c5 c A5 A C5 C R m w5 (by have := HRL1.out; unfold maxLen; omega) (by unfold maxLen; omega) HRO.out (fun r => by have := HMB.out.2 r; unfold maxLen; omega) (hm5.mat (by decide)).mat (HM.out.ext (HX4.out.trans hx5)))
      have HX5 := Lib.hid (HX4.out.trans hx5)
      have HY5 := Lib.hid hx5
      clear hm5 hx5 HC4
      cases hd : decide (R = m)
      · rw [hd] at HOK HC
        have HE : Hid (porRows W H m = [] ∧ porOk W H m = false) := ⟨HNO.out HOK.out, HOK.out⟩
        clear HOK HYES HNO hd
        go_wp2_with fail
        refine HC.out.mono ?_
        rintro e w6 ⟨rfl, hx6⟩
        obtain ⟨r1, r2, r3, HR⟩ := One.noPic (HX0.out.trans (HX5.out.trans hx6)) (Nat.le_refl _) (HO.out.ext (HX5.out.trans hx6))
        clear hx6
        go_wp2
        exact bodyPost_ret (v := .tuple #[.agg #[.slice none 0 0], .bool false]) (by simp [results, Try.results67, go_sem, r3]) rfl (by rw [HE.out.1, HE.out.2]; exact PicRet2.no HR.out)
      · rw [hd] at HOK HC
        have HE : Hid (porRows W H m = P ∧ porOk W H m = true) := ⟨HYES.out HOK.out, HOK.out⟩
        clear HOK HYES HNO hd
        go_wp2_with fail
        refine HC.out.mono ?_
        rintro e w6 ⟨rfl, hx6⟩
        have cq := HCQ.out w6 (HY5.out.trans hx6)
        obtain ⟨r1, r2, r3, HR⟩ := Res.store (.slice a3 P.length c3) (HX0.out.trans (HX5.out.trans hx6)) (Nat.le_refl _) (HO.out.ext (HX5.out.trans hx6)) hl3 ((HO4.out.ext (HY5.out.trans hx6)).mono (Nat.le_refl _) (Nat.le_trans HL3.out (HY5.out.trans hx6).size))
        clear hx6
        go_wp2
        exact bodyPost_ret (v := .tuple #[.agg #[.slice a3 P.length c3], .bool true]) (by simp [results, Try.results67, go_sem, r3]) rfl (by rw [HE.out.1, HE.out.2]; exact ⟨a3, c3, rfl, HR.out.1, HR.out.2⟩)
end Go.Proofs.Ytpdmfnndegcjjaa
