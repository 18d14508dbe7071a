/- The program's reading of pictures. -/
import Derived.Test.YtpploijlijnahaaIImage
import Derived.Test.YtpploijlijnahaaSPic
namespace Go.Proofs.Ytpploijlijnahaa
open Go.RowKit
def picM (ss : List ByteArray) : List Bool := mkl (picW ss) ss.length fun x y => (ss.getD y ByteArray.empty).data.toList.getD x 0 == 35
theorem picM_eq {ss : List ByteArray} (h : Even ss) : picM ss = picL ss := by
  have hl := picL_len h
  apply List.ext_getElem?
  intro k
  have hml : (picM ss).length = ss.length * picW ss := mkl_len _ _ _
  by_cases hk : k < ss.length * picW ss
  · have hW : 0 < picW ss := by
      rcases Nat.eq_zero_or_pos (picW ss) with e | e
      · rw [e] at hk; simp at hk
      · exact e
    have hy : k / picW ss < ss.length := Nat.div_lt_of_lt_mul (by rw [Nat.mul_comm]; exact hk)
    have hx : k % picW ss < picW ss := Nat.mod_lt _ hW
    have e : k / picW ss * picW ss + k % picW ss = k := by rw [Nat.mul_comm]; exact Nat.div_add_mod k _
    have h1 := picL_at h (k % picW ss) (k / picW ss) hx hy
    have h2 := mkl_at (picW ss) ss.length (fun x y => (ss.getD y ByteArray.empty).data.toList.getD x 0 == 35) (k % picW ss) (k / picW ss) hx hy
    rw [e] at h1 h2
    have h3 : (picM ss).getD k false = (picL ss).getD k false := by rw [h1]; exact h2
    rw [List.getD_eq_getElem?_getD, List.getD_eq_getElem?_getD, List.getElem?_eq_getElem (by omega), List.getElem?_eq_getElem (by omega)] at h3
    rw [List.getElem?_eq_getElem (by omega), List.getElem?_eq_getElem (by omega)]
    exact congrArg some h3
  · rw [List.getElem?_eq_none (by omega), List.getElem?_eq_none (by omega)]
/-- A picture is read, if it is valid. -/
def ImgOf (w : World) (ss : List ByteArray) (ok : Bool) (e : Ending) (w' : World) : Prop :=
  if ok then ∃ b ab, e = .returned (.tuple #[.pointer (some ⟨b, 0, none⟩), .bool true]) ∧ w.Ext w' ∧ Img w' b ab (picW ss) ss.length (picL ss) ∧ w.heap.size ≤ b ∧ w.heap.size ≤ ab
  else e = .returned (.tuple #[.pointer none, .bool false]) ∧ w.Ext w'
theorem picOk_nil : picOk [] = false := by simp [picOk, inB]
theorem picOk_size {ss : List ByteArray} (h : sizeB (picW ss) ss.length = false) : picOk ss = false := by
  unfold picOk
  unfold sizeB at h
  rw [Bool.and_comm (inB _ _ _), h]
  rfl
set_option maxRecDepth 5000 in
set_option maxHeartbeats 1600000 in
theorem imageOf_any (a : Option Addr) (c : Nat) (ss : List ByteArray) (w : World) (hn : ss.length ≤ 1048576) (hs : ∀ y, (ss.getD y ByteArray.empty).size ≤ 1048576) (hm : RowS w a ss) (ok : Bool) (hok : picOk ss = ok) :
    Calls Try.prog 105 #[.agg #[.slice a ss.length c]] w (ImgOf w ss ok) := by
  have HM := Lib.hid hm
  have HSZ := Lib.hid hs
  have HOK := Lib.hid hok
  have hn2 : ss.length ≤ 4611686018427387904 := by omega
  by_cases hpos : 0 < ss.length
  · have hpos' : (0 : Int) < (ss.length : Int) := by omega
    have hne : ((ss.length : Int) == 0) = false := by rw [beq_eq_false_iff_ne]; omega
    obtain ⟨b0, o0, rfl, hc0⟩ := hm 0 hpos
    rw [Nat.add_zero] at hc0
    have hblt : b0 < w.heap.size := World.block_lt_of_cell? w _ hc0
    have hW0 := hs 0
    obtain ⟨s0, hs0⟩ : ∃ s0, s0 = ss.getD 0 ByteArray.empty := ⟨_, rfl⟩
    rw [← hs0] at hc0 hW0
    have hW : picW ss = s0.size := by unfold picW; rw [hs0]
    have hWm : s0.size ≤ 4611686018427387904 := by omega
    have HW := Lib.hid hW
    have HPOS := Lib.hid hpos
    clear hm hs hok hpos hs0 hW hn hW0
    cases hsz : sizeB s0.size ss.length
    · have hf : ok = false := by rw [← HOK.out]; exact picOk_size (by rw [HW.out]; exact hsz)
      subst hf
      have HS := Lib.hid hsz
      clear hsz
      go_enter Try.func105, Try.ntmps105
      go_wp2_with fail
      refine wp_region_over_lit (by kernel_rfl) (by kernel_rfl) ?_; (repeat (go_big_quiet_step ((go_at_call 131; exact Calls.over_of (sizeOk_any _ _ _ _ HS.out))))); refine wpQuiet_nil ?_; rintro _ ⟨x1, rfl⟩
      go_wp2
      go_ret2
      refine ⟨rfl, ?_⟩
      repeat (first | exact World.Ext.refl _ | exact ⟨_, rfl⟩ | assumption | refine World.Ext.over ?_ _ | refine World.Ext.drewN ?_ _ | refine World.Ext.drew ?_ | refine World.Ext.alloc ?_ _ | refine World.Ext.setCell ?_ (by simp) _)
    · have HS := Lib.hid hsz
      clear hsz
      go_enter Try.func105, Try.ntmps105
      go_wp2_with fail
      refine wp_region_over_lit (by kernel_rfl) (by kernel_rfl) ?_; (repeat (go_big_quiet_step ((go_at_call 131; exact Calls.over_of (sizeOk_any _ _ _ _ HS.out))))); refine wpQuiet_nil ?_; rintro _ ⟨x1, rfl⟩
      go_wp2_with fail
      refine wp_region_over_tail 8 (by kernel_rfl) (by kernel_rfl) ?_; simp only [List.take_succ_cons, List.take_zero, List.drop_succ_cons, List.drop_zero]; (repeat (go_big_quiet_step (fail))); refine wpQuiet_nil ?_; rintro _ ⟨x1, rfl⟩
      have hWH : s0.size ≤ 16 ∧ ss.length ≤ 16 := by
        have := HS.out
        unfold sizeB at this
        rw [Bool.and_eq_true, inB_true, inB_true] at this
        omega
      have hl64 : s0.size ≤ 64 := by omega
      have hh64 : ss.length ≤ 64 := by omega
      go_wp2_with fail
      refine (blank_any s0.size ss.length _ hl64 hh64).mono ?_
      rintro e w1 ⟨b, ab, rfl, hx1, hi1, hlb, hlab⟩
      have c1 := hx1.cell (a := ⟨w.heap.size, 0, none⟩) (v := .slice (some ⟨b0, o0, none⟩) ss.length c) (by simp [go_sem])
      have hlb2 : w.heap.size ≤ b := by simp at hlb; omega
      have hlab2 : w.heap.size ≤ ab := by simp at hlab; omega
      have X1 : Hid (w.Ext w1) := World.Ext.trans (by repeat (first | exact World.Ext.refl _ | exact ⟨_, rfl⟩ | assumption | refine World.Ext.over ?_ _ | refine World.Ext.drewN ?_ _ | refine World.Ext.drew ?_ | refine World.Ext.alloc ?_ _ | refine World.Ext.setCell ?_ (by simp) _)) hx1
      have HLEN : Hid ((picM ss).length = ss.length * s0.size) := by rw [← HW.out]; exact mkl_len _ _ _
      have HAT : Hid (∀ x y, x < s0.size → y < ss.length → (picM ss).getD (y * s0.size + x) false = ((ss.getD y ByteArray.empty).data.toList.getD x 0 == 35)) := fun x y hx hy => by
        have := mkl_at (picW ss) ss.length (fun x y => (ss.getD y ByteArray.empty).data.toList.getD x 0 == 35) x y (by rw [HW.out]; exact hx) hy
        rw [← HW.out]
        exact this
      have HI : Hid (Wrote (fun j => j = ab) w1 w1 ∧ Img w1 b ab s0.size ss.length (copied false (picM ss) (0 * s0.size))) := ⟨.refl _ _, by rw [Nat.zero_mul, copied_zero, HLEN.out, Nat.mul_comm]; exact hi1⟩
      have HBAD : Hid (∀ y, y < ss.length → rowGood s0.size (ss.getD y ByteArray.empty) = false → ok = false) := fun y hy hr => by
        rw [← HOK.out]
        unfold picOk
        rw [HW.out, all_false hy hr]
        simp
      have HGOOD : Hid ((∀ y, y < ss.length → rowGood s0.size (ss.getD y ByteArray.empty) = true) → ok = true ∧ picM ss = picL ss) := fun h => by
        have h1 : picOk ss = true := by
          unfold picOk
          have := HS.out
          unfold sizeB at this
          rw [HW.out, all_getD.2 h, Bool.and_true, Bool.and_comm]
          exact this
        exact ⟨by rw [← HOK.out, h1], picM_eq (picOk_spec h1).2.2.2.2.1⟩
      clear hx1 hi1 hlb hlab hc0
      generalize picM ss = L at HLEN HAT HI HGOOD
      go_wp2
      clear c1
      go_loopw [5, 6, 7, 36] (fun _ _ _ i wr => ∃ y : Nat, y ≤ ss.length ∧ i = .int .i64 y ∧ Hid (∀ r, r < y → rowGood s0.size (ss.getD r ByteArray.empty) = true) ∧ Hid (Wrote (fun j => j = ab) w1 wr ∧ Img wr b ab s0.size ss.length (copied false L (y * s0.size)))) (fun _ _ _ i _ => ss.length - (intOf i).toNat)
      case atStart => exact ⟨0, Nat.zero_le _, rfl, fun r hr => by omega, HI⟩
      case round =>
        obtain ⟨y, hy, rfl, HG, HY⟩ := hrel
        obtain ⟨wo, rfl⟩ : ∃ wo : World, wo = wr := ⟨_, rfl⟩
        by_cases hlty : y < ss.length
        · obtain ⟨b0', o0', hbo, hc0⟩ := (HM.out.ext X1.out) y hlty
          simp only [Option.some.injEq, Addr.mk.injEq, and_true] at hbo
          obtain ⟨rfl, rfl⟩ := hbo
          have hc := HY.out.1.cell hc0 (by dsimp only; omega)
          have hw := HY.out.2.c0
          have hlty' : (y : Int) < (ss.length : Int) := by omega
          have hy0 : (0 : Int) ≤ (y : Int) := by omega
          have HAY : Hid (∀ x, x < s0.size → L.getD (y * s0.size + x) false = ((ss.getD y ByteArray.empty).data.toList.getD x 0 == 35)) := fun x hx => HAT.out x y hx hlty
          have HB := Lib.hid (HBAD.out y hlty)
          have HN : Hid (rowGood s0.size (ss.getD y ByteArray.empty) = true → ∀ r, r < y + 1 → rowGood s0.size (ss.getD r ByteArray.empty) = true) := fun h r hr => by
            by_cases e : r = y
            · rw [e]; exact h
            · exact HG.out r (by omega)
          have hsy := HSZ.out y
          have HXW : Hid (w.Ext wo) := X1.out.wroteNew HY.out.1 (fun k hk => by omega)
          have HKL : Hid (∀ x, x < s0.size → y * s0.size + x < L.length) := fun x hx => by
            rw [HLEN.out]
            have := Nat.mul_le_mul_right s0.size hlty
            rw [Nat.succ_mul] at this
            omega
          clear hc0
          generalize ss.getD y ByteArray.empty = s at hc HAY HB HN hsy
          have hsm : s.size ≤ 4611686018427387904 := by omega
          by_cases hsW : s.size = s0.size
          · have hne : ((s.size : Int) != (s0.size : Int)) = false := by simp; omega
            go_wp2
            clear hc hw
            go_loopw [7, 50] (fun _ i w2 => ∃ x : Nat, x ≤ s.size ∧ i = .int .i64 x ∧ Hid (∀ j, j < x → pixOk (s.data.toList.getD j 0) = true) ∧ Hid (Wrote (fun j => j = ab) w1 w2 ∧ Img w2 b ab s0.size ss.length (copied false L (y * s0.size + x)))) (fun _ i _ => s.size - (intOf i).toNat)
            case atStart => exact ⟨0, Nat.zero_le _, rfl, fun j hj => by omega, HY⟩
            case round =>
              obtain ⟨x, hx, rfl, HP, HX⟩ := hrel
              by_cases hltx : x < s.size
              · have hltx' : (x : Int) < (s.size : Int) := by omega
                have hx0 : (0 : Int) ≤ (x : Int) := by omega
                have hxW : (x : Int) < (s0.size : Int) := by omega
                have hb35 := byte_eq s x hltx 35
                have hb46 := byte_eq s x hltx 46
                have HV := Lib.hid (HAY.out x (by omega))
                cases h35 : (s.data.toList.getD x 0 == 35)
                · cases h46 : (s.data.toList.getD x 0 == 46)
                  · have h2 : (((s[x]'hltx).toNat : Int) != 35) = true := by unfold bne; rw [show (((s[x]'hltx).toNat : Int) == 35) = false from by rw [← h35]; exact hb35]; rfl
                    have h4 : (((s[x]'hltx).toNat : Int) != 46) = true := by unfold bne; rw [show (((s[x]'hltx).toNat : Int) == 46) = false from by rw [← h46]; exact hb46]; rfl
                    have hbad : rowGood s0.size s = false := by
                      unfold rowGood
                      have h5 : s.data.toList.all pixOk = false := all_false (d := (0 : UInt8)) (show x < s.data.toList.length by simpa using hltx) (by unfold pixOk; rw [h35, h46]; rfl)
                      rw [h5, Bool.and_false]
                    have hf := HB.out hbad
                    subst hf
                    clear hb35 hb46 h35 h46 HV hbad
                    go_wp2
                    go_ret2
                    exact ⟨rfl, X1.out.wroteNew HX.out.1 (fun k hk => by omega)⟩
                  · have h2 : (((s[x]'hltx).toNat : Int) == 35) = false := by rw [← h35]; exact hb35
                    have h1 : (((s[x]'hltx).toNat : Int) != 35) = true := by unfold bne; rw [h2]; rfl
                    have h4 : (((s[x]'hltx).toNat : Int) != 46) = false := by unfold bne; rw [show (((s[x]'hltx).toNat : Int) == 46) = true from by rw [← h46]; exact hb46]; rfl
                    have HS2 : Hid ((copied false L (y * s0.size + x)).set ((y : Int) * (s0.size : Int) + (x : Int)).toNat false = copied false L (y * s0.size + x + 1)) := by
                      have e : ((y : Int) * (s0.size : Int) + (x : Int)).toNat = y * s0.size + x := by rw [← Int.natCast_mul]; omega
                      have h3 := copied_set false L _ (HKL.out x (by omega))
                      rw [HV.out, h35] at h3
                      show _ = _
                      rw [e]
                      exact h3
                    have HP1 : Hid (∀ j, j < x + 1 → pixOk (s.data.toList.getD j 0) = true) := fun j hj => by
                      by_cases e : j = x
                      · rw [e]; unfold pixOk; rw [h46, Bool.or_true]
                      · exact HP.out j (by omega)
                    clear hb35 hb46 h35 HV h46
                    go_wp2_with fail
                    refine (set_any b ab s0.size ss.length _ x y false _ hl64 hh64 HX.out.2 hx0 hxW hy0 hlty').mono ?_
                    rintro e w3 ⟨rfl, hw3, hi3⟩
                    rw [HS2.out] at hi3
                    have H3 := Lib.hid (And.intro (HX.out.1.trans hw3) hi3)
                    clear hw3 hi3
                    go_wp2
                    go_roundw
                    case rel => exact ⟨x + 1, by omega, by go_num, HP1.out, H3.out⟩
                    case measure => simp [intOf]; omega
                · have h2 : (((s[x]'hltx).toNat : Int) == 35) = true := by rw [← h35]; exact hb35
                  have h1 : (((s[x]'hltx).toNat : Int) != 35) = false := by unfold bne; rw [h2]; rfl
                  
                  have HS2 : Hid ((copied false L (y * s0.size + x)).set ((y : Int) * (s0.size : Int) + (x : Int)).toNat true = copied false L (y * s0.size + x + 1)) := by
                    have e : ((y : Int) * (s0.size : Int) + (x : Int)).toNat = y * s0.size + x := by rw [← Int.natCast_mul]; omega
                    have h3 := copied_set false L _ (HKL.out x (by omega))
                    rw [HV.out, h35] at h3
                    show _ = _
                    rw [e]
                    exact h3
                  have HP1 : Hid (∀ j, j < x + 1 → pixOk (s.data.toList.getD j 0) = true) := fun j hj => by
                    by_cases e : j = x
                    · rw [e]; unfold pixOk; rw [h35, Bool.true_or]
                    · exact HP.out j (by omega)
                  clear hb35 hb46 h35 HV 
                  go_wp2_with fail
                  refine (set_any b ab s0.size ss.length _ x y true _ hl64 hh64 HX.out.2 hx0 hxW hy0 hlty').mono ?_
                  rintro e w3 ⟨rfl, hw3, hi3⟩
                  rw [HS2.out] at hi3
                  have H3 := Lib.hid (And.intro (HX.out.1.trans hw3) hi3)
                  clear hw3 hi3
                  go_wp2
                  go_roundw
                  case rel => exact ⟨x + 1, by omega, by go_num, HP1.out, H3.out⟩
                  case measure => simp [intOf]; omega
              · have : x = s.size := by omega
                subst this
                have hgood : rowGood s0.size s = true := by
                  unfold rowGood
                  rw [decide_eq_true hsW, Bool.true_and, all_getD (d := (0 : UInt8))]
                  exact fun j hj => HP.out j (by simpa using hj)
                have HGN := Lib.hid (HN.out hgood)
                have H4 : Hid (Wrote (fun j => j = ab) w1 wr ∧ Img wr b ab s0.size ss.length (copied false L ((y + 1) * s0.size))) := by
                  have := HX.out
                  rw [hsW] at this
                  rw [Nat.succ_mul]
                  exact this
                clear hgood
                go_wp2
                go_roundw
                case rel => exact ⟨y + 1, by omega, by go_num, HGN.out, H4.out⟩
                case measure => simp [intOf]; omega
          · have hbad : rowGood s0.size s = false := by unfold rowGood; rw [decide_eq_false hsW]; rfl
            have hf := HB.out hbad
            subst hf
            have hne : ((s.size : Int) != (s0.size : Int)) = true := by simp; omega
            clear hbad
            go_wp2
            go_ret2
            exact ⟨rfl, HXW.out⟩
        · have : y = ss.length := by omega
          subst this
          obtain ⟨hf, hL⟩ := HGOOD.out HG.out
          subst hf
          have HF : Hid (w.Ext wo ∧ Img wo b ab (picW ss) ss.length (picL ss)) := by
            refine ⟨X1.out.wroteNew HY.out.1 (fun k hk => by omega), ?_⟩
            have := HY.out.2
            rw [← HLEN.out, copied_all] at this
            rw [HW.out, ← hL]
            exact this
          clear hL HY
          go_wp2
          go_ret2
          exact ⟨b, ab, rfl, HF.out.1, HF.out.2, hlb2, hlab2⟩
  · have hm0 : ss = [] := by
      cases ss with
      | nil => rfl
      | cons x y => simp at hpos
    subst hm0
    have hf : ok = false := by rw [← HOK.out]; exact picOk_nil
    subst hf
    clear hm hs hok
    go_enter Try.func105, Try.ntmps105
    go_wp2_with fail
    refine wp_region_over_lit (by kernel_rfl) (by kernel_rfl) ?_; (repeat (go_big_quiet_step (fail))); refine wpQuiet_nil ?_; rintro _ ⟨x1, rfl⟩
    go_wp2
    go_ret2
    refine ⟨rfl, ?_⟩
    repeat (first | exact World.Ext.refl _ | exact ⟨_, rfl⟩ | assumption | refine World.Ext.over ?_ _ | refine World.Ext.drewN ?_ _ | refine World.Ext.drew ?_ | refine World.Ext.alloc ?_ _ | refine World.Ext.setCell ?_ (by simp) _)
end Go.Proofs.Ytpploijlijnahaa
