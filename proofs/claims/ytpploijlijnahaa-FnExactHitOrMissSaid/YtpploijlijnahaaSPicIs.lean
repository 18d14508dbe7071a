/- The reference's test of pictures. -/
import Derived.Test.YtpploijlijnahaaSPic
namespace Go.Proofs.Ytpploijlijnahaa
open Go.RowKit
set_option maxRecDepth 5000 in
set_option maxHeartbeats 1600000 in
theorem l01Is_any (p : Nat) (a : Option Addr) (c : Nat) (ss : List ByteArray) (w : World) (hn : ss.length ≤ 1048576) (hs : ∀ y, (ss.getD y ByteArray.empty).size ≤ 1048576) (hp : w.cell? ⟨p, 0, none⟩ = some (.slice a ss.length c)) (hm : RowS w a ss) (ok : Bool) (hok : picOk ss = ok) :
    Calls Try.prog 84 #[.pointer (some ⟨p, 0, none⟩)] w fun e w' => e = .returned (.bool ok) ∧ w.Ext w' := by
  have HM := Lib.hid hm
  have HSZ := Lib.hid hs
  have HOK := Lib.hid hok
  have hn2 : ss.length ≤ 4611686018427387904 := by omega
  clear hm hs hok hn
  cases h1 : inB ss.length 1 16
  · have hf : ok = false := by rw [← HOK.out]; unfold picOk; rw [h1]; rfl
    subst hf
    have H1 := Lib.hid h1
    clear h1
    go_enter Try.func84, Try.ntmps84
    go_wp2_with (go_at_call 126; refine (l01Side_any _ _ _ H1.out).mono ?_; rintro e w' ⟨rfl, x1, rfl⟩)
    go_ret
    refine ⟨rfl, ?_⟩
    repeat (first | exact World.Ext.refl _ | exact ⟨_, rfl⟩ | assumption | refine World.Ext.over ?_ _ | refine World.Ext.drewN ?_ _ | refine World.Ext.drew ?_ | refine World.Ext.alloc ?_ _ | refine World.Ext.setCell ?_ (by simp) _)
  · have hpos : 0 < ss.length := by rw [inB_true] at h1; omega
    have hpos' : (0 : Int) < (ss.length : Int) := by omega
    obtain ⟨b0, o0, rfl, hc0⟩ := HM.out 0 hpos
    rw [Nat.add_zero] at hc0
    have hl0 := HSZ.out 0
    obtain ⟨s0, hs0⟩ : ∃ s0, s0 = ss.getD 0 ByteArray.empty := ⟨_, rfl⟩
    rw [← hs0] at hc0 hl0
    have hWm : s0.size ≤ 4611686018427387904 := by omega
    have HW : Hid (picW ss = s0.size) := by show _ = _; unfold picW; rw [hs0]
    have H1 := Lib.hid h1
    clear hs0 hl0 h1
    cases h2 : inB s0.size 1 16
    · have hf : ok = false := by rw [← HOK.out]; unfold picOk; rw [HW.out, h2]; simp
      subst hf
      have H2 := Lib.hid h2
      clear h2
      go_enter Try.func84, Try.ntmps84
      go_wp2_with fail
      refine (l01Side_any _ _ _ H1.out).mono ?_
      rintro e w' ⟨rfl, x1, rfl⟩
      go_wp2_with fail
      refine (l01Side_any _ _ _ H2.out).mono ?_
      rintro e w' ⟨rfl, x2, rfl⟩
      go_wp2
      go_ret
      refine ⟨rfl, ?_⟩
      repeat (first | exact World.Ext.refl _ | exact ⟨_, rfl⟩ | assumption | refine World.Ext.over ?_ _ | refine World.Ext.drewN ?_ _ | refine World.Ext.drew ?_ | refine World.Ext.alloc ?_ _ | refine World.Ext.setCell ?_ (by simp) _)
    · have H2 := Lib.hid h2
      clear h2
      have HBAD : Hid (∀ y, y < ss.length → rowGood s0.size (ss.getD y ByteArray.empty) = false → ok = false) := fun y hy hr => by
        rw [← HOK.out]
        unfold picOk
        rw [HW.out, all_false hy hr]
        simp
      have HGOOD : Hid ((∀ y, y < ss.length → rowGood s0.size (ss.getD y ByteArray.empty) = true) → ok = true) := fun h => by
        rw [← HOK.out]
        unfold picOk
        rw [HW.out, all_getD.2 h, H1.out, H2.out]
        rfl
      go_enter Try.func84, Try.ntmps84
      go_wp2_with fail
      refine (l01Side_any _ _ _ H1.out).mono ?_
      rintro e w' ⟨rfl, x1, rfl⟩
      go_wp2_with fail
      refine (l01Side_any _ _ _ H2.out).mono ?_
      rintro e w' ⟨rfl, x2, rfl⟩
      go_wp2
      have hx0 : w.Ext ((w.over x1).over x2) := by repeat (first | exact World.Ext.refl _ | exact ⟨_, rfl⟩ | assumption | refine World.Ext.over ?_ _ | refine World.Ext.drewN ?_ _ | refine World.Ext.drew ?_ | refine World.Ext.alloc ?_ _ | refine World.Ext.setCell ?_ (by simp) _)
      generalize (w.over x1).over x2 = w2 at hx0 ⊢
      go_loopw [3, 4] (fun i _ wr => ∃ y : Nat, y ≤ ss.length ∧ i = .int .i64 y ∧ Hid (∀ r, r < y → rowGood s0.size (ss.getD r ByteArray.empty) = true) ∧ Hid (w.Ext wr)) (fun i _ _ => ss.length - (intOf i).toNat)
      case atStart => exact ⟨0, Nat.zero_le _, rfl, fun r hr => by omega, hx0⟩
      case round =>
        obtain ⟨y, hy, rfl, HG, HX⟩ := hrel
        obtain ⟨wo, rfl⟩ : ∃ wo : World, wo = wr := ⟨_, rfl⟩
        have hpr := HX.out.cell hp
        by_cases hlty : y < ss.length
        · obtain ⟨b0', o0', hbo, hc⟩ := (RowOf.ext HM.out HX.out) y hlty
          simp only [Option.some.injEq, Addr.mk.injEq, and_true] at hbo
          obtain ⟨rfl, rfl⟩ := hbo
          have hc0r := HX.out.cell hc0
          have hlty' : (y : Int) < (ss.length : Int) := by omega
          have hy0 : (0 : Int) ≤ (y : Int) := by omega
          have HB := Lib.hid (HBAD.out y hlty)
          have HN : Hid (rowGood s0.size (ss.getD y ByteArray.empty) = true → ∀ r, r < y + 1 → rowGood s0.size (ss.getD r ByteArray.empty) = true) := fun h r hr => by
            by_cases e : r = y
            · rw [e]; exact h
            · exact HG.out r (by omega)
          have hsy := HSZ.out y
          generalize ss.getD y ByteArray.empty = s at hc HB HN hsy
          have hsm : s.size ≤ 4611686018427387904 := by omega
          clear hsy
          by_cases hsW : s.size = s0.size
          · have hne : ((s.size : Int) != (s0.size : Int)) = false := by simp; omega
            go_wp2_with fail
            refine wp_region_over_lit (by kernel_rfl) (by kernel_rfl) ?_; (repeat (go_big_quiet_step (fail))); refine wpQuiet_nil ?_; rintro _ ⟨x1, rfl⟩
            obtain ⟨x3, hx3⟩ : ∃ x3, x3 = x1 := ⟨_, rfl⟩
            rw [← hx3]
            clear hx3
            have hc3 := World.Ext.cell (w' := wo.over x3) ⟨x3, rfl⟩ hc
            have hp3 := World.Ext.cell (w' := wo.over x3) ⟨x3, rfl⟩ hpr
            have HX3 : Hid (w.Ext (wo.over x3)) := HX.out.over x3
            clear hc hpr hc0r
            generalize wo.over x3 = w3 at hc3 hp3 HX3 ⊢
            go_wp2
            go_loopw [4] (fun i w4 => ∃ x : Nat, x ≤ s.size ∧ i = .int .i64 x ∧ Hid (∀ j, j < x → pixOk (s.data.toList.getD j 0) = true) ∧ Hid (w3.Ext w4)) (fun i _ => s.size - (intOf i).toNat)
            case atStart => exact ⟨0, Nat.zero_le _, rfl, fun j hj => by omega, .refl _⟩
            case round =>
              obtain ⟨x, hx, rfl, HP, HX4⟩ := hrel
              have hc4 := HX4.out.cell hc3
              have hp4 := HX4.out.cell hp3
              by_cases hltx : x < s.size
              · have hltx' : (x : Int) < (s.size : Int) := by omega
                have hx0 : (0 : Int) ≤ (x : Int) := by omega
                have hb35 := byte_eq s x hltx 35
                have hb46 := byte_eq s x hltx 46
                have HP1 : Hid (pixOk (s.data.toList.getD x 0) = true → ∀ j, j < x + 1 → pixOk (s.data.toList.getD j 0) = true) := fun h j hj => by
                  by_cases e : j = x
                  · rw [e]; exact h
                  · exact HP.out j (by omega)
                have HBB : Hid (pixOk (s.data.toList.getD x 0) = false → ok = false) := fun h => HB.out (by
                  unfold rowGood
                  have h5 : s.data.toList.all pixOk = false := all_false (d := (0 : UInt8)) (show x < s.data.toList.length by simpa using hltx) h
                  rw [h5, Bool.and_false])
                unfold pixOk at HP1 HBB
                cases h35 : (s.data.toList.getD x 0 == 35)
                · have h2 : (((s[x]'hltx).toNat : Int) != 35) = true := by unfold bne; rw [show (((s[x]'hltx).toNat : Int) == 35) = false from by rw [← h35]; exact hb35]; rfl
                  cases h46 : (s.data.toList.getD x 0 == 46)
                  · have h4 : (((s[x]'hltx).toNat : Int) != 46) = true := by unfold bne; rw [show (((s[x]'hltx).toNat : Int) == 46) = false from by rw [← h46]; exact hb46]; rfl
                    have hf := HBB.out (by rw [h35, h46]; rfl)
                    subst hf
                    clear hb35 hb46 h35 h46 HP1 HBB
                    go_wp2
                    go_ret
                    exact ⟨rfl, HX3.out.trans HX4.out⟩
                  · have h4 : (((s[x]'hltx).toNat : Int) != 46) = false := by unfold bne; rw [show (((s[x]'hltx).toNat : Int) == 46) = true from by rw [← h46]; exact hb46]; rfl
                    have HP2 := Lib.hid (HP1.out (by rw [h35, h46]; rfl))
                    clear hb35 hb46 h35 h46 HP1 HBB
                    go_wp2
                    go_roundw
                    case rel => exact ⟨x + 1, by omega, by go_num, HP2.out, HX4⟩
                    case measure => simp [intOf]; omega
                · have h2 : (((s[x]'hltx).toNat : Int) != 35) = false := by unfold bne; rw [show (((s[x]'hltx).toNat : Int) == 35) = true from by rw [← h35]; exact hb35]; rfl
                  have HP2 := Lib.hid (HP1.out (by rw [h35]; rfl))
                  clear hb35 hb46 h35 HP1 HBB
                  go_wp2
                  go_roundw
                  case rel => exact ⟨x + 1, by omega, by go_num, HP2.out, HX4⟩
                  case measure => simp [intOf]; omega
              · have : x = s.size := by omega
                subst this
                have hgood : rowGood s0.size s = true := by
                  unfold rowGood
                  rw [decide_eq_true hsW, Bool.true_and, all_getD (d := (0 : UInt8))]
                  exact fun j hj => HP.out j (by simpa using hj)
                have HGN := Lib.hid (HN.out hgood)
                have HX5 := Lib.hid (HX3.out.trans HX4.out)
                clear hgood
                go_wp2
                go_roundw
                case rel => exact ⟨y + 1, by omega, by go_num, HGN.out, HX5.out⟩
                case measure => simp [intOf]; omega
          · have hf := HB.out (by unfold rowGood; rw [decide_eq_false hsW]; rfl)
            subst hf
            have hne : ((s.size : Int) != (s0.size : Int)) = true := by simp; omega
            go_wp2_with fail
            refine wp_region_over_lit (by kernel_rfl) (by kernel_rfl) ?_; (repeat (go_big_quiet_step (fail))); refine wpQuiet_nil ?_; rintro _ ⟨x1, rfl⟩
            go_wp2
            go_ret
            exact ⟨rfl, HX.out.over _⟩
        · have : y = ss.length := by omega
          subst this
          have hf := HGOOD.out HG.out
          subst hf
          go_wp2
          go_ret
          exact ⟨rfl, HX.out⟩
end Go.Proofs.Ytpploijlijnahaa
