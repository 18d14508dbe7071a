/- The reference's ways with a picture that lies in a list. -/
import Derived.Test.YtahhnjoeaodcjaaRecF
import Derived.Test.YtahhnjoeaodcjaaListS
namespace Go.Proofs.Ytahhnjoeaodcjaa
open Go.RowKit
set_option maxHeartbeats 400000 in
theorem l01Width_at (p po : Nat) (a : Option Addr) (c : Nat) (ss : List ByteArray) (w : World) (hpos : 0 < ss.length) (hn : ss.length ≤ 1048576) (hw : picW ss ≤ 1048576) (hp : w.cell? ⟨p, po, none⟩ = some (.slice a ss.length c)) (hm : RowS w a ss) :
    Calls Try.prog 99 #[.pointer (some ⟨p, po, none⟩)] w fun e w' => e = .returned (.int .i64 (picW ss)) ∧ w.Ext w' := by
  obtain ⟨b0, o0, rfl, hc0⟩ := hm 0 hpos
  rw [Nat.add_zero] at hc0
  have hpos' : (0 : Int) < (ss.length : Int) := by omega
  have hn2 : ss.length ≤ 4611686018427387904 := by omega
  unfold picW at *
  clear hm
  generalize ss.getD 0 ByteArray.empty = s at *
  have hs2 : s.size ≤ 4611686018427387904 := by omega
  clear hn hw
  go_enter Try.func99, Try.ntmps99
  go_wp2
  go_ret
  refine ⟨rfl, ?_⟩
  repeat (first | exact World.Ext.refl _ | exact ⟨_, rfl⟩ | assumption | refine World.Ext.over ?_ _ | refine World.Ext.drewN ?_ _ | refine World.Ext.drew ?_ | refine World.Ext.alloc ?_ _ | refine World.Ext.setCell ?_ (by simp) _)
set_option maxHeartbeats 400000 in
theorem l01Height_at (p po : Nat) (a : Option Addr) (c n : Nat) (w : World) (hn : n ≤ 1048576) (hp : w.cell? ⟨p, po, none⟩ = some (.slice a n c)) :
    Calls Try.prog 100 #[.pointer (some ⟨p, po, none⟩)] w fun e w' => e = .returned (.int .i64 n) ∧ w.Ext w' := by
  have hn2 : n ≤ 4611686018427387904 := by omega
  clear hn
  go_enter Try.func100, Try.ntmps100
  go_wp2
  go_ret
  refine ⟨rfl, ?_⟩
  repeat (first | exact World.Ext.refl _ | exact ⟨_, rfl⟩ | assumption | refine World.Ext.over ?_ _ | refine World.Ext.drewN ?_ _ | refine World.Ext.drew ?_ | refine World.Ext.alloc ?_ _ | refine World.Ext.setCell ?_ (by simp) _)
set_option maxRecDepth 5000 in
set_option maxHeartbeats 1600000 in
theorem l01Is_at (p po : Nat) (a : Option Addr) (c : Nat) (ss : List ByteArray) (w : World) (hn : ss.length ≤ 1048576) (hs : ∀ y, (ss.getD y ByteArray.empty).size ≤ 1048576) (hp : w.cell? ⟨p, po, none⟩ = some (.slice a ss.length c)) (hm : RowS w a ss) (ok : Bool) (hok : picOk ss = ok) :
    Calls Try.prog 129 #[.pointer (some ⟨p, po, none⟩)] w fun e w' => e = .returned (.bool ok) ∧ w.Ext w' := by
  have HM := Lib.hid hm
  have HSZ := Lib.hid hs
  have HOK := Lib.hid hok
  have hn2 : ss.length ≤ 4611686018427387904 := by omega
  clear hm hs hok hn
  cases h1 : inB ss.length 1 16
  · have hf : ok = false := by rw [← HOK.out]; unfold picOk; rw [h1]; rfl
    subst hf
    have H1 := Lib.hid h1
    clear h1
    go_enter Try.func129, Try.ntmps129
    go_wp2_with (go_at_call 141; refine (l01Side_any _ _ _ H1.out).mono ?_; rintro e w' ⟨rfl, x1, rfl⟩)
    go_ret
    refine ⟨rfl, ?_⟩
    repeat (first | exact World.Ext.refl _ | exact ⟨_, rfl⟩ | assumption | refine World.Ext.over ?_ _ | refine World.Ext.drewN ?_ _ | refine World.Ext.drew ?_ | refine World.Ext.alloc ?_ _ | refine World.Ext.setCell ?_ (by simp) _)
  · have hpos : 0 < ss.length := by rw [inB_true] at h1; omega
    have hpos' : (0 : Int) < (ss.length : Int) := by omega
    obtain ⟨b0, o0, rfl, hc0⟩ := HM.out 0 hpos
    rw [Nat.add_zero] at hc0
    have hl0 := HSZ.out 0
    obtain ⟨s0, hs0⟩ : ∃ s0, s0 = ss.getD 0 ByteArray.empty := ⟨_, rfl⟩
    rw [← hs0] at hc0 hl0
    have hWm : s0.size ≤ 4611686018427387904 := by omega
    have HW : Hid (picW ss = s0.size) := by show _ = _; unfold picW; rw [hs0]
    have H1 := Lib.hid h1
    clear hs0 hl0 h1
    cases h2 : inB s0.size 1 16
    · have hf : ok = false := by rw [← HOK.out]; unfold picOk; rw [HW.out, h2]; simp
      subst hf
      have H2 := Lib.hid h2
      clear h2
      go_enter Try.func129, Try.ntmps129
      go_wp2_with fail
      refine (l01Side_any _ _ _ H1.out).mono ?_
      rintro e w' ⟨rfl, x1, rfl⟩
      go_wp2_with fail
      refine (l01Side_any _ _ _ H2.out).mono ?_
      rintro e w' ⟨rfl, x2, rfl⟩
      go_wp2
      go_ret
      refine ⟨rfl, ?_⟩
      repeat (first | exact World.Ext.refl _ | exact ⟨_, rfl⟩ | assumption | refine World.Ext.over ?_ _ | refine World.Ext.drewN ?_ _ | refine World.Ext.drew ?_ | refine World.Ext.alloc ?_ _ | refine World.Ext.setCell ?_ (by simp) _)
    · have H2 := Lib.hid h2
      clear h2
      have HBAD : Hid (∀ y, y < ss.length → rowGood s0.size (ss.getD y ByteArray.empty) = false → ok = false) := fun y hy hr => by
        rw [← HOK.out]
        unfold picOk
        rw [HW.out, all_false hy hr]
        simp
      have HGOOD : Hid ((∀ y, y < ss.length → rowGood s0.size (ss.getD y ByteArray.empty) = true) → ok = true) := fun h => by
        rw [← HOK.out]
        unfold picOk
        rw [HW.out, all_getD.2 h, H1.out, H2.out]
        rfl
      go_enter Try.func129, Try.ntmps129
      go_wp2_with fail
      refine (l01Side_any _ _ _ H1.out).mono ?_
      rintro e w' ⟨rfl, x1, rfl⟩
      go_wp2_with fail
      refine (l01Side_any _ _ _ H2.out).mono ?_
      rintro e w' ⟨rfl, x2, rfl⟩
      go_wp2
      have hx0 : w.Ext ((w.over x1).over x2) := by repeat (first | exact World.Ext.refl _ | exact ⟨_, rfl⟩ | assumption | refine World.Ext.over ?_ _ | refine World.Ext.drewN ?_ _ | refine World.Ext.drew ?_ | refine World.Ext.alloc ?_ _ | refine World.Ext.setCell ?_ (by simp) _)
      generalize (w.over x1).over x2 = w2 at hx0 ⊢
      go_loopw [3, 4] (fun i _ wr => ∃ y : Nat, y ≤ ss.length ∧ i = .int .i64 y ∧ Hid (∀ r, r < y → rowGood s0.size (ss.getD r ByteArray.empty) = true) ∧ Hid (w.Ext wr)) (fun i _ _ => ss.length - (intOf i).toNat)
      case atStart => exact ⟨0, Nat.zero_le _, rfl, fun r hr => by omega, hx0⟩
      case round =>
        obtain ⟨y, hy, rfl, HG, HX⟩ := hrel
        obtain ⟨wo, rfl⟩ : ∃ wo : World, wo = wr := ⟨_, rfl⟩
        have hpr := HX.out.cell hp
        by_cases hlty : y < ss.length
        · obtain ⟨b0', o0', hbo, hc⟩ := (RowOf.ext HM.out HX.out) y hlty
          simp only [Option.some.injEq, Addr.mk.injEq, and_true] at hbo
          obtain ⟨rfl, rfl⟩ := hbo
          have hc0r := HX.out.cell hc0
          have hlty' : (y : Int) < (ss.length : Int) := by omega
          have hy0 : (0 : Int) ≤ (y : Int) := by omega
          have HB := Lib.hid (HBAD.out y hlty)
          have HN : Hid (rowGood s0.size (ss.getD y ByteArray.empty) = true → ∀ r, r < y + 1 → rowGood s0.size (ss.getD r ByteArray.empty) = true) := fun h r hr => by
            by_cases e : r = y
            · rw [e]; exact h
            · exact HG.out r (by omega)
          have hsy := HSZ.out y
          generalize ss.getD y ByteArray.empty = s at hc HB HN hsy
          have hsm : s.size ≤ 4611686018427387904 := by omega
          clear hsy
          by_cases hsW : s.size = s0.size
          · have hne : ((s.size : Int) != (s0.size : Int)) = false := by simp; omega
            go_wp2_with fail
            refine wp_region_over_lit (by kernel_rfl) (by kernel_rfl) ?_; (repeat (go_big_quiet_step (fail))); refine wpQuiet_nil ?_; rintro _ ⟨x1, rfl⟩
            obtain ⟨x3, hx3⟩ : ∃ x3, x3 = x1 := ⟨_, rfl⟩
            rw [← hx3]
            clear hx3
            have hc3 := World.Ext.cell (w' := wo.over x3) ⟨x3, rfl⟩ hc
            have hp3 := World.Ext.cell (w' := wo.over x3) ⟨x3, rfl⟩ hpr
            have HX3 : Hid (w.Ext (wo.over x3)) := HX.out.over x3
            clear hc hpr hc0r
            generalize wo.over x3 = w3 at hc3 hp3 HX3 ⊢
            go_wp2
            go_loopw [4] (fun i w4 => ∃ x : Nat, x ≤ s.size ∧ i = .int .i64 x ∧ Hid (∀ j, j < x → pixOk (s.data.toList.getD j 0) = true) ∧ Hid (w3.Ext w4)) (fun i _ => s.size - (intOf i).toNat)
            case atStart => exact ⟨0, Nat.zero_le _, rfl, fun j hj => by omega, .refl _⟩
            case round =>
              obtain ⟨x, hx, rfl, HP, HX4⟩ := hrel
              have hc4 := HX4.out.cell hc3
              have hp4 := HX4.out.cell hp3
              by_cases hltx : x < s.size
              · have hltx' : (x : Int) < (s.size : Int) := by omega
                have hx0 : (0 : Int) ≤ (x : Int) := by omega
                have hb35 := byte_eq s x hltx 35
                have hb46 := byte_eq s x hltx 46
                have HP1 : Hid (pixOk (s.data.toList.getD x 0) = true → ∀ j, j < x + 1 → pixOk (s.data.toList.getD j 0) = true) := fun h j hj => by
                  by_cases e : j = x
                  · rw [e]; exact h
                  · exact HP.out j (by omega)
                have HBB : Hid (pixOk (s.data.toList.getD x 0) = false → ok = false) := fun h => HB.out (by
                  unfold rowGood
                  have h5 : s.data.toList.all pixOk = false := all_false (d := (0 : UInt8)) (show x < s.data.toList.length by simpa using hltx) h
                  rw [h5, Bool.and_false])
                unfold pixOk at HP1 HBB
                cases h35 : (s.data.toList.getD x 0 == 35)
                · have h2 : (((s[x]'hltx).toNat : Int) != 35) = true := by unfold bne; rw [show (((s[x]'hltx).toNat : Int) == 35) = false from by rw [← h35]; exact hb35]; rfl
                  cases h46 : (s.data.toList.getD x 0 == 46)
                  · have h4 : (((s[x]'hltx).toNat : Int) != 46) = true := by unfold bne; rw [show (((s[x]'hltx).toNat : Int) == 46) = false from by rw [← h46]; exact hb46]; rfl
                    have hf := HBB.out (by rw [h35, h46]; rfl)
                    subst hf
                    clear hb35 hb46 h35 h46 HP1 HBB
                    go_wp2
                    go_ret
                    exact ⟨rfl, HX3.out.trans HX4.out⟩
                  · have h4 : (((s[x]'hltx).toNat : Int) != 46) = false := by unfold bne; rw [show (((s[x]'hltx).toNat : Int) == 46) = true from by rw [← h46]; exact hb46]; rfl
                    have HP2 := Lib.hid (HP1.out (by rw [h35, h46]; rfl))
                    clear hb35 hb46 h35 h46 HP1 HBB
                    go_wp2
                    go_roundw
                    case rel => exact ⟨x + 1, by omega, by go_num, HP2.out, HX4⟩
                    case measure => simp [intOf]; omega
                · have h2 : (((s[x]'hltx).toNat : Int) != 35) = false := by unfold bne; rw [show (((s[x]'hltx).toNat : Int) == 35) = true from by rw [← h35]; exact hb35]; rfl
                  have HP2 := Lib.hid (HP1.out (by rw [h35]; rfl))
                  clear hb35 hb46 h35 HP1 HBB
                  go_wp2
                  go_roundw
                  case rel => exact ⟨x + 1, by omega, by go_num, HP2.out, HX4⟩
                  case measure => simp [intOf]; omega
              · have : x = s.size := by omega
                subst this
                have hgood : rowGood s0.size s = true := by
                  unfold rowGood
                  rw [decide_eq_true hsW, Bool.true_and, all_getD (d := (0 : UInt8))]
                  exact fun j hj => HP.out j (by simpa using hj)
                have HGN := Lib.hid (HN.out hgood)
                have HX5 := Lib.hid (HX3.out.trans HX4.out)
                clear hgood
                go_wp2
                go_roundw
                case rel => exact ⟨y + 1, by omega, by go_num, HGN.out, HX5.out⟩
                case measure => simp [intOf]; omega
          · have hf := HB.out (by unfold rowGood; rw [decide_eq_false hsW]; rfl)
            subst hf
            have hne : ((s.size : Int) != (s0.size : Int)) = true := by simp; omega
            go_wp2_with fail
            refine wp_region_over_lit (by kernel_rfl) (by kernel_rfl) ?_; (repeat (go_big_quiet_step (fail))); refine wpQuiet_nil ?_; rintro _ ⟨x1, rfl⟩
            go_wp2
            go_ret
            exact ⟨rfl, HX.out.over _⟩
        · have : y = ss.length := by omega
          subst this
          have hf := HGOOD.out HG.out
          subst hf
          go_wp2
          go_ret
          exact ⟨rfl, HX.out⟩
set_option maxRecDepth 5000 in
set_option maxHeartbeats 1600000 in
theorem l01Like_at (p po q qo : Nat) (a : Option Addr) (c : Nat) (ss : List ByteArray) (a' : Option Addr) (c' : Nat) (tt : List ByteArray) (w : World) (hb : PicBnd ss) (hb' : PicBnd tt)
    (hp : w.cell? ⟨p, po, none⟩ = some (.slice a ss.length c)) (hm : RowS w a ss) (hq : w.cell? ⟨q, qo, none⟩ = some (.slice a' tt.length c')) (hm' : RowS w a' tt) :
    Calls Try.prog 98 #[.pointer (some ⟨p, po, none⟩), .pointer (some ⟨q, qo, none⟩)] w fun e w' => e = .returned (.bool (likeP ss tt)) ∧ w.Ext w' := by
  have HI1 := Lib.hid (l01Is_at p po a c ss w hb.1 hb.2 hp hm _ rfl)
  have HI2 : Hid (∀ w', w.Ext w' → Calls Try.prog 129 #[.pointer (some ⟨q, qo, none⟩)] w' fun e w'' => e = .returned (.bool (picOk tt)) ∧ w'.Ext w'') := fun w' hx => l01Is_at q qo a' c' tt w' hb'.1 hb'.2 (hx.cell hq) (RowOf.ext hm' hx) _ rfl
  unfold likeP
  cases h1 : picOk ss
  · rw [h1] at HI1
    simp only [Bool.false_and]
    clear h1 hb hb' hp hm hq hm' HI2
    go_enter Try.func98, Try.ntmps98
    go_wp2_with fail
    refine HI1.out.mono ?_
    rintro e w1 ⟨rfl, hx⟩
    go_wp2
    go_ret
    exact ⟨rfl, hx⟩
  · rw [h1] at HI1
    simp only [Bool.true_and]
    cases h2 : picOk tt
    · rw [h2] at HI2
      simp only [Bool.false_and]
      clear h1 h2 hb hb' hp hm hq hm'
      go_enter Try.func98, Try.ntmps98
      go_wp2_with fail
      refine HI1.out.mono ?_
      rintro e w1 ⟨rfl, hx⟩
      go_wp2_with fail
      refine (HI2.out _ hx).mono ?_
      rintro e w2 ⟨rfl, hx2⟩
      go_wp2
      go_ret
      exact ⟨rfl, hx.trans hx2⟩
    · rw [h2] at HI2
      simp only [Bool.true_and]
      obtain ⟨-, -, -, -, e1, -⟩ := picOk_spec h1
      obtain ⟨-, -, -, -, e2, -⟩ := picOk_spec h2
      obtain ⟨v1, v2, v3, v4, -, -⟩ := picOk_spec h1
      obtain ⟨v5, v6, v7, v8, -, -⟩ := picOk_spec h2
      have HW1 : Hid (∀ w', w.Ext w' → Calls Try.prog 99 #[.pointer (some ⟨p, po, none⟩)] w' fun e w'' => e = .returned (.int .i64 (picW ss)) ∧ w'.Ext w'') := fun w' hx => l01Width_at p po a c ss w' e1.1 (by omega) (by omega) (hx.cell hp) (RowOf.ext hm hx)
      have HH1 : Hid (∀ w', w.Ext w' → Calls Try.prog 100 #[.pointer (some ⟨p, po, none⟩)] w' fun e w'' => e = .returned (.int .i64 ss.length) ∧ w'.Ext w'') := fun w' hx => l01Height_at p po a c ss.length w' (by omega) (hx.cell hp)
      have HW2 : Hid (∀ w', w.Ext w' → Calls Try.prog 99 #[.pointer (some ⟨q, qo, none⟩)] w' fun e w'' => e = .returned (.int .i64 (picW tt)) ∧ w'.Ext w'') := fun w' hx => l01Width_at q qo a' c' tt w' e2.1 (by omega) (by omega) (hx.cell hq) (RowOf.ext hm' hx)
      have HH2 : Hid (∀ w', w.Ext w' → Calls Try.prog 100 #[.pointer (some ⟨q, qo, none⟩)] w' fun e w'' => e = .returned (.int .i64 tt.length) ∧ w'.Ext w'') := fun w' hx => l01Height_at q qo a' c' tt.length w' (by omega) (hx.cell hq)
      clear h1 h2 hb hb' hp hm hq hm' e1 e2 v1 v2 v3 v4 v5 v6 v7 v8
      generalize picW ss = W at *
      generalize picW tt = W' at *
      generalize ss.length = H at *
      generalize tt.length = H' at *
      by_cases hw : W = W'
      · subst hw
        have f1 : ((W : Int) == (W : Int)) = true := by simp
        by_cases hh : H = H'
        · subst hh
          have f2 : ((H : Int) == (H : Int)) = true := by simp
          simp only [decide_true, Bool.true_and]
          go_enter Try.func98, Try.ntmps98
          go_wp2_with fail
          refine HI1.out.mono ?_
          rintro e w1 ⟨rfl, hx⟩
          go_wp2_with fail
          refine (HI2.out _ hx).mono ?_
          rintro e w2 ⟨rfl, hx2⟩
          replace hx := hx.trans hx2
          clear hx2
          go_wp2_with fail
          refine (HW1.out _ hx).mono ?_
          rintro e w3 ⟨rfl, hx3⟩
          replace hx := hx.trans hx3
          clear hx3
          go_wp2_with fail
          refine (HW2.out _ hx).mono ?_
          rintro e w4 ⟨rfl, hx4⟩
          replace hx := hx.trans hx4
          clear hx4
          go_wp2_with fail
          refine (HH1.out _ hx).mono ?_
          rintro e w5 ⟨rfl, hx5⟩
          replace hx := hx.trans hx5
          clear hx5
          go_wp2_with fail
          refine (HH2.out _ hx).mono ?_
          rintro e w6 ⟨rfl, hx6⟩
          replace hx := hx.trans hx6
          clear hx6
          go_wp2
          go_ret
          exact ⟨rfl, hx⟩
        · have f2 : ((H : Int) == (H' : Int)) = false := by simp; omega
          simp only [decide_eq_false hh, Bool.and_false]
          go_enter Try.func98, Try.ntmps98
          go_wp2_with fail
          refine HI1.out.mono ?_
          rintro e w1 ⟨rfl, hx⟩
          go_wp2_with fail
          refine (HI2.out _ hx).mono ?_
          rintro e w2 ⟨rfl, hx2⟩
          replace hx := hx.trans hx2
          clear hx2
          go_wp2_with fail
          refine (HW1.out _ hx).mono ?_
          rintro e w3 ⟨rfl, hx3⟩
          replace hx := hx.trans hx3
          clear hx3
          go_wp2_with fail
          refine (HW2.out _ hx).mono ?_
          rintro e w4 ⟨rfl, hx4⟩
          replace hx := hx.trans hx4
          clear hx4
          go_wp2_with fail
          refine (HH1.out _ hx).mono ?_
          rintro e w5 ⟨rfl, hx5⟩
          replace hx := hx.trans hx5
          clear hx5
          go_wp2_with fail
          refine (HH2.out _ hx).mono ?_
          rintro e w6 ⟨rfl, hx6⟩
          replace hx := hx.trans hx6
          clear hx6
          go_wp2
          go_ret
          exact ⟨rfl, hx⟩
      · have f1 : ((W : Int) == (W' : Int)) = false := by simp; omega
        simp only [decide_eq_false hw, Bool.false_and]
        go_enter Try.func98, Try.ntmps98
        go_wp2_with fail
        refine HI1.out.mono ?_
        rintro e w1 ⟨rfl, hx⟩
        go_wp2_with fail
        refine (HI2.out _ hx).mono ?_
        rintro e w2 ⟨rfl, hx2⟩
        replace hx := hx.trans hx2
        clear hx2
        go_wp2_with fail
        refine (HW1.out _ hx).mono ?_
        rintro e w3 ⟨rfl, hx3⟩
        replace hx := hx.trans hx3
        clear hx3
        go_wp2_with fail
        refine (HW2.out _ hx).mono ?_
        rintro e w4 ⟨rfl, hx4⟩
        replace hx := hx.trans hx4
        clear hx4
        go_wp2
        go_ret
        exact ⟨rfl, hx⟩
set_option maxRecDepth 5000 in
set_option maxHeartbeats 1600000 in
theorem l01List_at (p po : Nat) (a : Option Addr) (c : Nat) (ss : List ByteArray) (w : World) (he : Even ss) (hH : ss.length ≤ 64) (hW : picW ss ≤ 64) (hp : w.cell? ⟨p, po, none⟩ = some (.slice a ss.length c)) (hm : RowS w a ss) :
    Calls Try.prog 101 #[.pointer (some ⟨p, po, none⟩)] w fun e w' => ∃ v, e = .returned v ∧ BlSt w v (picL ss) w' := by
  obtain ⟨ib, hib, hb0, hb1, hb2⟩ := info_parts Try.infoBoolP
  have HM := Lib.hid hm
  have HE := Lib.hid he
  have HP : Hid (∀ w', w.Ext w' → w'.cell? ⟨p, po, none⟩ = some (.slice a ss.length c)) := fun w' hx => hx.cell hp
  have HLEN := Lib.hid (picL_len he)
  have HST : Hid (BlSt w (.slice (some ⟨w.heap.size, 0, none⟩) 0 0) [] (w.alloc (.cells #[] 4))) := BlSt.start
  clear hm he hp
  go_enter Try.func101, Try.ntmps101
  go_wp2
  go_loopw [3, 4, 5] (fun v m _ wr => ∃ y : Nat, y ≤ ss.length ∧ m = .int .i64 y ∧ Hid (BlSt w v ((picL ss).take (y * picW ss)) wr)) (fun _ m _ _ => ss.length - (intOf m).toNat)
  case atStart => exact ⟨0, Nat.zero_le _, rfl, by rw [Nat.zero_mul]; exact HST⟩
  case round =>
    obtain ⟨y, hy, rfl, HS⟩ := hrel
    clear HST
    obtain ⟨wo, rfl⟩ : ∃ wo : World, wo = wr := ⟨_, rfl⟩
    have c0 := HP.out _ HS.out.1
    by_cases hlty : y < ss.length
    · have hlty' : (y : Int) < (ss.length : Int) := by omega
      have hy0 : (0 : Int) ≤ (y : Int) := by omega
      obtain ⟨b, o, rfl, hc⟩ := HM.out y hlty
      have hsz : (ss.getD y ByteArray.empty).size = picW ss := HE.out.2 y hlty
      have HAT := Lib.hid (fun x (hx : x < picW ss) => picL_at HE.out x y hx hlty)
      have HY : Hid (∀ x, x < picW ss → y * picW ss + x < (picL ss).length ∧ y * picW ss + x < 4096) := fun x hx => by
        have h1 := Nat.mul_le_mul_right (picW ss) (show y + 1 ≤ ss.length by omega)
        rw [Nat.succ_mul] at h1
        have h2 := HLEN.out
        have h3 := Nat.mul_le_mul hH hW
        omega
      have HC : Hid (∀ w', w.Ext w' → w'.cell? ⟨b, o + y, none⟩ = some (.string (ss.getD y ByteArray.empty))) := fun w' hx => hx.cell hc
      clear hc
      generalize ss.getD y ByteArray.empty = s at hsz HAT HC
      have HSZ := Lib.hid hsz
      go_wp2
      go_loopw [3, 5] (fun v m wr => ∃ x : Nat, x ≤ picW ss ∧ m = .int .i64 x ∧ Hid (BlSt w v ((picL ss).take (y * picW ss + x)) wr)) (fun _ m _ => picW ss - (intOf m).toNat)
      case atStart => exact ⟨0, Nat.zero_le _, rfl, HS⟩
      case round =>
        clear HS c0
        obtain ⟨x, hx, rfl, HS⟩ := hrel
        obtain ⟨w2, rfl⟩ : ∃ w2 : World, w2 = wr := ⟨_, rfl⟩
        have c0 := HP.out _ HS.out.1
        have c1 := HC.out _ HS.out.1
        by_cases hltx : x < picW ss
        · have hltx' : (x : Int) < (s.size : Int) := by omega
          have hlts : x < s.size := by omega
          have hx0 : (0 : Int) ≤ (x : Int) := by omega
          have hbe : (((s[x]'hlts).toNat : Int) == 35) = (picL ss).getD (y * picW ss + x) false := (byte_eq s x hlts 35).trans (HAT.out x hltx).symm
          obtain ⟨hk1, hk2⟩ := HY.out x hltx
          have hlen : ((picL ss).take (y * picW ss + x)).length = y * picW ss + x := by simp; omega
          have HQ : Hid ((picL ss).take (y * picW ss + (x + 1)) = (picL ss).take (y * picW ss + x) ++ [(picL ss).getD (y * picW ss + x) false]) := by show _ = _; rw [← Nat.add_assoc]; exact take_next hk1
          have HNEXT : Hid (∀ (o : Obj) (v' : Value) (w1 : World), (w2.alloc o).grownBy w1 u3.ownBlock → w1.ownsRow w.heap.size 4 1 v' (((picL ss).take (y * picW ss + x)).length + 1) (((picL ss).take (y * picW ss + x)).map Value.bool ++ [.bool ((picL ss).getD (y * picW ss + x) false)]) → Hid (BlSt w v' ((picL ss).take (y * picW ss + (x + 1))) w1)) := fun o v' w1 hgrow hown' => BlSt.next HS.out HQ.out hgrow hown'
          have hown := HS.out.2
          unfold GrowOf at hown
          have HLE : ∀ o' : Obj, w.heap.size ≤ (w2.alloc o').heap.size := fun o' => (HS.out.1.alloc o').size
          have HB1 : Hid (((picL ss).take (y * picW ss + x)).length + 1 ≤ maxLen) := by show _ ≤ _; rw [hlen]; unfold maxLen; omega
          have HB2 : Hid ((((picL ss).take (y * picW ss + x)).length + 1) * 1 ≤ 140737488355328) := by show _ ≤ _; rw [hlen]; omega
          clear HS HQ hlen hk1 hk2
          generalize (picL ss).take (y * picW ss + x) = pre at *
          generalize (picL ss).getD (y * picW ss + x) false = bt at *
          go_wp2_with ((at_builtin; refine wpList_append_own _ rfl _ _ 119 rfl w.heap.size 4 ib (.bool false) 1 1 Try.underlying119 hib hb0 hb1 hb2 rfl (by decide) _ _ _ rfl (hown.alloc _) ⟨w2.heap.size, 0, none⟩ 1 1 [.bool bt] rfl rfl (cell_one_new _ _ _) (by simp [Value.oneCell']) HB1.out HB2.out (HLE _) (fun v' w1 hown' hgrow _ => ?_)); have HS4 := HNEXT.out _ _ _ hgrow hown'; clear hgrow hown' hown)
          go_roundw
          case rel => exact ⟨x + 1, by omega, by go_num, HS4⟩
          case measure => simp [intOf]; omega
        · have : x = picW ss := by omega
          subst this
          have hge : ¬ (picW ss : Int) < (s.size : Int) := by omega
          have HS2 : Hid (BlSt w u3 ((picL ss).take ((y + 1) * picW ss)) w2) := by show BlSt _ _ _ _; rw [Nat.succ_mul]; exact HS.out
          clear HS hsz
          go_wp2
          go_roundw
          case rel => exact ⟨y + 1, by omega, by go_num, HS2⟩
          case measure => simp [intOf]; omega
    · have : y = ss.length := by omega
      subst this
      have HS2 : Hid (BlSt w u3 (picL ss) wo) := by
        have h := HS.out
        rw [← HLEN.out, List.take_length] at h
        exact h
      clear HS
      go_wp2
      go_ret
      exact ⟨_, rfl, HS2.out⟩
end Go.Proofs.Ytahhnjoeaodcjaa
