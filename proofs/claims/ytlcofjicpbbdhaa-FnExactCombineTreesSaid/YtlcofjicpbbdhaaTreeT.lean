/- Quadtrees: the reference's text of a picture. -/
import Derived.Test.YtlcofjicpbbdhaaTreeS
namespace Go.Proofs.Ytlcofjicpbbdhaa
open Go Go.RowKit
def fS (ss : List ByteArray) (i j : Nat) : Bool := pxl (picW ss) ss.length (picL ss) i j
def txB (l : List UInt8) : ByteArray := ⟨l.toArray⟩
set_option maxRecDepth 5000 in
set_option maxHeartbeats 800000 in
theorem l02Same_any (p : Nat) (a : Option Addr) (c : Nat) (ss : List ByteArray) (xi yi mi : Int) (x y m : Nat) (hxi : xi = x) (hyi : yi = y) (hmi : mi = m) (hx : x ≤ 100) (hy : y ≤ 100) (hm : m ≤ 100) (w : World) (he : Even ss) (hn : ss.length ≤ 1048576) (hw : picW ss ≤ 1048576)
    (hp : w.cell? ⟨p, 0, none⟩ = some (.slice a ss.length c)) (hr : RowS w a ss) :
    Calls Try.prog 247 #[.pointer (some ⟨p, 0, none⟩), .int .i64 xi, .int .i64 yi, .int .i64 mi] w fun e w' => e = .returned (.bool (uni (fS ss) m x y)) ∧ w.Ext w' := by
  have HBK : Hid (∀ (i j : Nat) (w' : World), w.Ext w' → ∀ X Y : Int, X = i → Y = j → Calls Try.prog 94 #[.pointer (some ⟨p, 0, none⟩), .int .i64 X, .int .i64 Y] w' fun e w'' => e = .returned (.bool (fS ss i j)) ∧ w'.Ext w'') :=
    fun i j w' hx X Y hX hY => by subst hX hY; exact l01Black_any p a c ss _ _ w' he hn hw (hx.cell hp) (RowOf.ext hr hx) _ rfl
  have HNO : Hid (∀ i j, i < m → j < m → fS ss (x + i) (y + j) ≠ fS ss x y → uni (fS ss) m x y = false) := fun i j hi hj h => by
    cases e : uni (fS ss) m x y
    · rfl
    · exact absurd (uni_iff.1 e i j hi hj) h
  have HYES : Hid ((∀ i j, i < m → j < m → fS ss (x + i) (y + j) = fS ss x y) → uni (fS ss) m x y = true) := uni_iff.2
  clear hp hr he hn hw
  generalize uni (fS ss) m x y = t at *
  generalize fS ss = f at *
  have HXI := Lib.hid hxi
  have HYI := Lib.hid hyi
  have hx0 : 0 ≤ xi ∧ xi ≤ 100 := by omega
  have hy0 : 0 ≤ yi ∧ yi ≤ 100 := by omega
  have hm0 : 0 ≤ mi ∧ mi ≤ 100 := by omega
  have HMI := Lib.hid hmi
  obtain ⟨hx0, hx1⟩ := hx0
  obtain ⟨hy0, hy1⟩ := hy0
  obtain ⟨hm0, hm1⟩ := hm0
  clear hxi hyi hmi
  go_enter Try.func247, Try.ntmps247
  go_wp2
  go_loopw [9, 10] (fun Y _ wr => ∃ b : Nat, b ≤ m ∧ Y = .int .i64 ((y + b : Nat) : Int) ∧ Hid (w.Ext wr) ∧ Hid (∀ i j, i < m → j < b → f (x + i) (y + j) = f x y)) (fun Y _ _ => y + m - (intOf Y).toNat)
  case atStart => exact ⟨0, Nat.zero_le _, by rw [HYI.out]; rfl, .refl _, fun i j _ hj => absurd hj (by omega)⟩
  case round =>
    obtain ⟨b, hb, rfl, HX, HD⟩ := hrel
    obtain ⟨Y, hY⟩ : ∃ Y : Int, Y = ((y + b : Nat) : Int) := ⟨_, rfl⟩
    rw [← hY]
    obtain ⟨wo, rfl⟩ : ∃ wo : World, wo = wr := ⟨_, rfl⟩
    have HY := Lib.hid hY
    have hY0 : 0 ≤ Y := by omega
    have hY1 : Y ≤ 200 := by omega
    by_cases hlt : b < m
    · have hY2 : Y < yi + mi := by have := HYI.out; have := HMI.out; omega
      clear hY
      go_wp2
      go_loopw [10] (fun X wr => ∃ a : Nat, a ≤ m ∧ X = .int .i64 ((x + a : Nat) : Int) ∧ Hid (w.Ext wr) ∧ Hid (∀ i, i < a → f (x + i) (y + b) = f x y)) (fun X _ => x + m - (intOf X).toNat)
      case atStart => exact ⟨0, Nat.zero_le _, by rw [HXI.out]; rfl, HX, fun i hi => absurd hi (by omega)⟩
      case round =>
        clear HX
        obtain ⟨a, ha, rfl, HX, HE⟩ := hrel
        obtain ⟨X, hX⟩ : ∃ X : Int, X = ((x + a : Nat) : Int) := ⟨_, rfl⟩
        rw [← hX]
        obtain ⟨w1, rfl⟩ : ∃ w1 : World, w1 = wr := ⟨_, rfl⟩
        have HXX := Lib.hid hX
        have hX0 : 0 ≤ X := by omega
        have hX1 : X ≤ 200 := by omega
        by_cases hlta : a < m
        · have hX2 : X < xi + mi := by have := HXI.out; have := HMI.out; omega
          clear hX
          go_wp2_with fail
          refine (HBK.out (x + a) (y + b) _ HX.out _ _ HXX.out HY.out).mono ?_
          rintro e w2 ⟨rfl, hx2⟩
          have HX2 := Lib.hid (HX.out.trans hx2)
          clear HX hx2
          obtain ⟨b1, hb1⟩ : ∃ b1, b1 = f (x + a) (y + b) := ⟨_, rfl⟩
          rw [← hb1]
          have HB1 := Lib.hid hb1
          clear hb1
          go_wp2_with fail
          refine (HBK.out x y _ HX2.out _ _ HXI.out HYI.out).mono ?_
          rintro e w3 ⟨rfl, hx3⟩
          have HX3 := Lib.hid (HX2.out.trans hx3)
          clear HX2 hx3
          obtain ⟨b2, hb2⟩ : ∃ b2, b2 = f x y := ⟨_, rfl⟩
          rw [← hb2]
          by_cases hbb : b1 = b2
          · have HN : Hid (∀ i, i < a + 1 → f (x + i) (y + b) = f x y) := fun i hi => by
              by_cases h : i < a
              · exact HE.out i h
              · have : i = a := by omega
                subst this
                rw [← HB1.out, ← hb2, hbb]
            clear HB1 hb2 HE
            subst hbb
            cases b1
            all_goals
              go_wp2
              go_roundw
              case rel => exact ⟨a + 1, by omega, by rw [HXX.out]; go_num, HX3, HN⟩
              case measure => have h1 := HXX.out; simp [intOf]; omega
          · have HR := Lib.hid (HNO.out a b hlta hlt (by rw [← HB1.out, ← hb2]; exact hbb))
            clear HB1 hb2 HE
            cases b1 <;> cases b2
            all_goals first | exact absurd rfl hbb | skip
            all_goals
              clear hbb
              go_wp2
              go_ret
              exact ⟨by rw [HR.out]; rfl, HX3.out⟩
        · have : a = m := by omega
          subst this
          have hX2 : ¬ X < xi + mi := by have := HXI.out; have := HMI.out; omega
          clear hX
          have HN : Hid (∀ i j, i < a → j < b + 1 → f (x + i) (y + j) = f x y) := fun i j hi hj => by
            by_cases h : j < b
            · exact HD.out i j hi h
            · have : j = b := by omega
              subst this
              exact HE.out i hi
          clear HE
          go_wp2
          go_roundw
          case rel => exact ⟨b + 1, by omega, by rw [HY.out]; go_num, HX, HN⟩
          case measure => have h1 := HY.out; simp [intOf]; omega
    · have : b = m := by omega
      subst this
      have hY2 : ¬ Y < yi + mi := by have := HYI.out; have := HMI.out; omega
      have HR := Lib.hid (HYES.out HD.out)
      clear hY
      go_wp2
      go_ret
      exact ⟨by rw [HR.out]; rfl, HX.out⟩
theorem txB_node (a b c d : List UInt8) : (⟨#[40]⟩ : ByteArray) ++ txB a ++ txB b ++ txB c ++ txB d ++ ⟨#[41]⟩ = txB (nodeT a b c d) := by
  have e1 : (⟨#[40]⟩ : ByteArray) = ⟨([40] : List UInt8).toArray⟩ := rfl
  have e2 : (⟨#[41]⟩ : ByteArray) = ⟨([41] : List UInt8).toArray⟩ := rfl
  unfold txB
  rw [e1, e2, ByteArray.mk_append_mk, ByteArray.mk_append_mk, ByteArray.mk_append_mk, ByteArray.mk_append_mk, ByteArray.mk_append_mk]
  unfold nodeT
  simp
theorem txB_size (l : List UInt8) : (txB l).size = l.length := by simp [txB, ByteArray.size]
set_option maxRecDepth 5000 in
set_option maxHeartbeats 1600000 in
theorem l02Text_any (p : Nat) (a : Option Addr) (c : Nat) (ss : List ByteArray) (he : Even ss) (hn : ss.length ≤ 1048576) (hw : picW ss ≤ 1048576) : ∀ (n : Nat) (xi yi mi : Int) (x y : Nat) (w : World), n ≤ 4 → xi = x → yi = y → mi = ((2 ^ n : Nat) : Int) → x + 2 ^ n ≤ 16 → y + 2 ^ n ≤ 16 →
    w.cell? ⟨p, 0, none⟩ = some (.slice a ss.length c) → RowS w a ss →
    Calls Try.prog 224 #[.pointer (some ⟨p, 0, none⟩), .int .i64 xi, .int .i64 yi, .int .i64 mi] w fun e w' => e = .returned (.string (txB (qtext (fS ss) n x y))) ∧ w.Ext w' := by
  intro n
  induction n with
  | zero =>
    intro xi yi mi x y w hn4 hxi hyi hmi hx hy hp hr
    have hu := uni_one (fS ss) x y
    have hSM := l02Same_any p a c ss xi yi mi x y 1 hxi hyi hmi (by omega) (by omega) (by omega) w he hn hw hp hr
    rw [hu] at hSM
    have HSM := Lib.hid hSM
    have HBK : Hid (∀ w', w.Ext w' → Calls Try.prog 94 #[.pointer (some ⟨p, 0, none⟩), .int .i64 xi, .int .i64 yi] w' fun e w'' => e = .returned (.bool (fS ss x y)) ∧ w'.Ext w'') :=
      fun w' hx => by subst hxi hyi; exact l01Black_any p a c ss _ _ w' he hn hw (hx.cell hp) (RowOf.ext hr hx) _ rfl
    have e0 : qtext (fS ss) 0 x y = [tokB (fS ss x y)] := rfl
    rw [e0]
    clear e0 hSM hu hp hr hmi hxi hyi
    generalize fS ss x y = t at *
    go_enter Try.func224, Try.ntmps224
    go_wp2_with fail
    refine HSM.out.mono ?_
    rintro e w1 ⟨rfl, hx1⟩
    have HX1 := Lib.hid hx1
    clear hx1
    go_wp2_with fail
    refine (HBK.out _ HX1.out).mono ?_
    rintro e w2 ⟨rfl, hx2⟩
    have HX2 := Lib.hid (HX1.out.trans hx2)
    clear hx2
    cases t
    all_goals
      go_wp2
      go_ret
      exact ⟨rfl, HX2.out⟩
  | succ n ih =>
    intro xi yi mi x y w hn4 hxi hyi hmi hx hy hp hr
    obtain ⟨h, hh⟩ : ∃ h : Nat, h = 2 ^ n := ⟨_, rfl⟩
    have e2 : (2 : Nat) ^ (n + 1) = 2 * h := by rw [Nat.pow_succ, hh]; omega
    have hpos : 0 < h := by rw [hh]; exact Nat.two_pow_pos n
    have hSM := l02Same_any p a c ss xi yi mi x y (2 ^ (n + 1)) hxi hyi hmi (by omega) (by omega) (by omega) w he hn hw hp hr
    have eT : qtext (fS ss) (n + 1) x y = if uni (fS ss) (2 ^ (n + 1)) x y then [tokB (fS ss x y)] else nodeT (qtext (fS ss) n x y) (qtext (fS ss) n (x + h) y) (qtext (fS ss) n x (y + h)) (qtext (fS ss) n (x + h) (y + h)) := by rw [hh]; rfl
    rw [eT]
    have HBK : Hid (∀ w', w.Ext w' → Calls Try.prog 94 #[.pointer (some ⟨p, 0, none⟩), .int .i64 xi, .int .i64 yi] w' fun e w'' => e = .returned (.bool (fS ss x y)) ∧ w'.Ext w'') :=
      fun w' hx => by subst hxi hyi; exact l01Black_any p a c ss _ _ w' he hn hw (hx.cell hp) (RowOf.ext hr hx) _ rfl
    rw [e2] at hmi hx hy
    have IH : Hid (∀ (X Y : Nat) (xi yi : Int) (w' : World), xi = X → yi = Y → X + h ≤ 16 → Y + h ≤ 16 → w.Ext w' →
        Calls Try.prog 224 #[.pointer (some ⟨p, 0, none⟩), .int .i64 xi, .int .i64 yi, .int .i64 h] w' fun e w'' => (∃ A, e = .returned (.string A) ∧ A.size ≤ 426 ∧ Hid (A = txB (qtext (fS ss) n X Y))) ∧ w'.Ext w'') :=
      fun X Y xi yi w' e1 e2 e3 e4 hx => (ih xi yi h X Y w' (by omega) e1 e2 (by rw [hh]) (by rw [← hh]; exact e3) (by rw [← hh]; exact e4) (hx.cell hp) (RowOf.ext hr hx)).mono fun e w'' hq => by
        obtain ⟨rfl, hx⟩ := hq
        refine ⟨⟨_, rfl, ?_, rfl⟩, hx⟩
        rw [txB_size]
        exact Nat.le_trans (qtext_le _ _ _ _) (Lq_4 (by omega))
    have hdiv : mi / 2 = (h : Int) := by omega
    have HSM := Lib.hid hSM
    have HDIV := Lib.hid hdiv
    have HXI := Lib.hid hxi
    have HYI := Lib.hid hyi
    have hxi0 : 0 ≤ xi ∧ xi ≤ 16 := by omega
    have hyi0 : 0 ≤ yi ∧ yi ≤ 16 := by omega
    have hmi0 : 0 ≤ mi ∧ mi ≤ 16 := by omega
    obtain ⟨hx0, hx1⟩ := hxi0
    obtain ⟨hy0, hy1⟩ := hyi0
    obtain ⟨hm0, hm1⟩ := hmi0
    clear hSM hp hr hmi hxi hyi ih eT hdiv
    generalize uni (fS ss) (2 ^ (n + 1)) x y = u at *
    clear e2 hh
    cases u
    · rw [if_neg (by decide)]
      have HRES : Hid (∀ A B C D, A = txB (qtext (fS ss) n x y) → B = txB (qtext (fS ss) n (x + h) y) → C = txB (qtext (fS ss) n x (y + h)) → D = txB (qtext (fS ss) n (x + h) (y + h)) →
          (⟨#[40]⟩ : ByteArray) ++ A ++ B ++ C ++ D ++ ⟨#[41]⟩ = txB (nodeT (qtext (fS ss) n x y) (qtext (fS ss) n (x + h) y) (qtext (fS ss) n x (y + h)) (qtext (fS ss) n (x + h) (y + h)))) := fun A B C D h1 h2 h3 h4 => by
        rw [h1, h2, h3, h4]
        exact txB_node _ _ _ _
      generalize txB (nodeT (qtext (fS ss) n x y) (qtext (fS ss) n (x + h) y) (qtext (fS ss) n x (y + h)) (qtext (fS ss) n (x + h) (y + h))) = RES at *
      go_enter Try.func224, Try.ntmps224
      go_wp2_with fail
      refine HSM.out.mono ?_
      rintro e w1 ⟨rfl, hx1⟩
      have HX1 := Lib.hid hx1
      clear hx1
      go_wp2_with fail
      rw [HDIV.out]
      refine (IH.out x y _ _ _ HXI.out HYI.out (by omega) (by omega) HX1.out).mono ?_
      rintro e w2 ⟨⟨A, rfl, hA, HA⟩, hx2⟩
      have HX2 := Lib.hid (HX1.out.trans hx2)
      clear hx2 HX1
      go_wp2_with fail
      refine (IH.out (x + h) y _ _ _ (by rw [HXI.out, Int.natCast_add]) HYI.out (by omega) (by omega) HX2.out).mono ?_
      rintro e w3 ⟨⟨B, rfl, hB, HB⟩, hx3⟩
      have HX3 := Lib.hid (HX2.out.trans hx3)
      clear hx3 HX2
      go_wp2_with fail
      refine (IH.out x (y + h) _ _ _ HXI.out (by rw [HYI.out, Int.natCast_add]) (by omega) (by omega) HX3.out).mono ?_
      rintro e w4 ⟨⟨C, rfl, hC, HC⟩, hx4⟩
      have HX4 := Lib.hid (HX3.out.trans hx4)
      clear hx4 HX3
      go_wp2_with fail
      refine (IH.out (x + h) (y + h) _ _ _ (by rw [HXI.out, Int.natCast_add]) (by rw [HYI.out, Int.natCast_add]) (by omega) (by omega) HX4.out).mono ?_
      rintro e w5 ⟨⟨D, rfl, hD, HD⟩, hx5⟩
      have HX5 := Lib.hid (HX4.out.trans hx5)
      have HR := Lib.hid (HRES.out A B C D HA.out HB.out HC.out HD.out)
      clear hx5 HX4 HRES HA HB HC HD IH
      go_wp2_with fail
      go_ret
      exact ⟨by rw [← HR.out]; rfl, HX5.out⟩
    · rw [if_pos rfl]
      clear IH HDIV
      generalize fS ss x y = t at *
      go_enter Try.func224, Try.ntmps224
      go_wp2_with fail
      refine HSM.out.mono ?_
      rintro e w1 ⟨rfl, hx1⟩
      have HX1 := Lib.hid hx1
      clear hx1
      go_wp2_with fail
      refine (HBK.out _ HX1.out).mono ?_
      rintro e w2 ⟨rfl, hx2⟩
      have HX2 := Lib.hid (HX1.out.trans hx2)
      clear hx2
      cases t
      all_goals
        go_wp2_with fail
        go_ret
        exact ⟨rfl, HX2.out⟩
end Go.Proofs.Ytlcofjicpbbdhaa
