/- Two pictures joined pixel by pixel; one inside the other; the same. -/
import Derived.Test.YtelaoimcaidoiaaDoorRecF
import Derived.Test.YtelaoimcaidoiaaDoorJnP
namespace Go.Proofs.YtelaoimcaidoiaaDoor
open Go Go.RowKit
/-- The pixels of two pictures joined. -/
def jnG (k : Nat) (ss tt : List ByteArray) (x y : Nat) : Bool := joinB k (pxl (picW ss) ss.length (picL ss) x y) (pxl (picW tt) tt.length (picL tt) x y)
theorem insideB_at {l l' : List Bool} : (List.range l.length).all (fun i => !(l.getD i false) || l'.getD i false) = true ↔ ∀ i, i < l.length → l.getD i false = true → l'.getD i false = true := by
  rw [List.all_eq_true]
  constructor
  · intro h i hi hl
    have := h i (List.mem_range.2 hi)
    rw [hl] at this
    simpa using this
  · intro h i hi
    have hi := List.mem_range.1 hi
    cases hl : l.getD i false
    · rfl
    · rw [h i hi hl]; rfl
def insB (l l' : List Bool) : Bool := (List.range l.length).all (fun i => !(l.getD i false) || l'.getD i false)
set_option maxRecDepth 5000 in
set_option maxHeartbeats 800000 in
theorem inside_any (b ab W H : Nat) (l : List Bool) (b2 ab2 : Nat) (l2 : List Bool) (w : World) (hW : W ≤ 64) (hH : H ≤ 64) (hI : Img w b ab W H l) (hI2 : Img w b2 ab2 W H l2) :
    Calls Tryd.prog 45 #[.pointer (some ⟨b, 0, none⟩), .pointer (some ⟨b2, 0, none⟩)] w fun e w' => e = .returned (.bool (insB l l2)) ∧ w.Ext w' := by
  obtain ⟨cap, hc2⟩ := hI.c2
  have HI := Lib.hid hI
  have HI2 := Lib.hid hI2
  have HL1 : Hid (l.length = l2.length) := hI.len.trans hI2.len.symm
  have hlen : l.length ≤ 4096 := by rw [hI.len]; exact Nat.mul_le_mul hW hH
  have HT : Hid ((∀ i, i < l.length → l.getD i false = true → l2.getD i false = true) → true = insB l l2) := fun h => (insideB_at.2 h).symm
  have HF : Hid (∀ i, i < l.length → l.getD i false = true → l2.getD i false = false → false = insB l l2) := fun i hi h1 h2 => by
    cases hb : insB l l2
    · rfl
    · have := insideB_at.1 hb i hi h1
      rw [h2] at this
      cases this
  clear hI hI2
  generalize insB l l2 = t at *
  go_enter Tryd.func45, Tryd.ntmps45
  go_wp2
  go_loopw [12] (fun i wr => ∃ k : Nat, k ≤ l.length ∧ i = .int .i64 k ∧ Hid (∀ i, i < k → l.getD i false = true → l2.getD i false = true) ∧ Hid (w.Ext wr)) (fun i _ => l.length - (intOf i).toNat)
  case atStart => exact ⟨0, Nat.zero_le _, rfl, fun i hi => by omega, .refl _⟩
  case round =>
    clear hc2
    obtain ⟨k, hk, rfl, HK, HX⟩ := hrel
    obtain ⟨w2, rfl⟩ : ∃ w2 : World, w2 = wr := ⟨_, rfl⟩
    have hk0 : (0 : Int) ≤ (k : Int) := by omega
    by_cases hlt : k < l.length
    · have hlt' : (k : Int) < (l.length : Int) := by omega
      have e1 := (HI.out.ext HX.out).px.cell false hlt
      obtain ⟨cap2, hd2⟩ := (HI2.out.ext HX.out).c2
      have hlt2 : (k : Int) < (l2.length : Int) := by have := HL1.out; omega
      have e2 := (HI2.out.ext HX.out).px.cell false (show k < l2.length by have := HL1.out; omega)
      have HN : Hid ((l.getD k false = true → l2.getD k false = true) → ∀ i, i < k + 1 → l.getD i false = true → l2.getD i false = true) := fun h i hi h1 => by
        by_cases e : i = k
        · rw [e] at h1 ⊢; exact h h1
        · exact HK.out i (by omega) h1
      have HFK := Lib.hid (HF.out k hlt)
      clear HK HF HT
      generalize l.getD k false = u at *
      generalize l2.getD k false = v at *
      cases u
      · have HN2 := Lib.hid (HN.out fun h => by cases h)
        clear HN HFK
        go_wp2
        go_roundw
        case rel => exact ⟨k + 1, by omega, by go_num, HN2, HX⟩
        case measure => simp [intOf]; omega
      · cases v
        · have hf := HFK.out rfl rfl
          subst hf
          clear HN HFK
          go_wp2
          go_ret
          exact ⟨rfl, HX.out⟩
        · have HN2 := Lib.hid (HN.out fun h => rfl)
          clear HN HFK
          go_wp2
          go_roundw
          case rel => exact ⟨k + 1, by omega, by go_num, HN2, HX⟩
          case measure => simp [intOf]; omega
    · have hkk : k = l.length := by omega
      subst hkk
      have ht := HT.out HK.out
      subst ht
      clear HK HT HF
      go_wp2
      go_ret
      exact ⟨rfl, HX.out⟩
set_option maxHeartbeats 800000 in
theorem implInside_any (a : Option Addr) (c : Nat) (ss : List ByteArray) (a' : Option Addr) (c' : Nat) (tt : List ByteArray) (w : World) (hb : PicBnd ss) (hb' : PicBnd tt) (hm : RowS w a ss) (hm' : RowS w a' tt) :
    Calls Tryd.prog 19 #[.agg #[.slice a ss.length c], .agg #[.slice a' tt.length c']] w fun e w' => e = .returned (.bool (likeP ss tt && insB (picL ss) (picL tt))) ∧ w.Ext w' := by
  obtain ⟨W0, hW0⟩ : ∃ W0, W0 = (w.alloc (.cells #[.slice a ss.length c] 26)).alloc (.cells #[.slice a' tt.length c'] 26) := ⟨_, rfl⟩
  have hx0 : w.Ext W0 := by rw [hW0]; repeat (first | exact World.Ext.refl _ | exact ⟨_, rfl⟩ | assumption | refine World.Ext.over ?_ _ | refine World.Ext.drewN ?_ _ | refine World.Ext.drew ?_ | refine World.Ext.alloc ?_ _ | refine World.Ext.setCell ?_ (by simp) _)
  have HT : Hid (Calls Tryd.prog 44 #[.agg #[.slice a ss.length c], .agg #[.slice a' tt.length c']] W0 (TwoRet W0 ss tt (likeP ss tt))) := twoImages_any a c ss a' c' tt W0 hb hb' (hm.ext hx0) (hm'.ext hx0)
  have HX0 := Lib.hid hx0
  cases h : likeP ss tt
  · rw [h] at HT
    clear hb hb' hm hm' hx0 h
    go_enter Tryd.func19, Tryd.ntmps19
    go_wp2_with fail
    rw [← hW0]
    clear hW0
    refine HT.out.mono ?_
    rintro e w1 ⟨u, v, rfl, hx1⟩
    have HX1 := Lib.hid (HX0.out.trans hx1)
    clear hx1
    go_wp2
    go_ret
    exact ⟨rfl, HX1.out⟩
  · rw [h] at HT
    obtain ⟨k1, k2, k3, k4⟩ := likeP_true h
    obtain ⟨v1, v2, v3, v4, -, -⟩ := picOk_spec k1
    have HIS : Hid (∀ w' b ab b2 ab2, Img w' b ab (picW ss) ss.length (picL ss) → Img w' b2 ab2 (picW tt) tt.length (picL tt) → Calls Tryd.prog 45 #[.pointer (some ⟨b, 0, none⟩), .pointer (some ⟨b2, 0, none⟩)] w' fun e w'' => e = .returned (.bool (insB (picL ss) (picL tt))) ∧ w'.Ext w'') := fun w' b ab b2 ab2 h1 h2 => by
      rw [← k3, ← k4] at h2
      exact inside_any b ab _ _ _ b2 ab2 _ w' (by omega) (by omega) h1 h2
    clear hb hb' hm hm' hx0 h k1 k2 k3 k4 v1 v2 v3 v4
    rw [Bool.true_and]
    generalize insB (picL ss) (picL tt) = t at *
    go_enter Tryd.func19, Tryd.ntmps19
    go_wp2_with fail
    rw [← hW0]
    clear hW0
    refine HT.out.mono ?_
    rintro e w1 ⟨b, ab, b2, ab2, rfl, hx1, hi1, hi2⟩
    have HC := Lib.hid (HIS.out w1 b ab b2 ab2 hi1 hi2)
    have HX1 := Lib.hid (HX0.out.trans hx1)
    clear hx1 hi1 hi2 HIS
    go_wp2_with fail
    refine HC.out.mono ?_
    rintro e w2 ⟨rfl, hx2⟩
    have HX2 := Lib.hid (HX1.out.trans hx2)
    clear hx2 HX1 HC
    go_wp2
    go_ret
    exact ⟨rfl, HX2.out⟩
end Go.Proofs.YtelaoimcaidoiaaDoor
