/- Borders: the reference's steps, and how it follows a border. -/
import Derived.Test.YtahhnjoeaodcjaaBrdP
import Derived.Test.YtahhnjoeaodcjaaGenS
import Derived.Test.YtahhnjoeaodcjaaRchS
namespace Go.Proofs.Ytahhnjoeaodcjaa
open Go Go.RowKit
def letN (k : Nat) : Nat := if k = 0 then 114 else if k = 1 then 100 else if k = 2 then 108 else 117
/-- The direction of a letter, -1 of none. -/
def wayI (c : Nat) : Int := if c = 114 then 0 else if c = 100 then 1 else if c = 108 then 2 else if c = 117 then 3 else -1
theorem wayI_let {k : Nat} (h : k < 4) : wayI (letN k) = k := by
  match k, h with
  | 0, _ => rfl
  | 1, _ => rfl
  | 2, _ => rfl
  | 3, _ => rfl
theorem inBx_pxl (W H : Nat) (l : List Bool) : InBx (pxl W H l) W H := fun x y h => by
  have hb : hasB W H x y = true := by
    cases hd : hasB W H x y
    · rw [pxl_out hd] at h; cases h
    · rfl
  have := hasB_true.1 hb
  omega
theorem Try.infoBord : (Try.prog.info? 69).map (fun i => (i.zero, i.size, i.bytes)) = some (some (.agg #[.int .i64 0, .int .i64 0, .string ⟨#[]⟩]), 3, 32) := by kernel_rfl
theorem Try.infoU8B : (Try.prog.info? 5).map (fun i => (i.zero, i.size, i.bytes)) = some (some (.int .u8 0), 1, 1) := by kernel_rfl
theorem let_eq (c : Nat) {k : Nat} (h : k < 4) : ∃ hs : k < (⟨#[114, 100, 108, 117]⟩ : ByteArray).size, ((c : Int) == ((((⟨#[114, 100, 108, 117]⟩ : ByteArray)[k]'hs).toNat : Nat) : Int)) = decide (c = letN k) := by
  refine ⟨h, ?_⟩
  have hl : (((⟨#[114, 100, 108, 117]⟩ : ByteArray)[k]'h).toNat : Nat) = letN k := by
    match k, h with
    | 0, _ => rfl
    | 1, _ => rfl
    | 2, _ => rfl
    | 3, _ => rfl
  rw [hl, Bool.eq_iff_iff, beq_iff_eq, decide_eq_true_eq]
  omega
set_option maxRecDepth 5000 in
set_option maxHeartbeats 800000 in
theorem l04Way_any (c : Nat) (w : World) :
    Calls Try.prog 143 #[.int .u8 c] w fun e w' => e = .returned (.int .i64 (wayI c)) ∧ w.Ext w' := by
  have HWN : Hid ((∀ j, j < 4 → c ≠ letN j) → wayI c = -1) := fun h => by
    unfold wayI
    have h0 : c ≠ 114 := h 0 (by omega)
    have h1 : c ≠ 100 := h 1 (by omega)
    have h2 : c ≠ 108 := h 2 (by omega)
    have h3 : c ≠ 117 := h 3 (by omega)
    rw [if_neg h0, if_neg h1, if_neg h2, if_neg h3]
  have HWY : Hid (∀ k, k < 4 → c = letN k → wayI c = k) := fun k hk h => by rw [h]; exact wayI_let hk
  generalize wayI c = t at *
  go_enter Try.func143, Try.ntmps143
  go_wp2
  go_loopw [3] (fun i wr => ∃ k : Nat, k ≤ 4 ∧ i = .int .i64 k ∧ Hid (∀ j, j < k → c ≠ letN j) ∧ w.Ext wr) (fun i _ => 4 - (intOf i).toNat)
  case atStart => exact ⟨0, Nat.zero_le _, rfl, fun j hj => by omega, .refl _⟩
  case round =>
    obtain ⟨k, hk, rfl, HK, hx⟩ := hrel
    have hk0 : (0 : Int) ≤ (k : Int) := by omega
    by_cases hlt : k < 4
    · have hlt' : (k : Int) < 4 := by omega
      have HN : Hid (c ≠ letN k → ∀ j, j < k + 1 → c ≠ letN j) := fun h j hj => by
        by_cases e : j = k
        · rw [e]; exact h
        · exact HK.out j (by omega)
      have HT := Lib.hid (HWY.out k hlt)
      clear HK HWN
      obtain ⟨hs, hbq⟩ := let_eq c hlt
      by_cases e : c = letN k
      · have HT2 := Lib.hid (HT.out e)
        rw [decide_eq_true e] at hbq
        clear HT HN e
        go_wp2
        go_ret
        exact ⟨ret_int HT2.out.symm, hx⟩
      · have HN2 := Lib.hid (HN.out e)
        rw [decide_eq_false e] at hbq
        clear HT HN e
        go_wp2
        go_roundw
        case rel => exact ⟨k + 1, by omega, by go_num, HN2, hx⟩
        case measure => simp [intOf]; omega
    · have : k = 4 := by omega
      subst this
      have HT2 := Lib.hid (HWN.out HK.out)
      clear HWN HK
      go_wp2
      go_ret
      exact ⟨ret_int HT2.out.symm, hx⟩
set_option maxHeartbeats 400000 in
theorem l04X_any (k : Nat) (w : World) (hk : k < 4) : Calls Try.prog 144 #[.int .i64 k] w fun e w' => e = .returned (.int .i64 (dX k)) ∧ w.Ext w' := by
  have h4 : k = 0 ∨ k = 1 ∨ k = 2 ∨ k = 3 := by omega
  rcases h4 with rfl | rfl | rfl | rfl
  all_goals
    go_enter Try.func144, Try.ntmps144
    go_wp2
    go_ret
    exact ⟨rfl, .refl _⟩
set_option maxHeartbeats 400000 in
theorem l04Y_any (k : Nat) (w : World) (hk : k < 4) : Calls Try.prog 145 #[.int .i64 k] w fun e w' => e = .returned (.int .i64 (dY k)) ∧ w.Ext w' := by
  have h4 : k = 0 ∨ k = 1 ∨ k = 2 ∨ k = 3 := by omega
  rcases h4 with rfl | rfl | rfl | rfl
  all_goals
    go_enter Try.func145, Try.ntmps145
    go_wp2
    go_ret
    exact ⟨rfl, .refl _⟩
set_option maxRecDepth 5000 in
set_option maxHeartbeats 1600000 in
theorem l04Can_any (p : Nat) (a : Option Addr) (c : Nat) (ss : List ByteArray) (x y : Int) (k : Nat) (w : World) (he : Even ss) (hn : ss.length ≤ 1048576) (hw : picW ss ≤ 1048576) (hp : w.cell? ⟨p, 0, none⟩ = some (.slice a ss.length c)) (hm : RowS w a ss)
    (hx : -1000 ≤ x ∧ x ≤ 1000) (hy : -1000 ≤ y ∧ y ≤ 1000) (hk : k < 4) (t : Bool) (ht : canB (pxl (picW ss) ss.length (picL ss)) x y k = t) :
    Calls Try.prog 205 #[.pointer (some ⟨p, 0, none⟩), .agg #[.int .i64 x, .int .i64 y], .int .i64 k] w fun e w' => e = .returned (.bool t) ∧ w.Ext w' := by
  obtain ⟨W0, hW0⟩ : ∃ W0, W0 = w.alloc (.cells #[.int .i64 x, .int .i64 y] 67) := ⟨_, rfl⟩
  have hx0 : w.Ext W0 := by rw [hW0]; repeat (first | exact World.Ext.refl _ | exact ⟨_, rfl⟩ | assumption | refine World.Ext.over ?_ _ | refine World.Ext.drewN ?_ _ | refine World.Ext.drew ?_ | refine World.Ext.alloc ?_ _ | refine World.Ext.setCell ?_ (by simp) _)
  have c0 : W0.cell? ⟨w.heap.size, 0, none⟩ = some (.int .i64 x) := by rw [hW0]; simp [go_sem]
  have c1 : W0.cell? ⟨w.heap.size, 1, none⟩ = some (.int .i64 y) := by rw [hW0]; simp [go_sem]
  have l0 := World.block_lt_of_cell? _ _ c0
  have HBL : Hid (∀ w', W0.Ext w' → ∀ (i j : Int) t, pxl (picW ss) ss.length (picL ss) i j = t → Calls Try.prog 130 #[.pointer (some ⟨p, 0, none⟩), .int .i64 i, .int .i64 j] w' fun e w'' => e = .returned (.bool t) ∧ w'.Ext w'') := fun w' hx i j t ht =>
    l01Black_any p a c ss _ _ w' he hn hw ((hx0.trans hx).cell hp) (hm.ext (hx0.trans hx)) _ ht
  have HX0 := Lib.hid hx0
  obtain ⟨hxa, hxb⟩ := hx
  obtain ⟨hya, hyb⟩ := hy
  have HT := Lib.hid ht
  clear ht hp hm he hn hw hx0
  generalize pxl (picW ss) ss.length (picL ss) = f at *
  have h4 : k = 0 ∨ k = 1 ∨ k = 2 ∨ k = 3 := by omega
  rcases h4 with rfl | rfl | rfl | rfl
  · have HT2 : Hid ((f x y && !f x (y - 1)) = t) := HT.out
    clear HT hk
    cases h1 : f x y
    · have HTF : Hid (t = false) := by show _ = _; rw [← HT2.out, h1]; rfl
      have HC := Lib.hid (HBL.out W0 (.refl _) _ _ _ h1)
      clear HBL HT2 h1
      go_enter Try.func205, Try.ntmps205
      go_wp2_with fail
      rw [← hW0]
      clear hW0
      refine HC.out.mono ?_
      rintro e w1 ⟨rfl, hx1⟩
      have HX1 := Lib.hid (HX0.out.trans hx1)
      clear hx1 c0 c1 l0
      go_wp2
      go_ret
      exact ⟨ret_bool HTF.out.symm, HX1.out⟩
    · cases h2 : f x (y - 1)
      all_goals
        have HTF := HT2
        rw [h1, h2] at HTF
        have HTF : Hid (t = _) := HTF.out.symm
        have HC := Lib.hid (HBL.out W0 (.refl _) _ _ _ h1)
        have HC2 := Lib.hid (fun w' hx => HBL.out w' hx _ _ _ h2)
        clear HBL HT2 h1 h2
        go_enter Try.func205, Try.ntmps205
        go_wp2_with fail
        rw [← hW0]
        clear hW0
        refine HC.out.mono ?_
        rintro e w1 ⟨rfl, hx1⟩
        have HX1 := Lib.hid hx1
        clear hx1 c0 c1 l0
        go_wp2_with fail
        refine (HC2.out w1 HX1.out).mono ?_
        rintro e w2 ⟨rfl, hx2⟩
        have HX2 := Lib.hid (HX0.out.trans (HX1.out.trans hx2))
        clear hx2
        go_wp2
        go_ret
        exact ⟨ret_bool HTF.out.symm, HX2.out⟩
  · have HT2 : Hid ((f (x - 1) y && !f x y) = t) := HT.out
    clear HT hk
    cases h1 : f (x - 1) y
    · have HTF : Hid (t = false) := by show _ = _; rw [← HT2.out, h1]; rfl
      have HC := Lib.hid (HBL.out W0 (.refl _) _ _ _ h1)
      clear HBL HT2 h1
      go_enter Try.func205, Try.ntmps205
      go_wp2_with fail
      rw [← hW0]
      clear hW0
      refine HC.out.mono ?_
      rintro e w1 ⟨rfl, hx1⟩
      have HX1 := Lib.hid (HX0.out.trans hx1)
      clear hx1 c0 c1 l0
      go_wp2
      go_ret
      exact ⟨ret_bool HTF.out.symm, HX1.out⟩
    · cases h2 : f x y
      all_goals
        have HTF := HT2
        rw [h1, h2] at HTF
        have HTF : Hid (t = _) := HTF.out.symm
        have HC := Lib.hid (HBL.out W0 (.refl _) _ _ _ h1)
        have HC2 := Lib.hid (fun w' hx => HBL.out w' hx _ _ _ h2)
        clear HBL HT2 h1 h2
        go_enter Try.func205, Try.ntmps205
        go_wp2_with fail
        rw [← hW0]
        clear hW0
        refine HC.out.mono ?_
        rintro e w1 ⟨rfl, hx1⟩
        have HX1 := Lib.hid hx1
        clear hx1 c0 c1 l0
        go_wp2_with fail
        refine (HC2.out w1 HX1.out).mono ?_
        rintro e w2 ⟨rfl, hx2⟩
        have HX2 := Lib.hid (HX0.out.trans (HX1.out.trans hx2))
        clear hx2
        go_wp2
        go_ret
        exact ⟨ret_bool HTF.out.symm, HX2.out⟩
  · have HT2 : Hid ((f (x - 1) (y - 1) && !f (x - 1) y) = t) := HT.out
    clear HT hk
    cases h1 : f (x - 1) (y - 1)
    · have HTF : Hid (t = false) := by show _ = _; rw [← HT2.out, h1]; rfl
      have HC := Lib.hid (HBL.out W0 (.refl _) _ _ _ h1)
      clear HBL HT2 h1
      go_enter Try.func205, Try.ntmps205
      go_wp2_with fail
      rw [← hW0]
      clear hW0
      refine HC.out.mono ?_
      rintro e w1 ⟨rfl, hx1⟩
      have HX1 := Lib.hid (HX0.out.trans hx1)
      clear hx1 c0 c1 l0
      go_wp2
      go_ret
      exact ⟨ret_bool HTF.out.symm, HX1.out⟩
    · cases h2 : f (x - 1) y
      all_goals
        have HTF := HT2
        rw [h1, h2] at HTF
        have HTF : Hid (t = _) := HTF.out.symm
        have HC := Lib.hid (HBL.out W0 (.refl _) _ _ _ h1)
        have HC2 := Lib.hid (fun w' hx => HBL.out w' hx _ _ _ h2)
        clear HBL HT2 h1 h2
        go_enter Try.func205, Try.ntmps205
        go_wp2_with fail
        rw [← hW0]
        clear hW0
        refine HC.out.mono ?_
        rintro e w1 ⟨rfl, hx1⟩
        have HX1 := Lib.hid hx1
        clear hx1 c0 c1 l0
        go_wp2_with fail
        refine (HC2.out w1 HX1.out).mono ?_
        rintro e w2 ⟨rfl, hx2⟩
        have HX2 := Lib.hid (HX0.out.trans (HX1.out.trans hx2))
        clear hx2
        go_wp2
        go_ret
        exact ⟨ret_bool HTF.out.symm, HX2.out⟩
  · have HT2 : Hid ((f x (y - 1) && !f (x - 1) (y - 1)) = t) := HT.out
    clear HT hk
    cases h1 : f x (y - 1)
    · have HTF : Hid (t = false) := by show _ = _; rw [← HT2.out, h1]; rfl
      have HC := Lib.hid (HBL.out W0 (.refl _) _ _ _ h1)
      clear HBL HT2 h1
      go_enter Try.func205, Try.ntmps205
      go_wp2_with fail
      rw [← hW0]
      clear hW0
      refine HC.out.mono ?_
      rintro e w1 ⟨rfl, hx1⟩
      have HX1 := Lib.hid (HX0.out.trans hx1)
      clear hx1 c0 c1 l0
      go_wp2
      go_ret
      exact ⟨ret_bool HTF.out.symm, HX1.out⟩
    · cases h2 : f (x - 1) (y - 1)
      all_goals
        have HTF := HT2
        rw [h1, h2] at HTF
        have HTF : Hid (t = _) := HTF.out.symm
        have HC := Lib.hid (HBL.out W0 (.refl _) _ _ _ h1)
        have HC2 := Lib.hid (fun w' hx => HBL.out w' hx _ _ _ h2)
        clear HBL HT2 h1 h2
        go_enter Try.func205, Try.ntmps205
        go_wp2_with fail
        rw [← hW0]
        clear hW0
        refine HC.out.mono ?_
        rintro e w1 ⟨rfl, hx1⟩
        have HX1 := Lib.hid hx1
        clear hx1 c0 c1 l0
        go_wp2_with fail
        refine (HC2.out w1 HX1.out).mono ?_
        rintro e w2 ⟨rfl, hx2⟩
        have HX2 := Lib.hid (HX0.out.trans (HX1.out.trans hx2))
        clear hx2
        go_wp2
        go_ret
        exact ⟨ret_bool HTF.out.symm, HX2.out⟩
end Go.Proofs.Ytahhnjoeaodcjaa
