/- Grey pictures: the small functions of both sides. -/
import Derived.Test.YtkpgelhmeokemaaGreatDoorGreyP
import Derived.Test.YtkpgelhmeokemaaGreatDoorArnd
import Derived.Test.YtkpgelhmeokemaaGreatDoorCmpF
import Derived.Test.YtkpgelhmeokemaaGreatDoorLMat
namespace Go.Proofs.YtkpgelhmeokemaaGreatDoor
open Go Go.RowKit
theorem tableOk_spec {m : List (List Int)} {most : Int} (h : tableOk m most = true) : 1 ≤ m.length ∧ m.length ≤ 16 ∧ 1 ≤ (m.getD 0 []).length ∧ (m.getD 0 []).length ≤ 16 ∧
    (∀ r, r < m.length → (m.getD r []).length = (m.getD 0 []).length) ∧ ∀ r i, r < m.length → i < (m.getD r []).length → 0 ≤ (m.getD r []).getD i 0 ∧ (m.getD r []).getD i 0 ≤ most := by
  unfold tableOk at h
  rw [Bool.and_eq_true, Bool.and_eq_true, inB_true, inB_true] at h
  obtain ⟨⟨h1, h2⟩, h3⟩ := h
  rw [all_getD (d := [])] at h3
  refine ⟨by omega, by omega, by omega, by omega, fun r hr => ?_, fun r i hr hi => ?_⟩
  · have := h3 r hr
    unfold rowOk at this
    rw [Bool.and_eq_true, decide_eq_true_eq] at this
    exact this.1
  · have := h3 r hr
    unfold rowOk at this
    rw [Bool.and_eq_true, all_getD (d := 0)] at this
    exact inB_true.1 (this.2 i hi)
theorem flat_len (W : Nat) : ∀ m : List (List Int), (∀ r, r < m.length → (m.getD r []).length = W) → m.flatten.length = W * m.length
  | [], _ => by simp
  | x :: m, h => by
    have h0 : x.length = W := by simpa using h 0 (by simp)
    have ih := flat_len W m fun r hr => by simpa using h (r + 1) (by simpa using hr)
    rw [List.flatten_cons, List.length_append, ih, h0, List.length_cons, Nat.mul_succ, Nat.add_comm]
theorem flat_at (W : Nat) : ∀ (m : List (List Int)) (y x : Nat), (∀ r, r < m.length → (m.getD r []).length = W) → y < m.length → x < W → m.flatten.getD (y * W + x) 0 = (m.getD y []).getD x 0
  | [], y, x, _, h, _ => by simp at h
  | r0 :: m, 0, x, h, _, hx => by
    have h0 : r0.length = W := by simpa using h 0 (by simp)
    rw [List.flatten_cons, List.getD_eq_getElem?_getD, List.getElem?_append_left (by omega)]
    simp [List.getD_eq_getElem?_getD]
  | r0 :: m, y + 1, x, h, hy, hx => by
    have h0 : r0.length = W := by simpa using h 0 (by simp)
    have ih := flat_at W m y x (fun r hr => by simpa using h (r + 1) (by simpa using hr)) (by simpa using hy) hx
    have e : (y + 1) * W + x = r0.length + (y * W + x) := by rw [h0, Nat.succ_mul]; omega
    rw [List.flatten_cons, List.getD_eq_getElem?_getD, e, List.getElem?_append_right (by omega), Nat.add_sub_cancel_left, ← List.getD_eq_getElem?_getD, ih]
    simp
/-- The pixels that a threshold tells. -/
def thrG (m : List (List Int)) (level : Int) (x y : Nat) : Bool := decide (level ≤ (m.getD y []).getD x 0)
theorem tableOk_not (m : List (List Int)) (most : Int) : tableOk m most = (sizeB (m.getD 0 []).length m.length && !m.any (rowBad (m.getD 0 []).length most)) := by
  have : (m.any (rowBad (m.getD 0 []).length most)) = !m.all (rowOk (m.getD 0 []).length most) := by
    rw [List.not_all_eq_any_not]
    congr 1
    funext r
    exact rowBad_not _ _ _
  rw [this, Bool.not_not]
  unfold tableOk sizeB
  congr 1
  exact Bool.and_comm _ _
/-- A table out of a list of rows. -/
def flG (W : Nat) (l : List Int) (x y : Nat) : Int := l.getD (y * W + x) 0
def grl (W H : Nat) (l : List Int) : List (List Int) := grd W H (flG W l)
theorem grl_len (W H : Nat) (l : List Int) : (grl W H l).length = H := grd_len _ _ _
theorem grl_row {W H : Nat} {l : List Int} {y : Nat} (h : y < H) : ((grl W H l).getD y []).length = W := by
  unfold grl
  rw [grd_row h, grdRow_len]
theorem grl_at {W H : Nat} {l : List Int} {x y : Nat} (hx : x < W) (hy : y < H) : ((grl W H l).getD y []).getD x 0 = l.getD (y * W + x) 0 := by
  unfold grl
  rw [grd_row hy, grdRow_at hx]
  rfl
theorem grl_set {W H : Nat} {l : List Int} {x y : Nat} (hx : x < W) (hy : y < H) (hl : l.length = H * W) (v : Int) : (grl W H l).set y (((grl W H l).getD y []).set x v) = grl W H (l.set (y * W + x) v) := by
  have hk : y * W + x < l.length := by
    have := Nat.mul_le_mul_right W (show y + 1 ≤ H by omega)
    rw [Nat.succ_mul] at this
    omega
  have hW : 0 < W := by omega
  apply List.ext_getElem?
  intro r
  rw [List.getElem?_set, grl_len]
  by_cases hr : r < H
  · have e1 : ∀ m : List (List Int), r < m.length → m[r]? = some (m.getD r []) := fun m hm => by rw [List.getD_eq_getElem?_getD, List.getElem?_eq_getElem hm]; rfl
    rw [e1 (grl W H (l.set (y * W + x) v)) (by rw [grl_len]; exact hr)]
    have e2 : ∀ (m : List Int) (i : Nat), i < m.length → m[i]? = some (m.getD i 0) := fun m i hm => by rw [List.getD_eq_getElem?_getD, List.getElem?_eq_getElem hm]; rfl
    by_cases he : y = r
    · subst he
      rw [if_pos rfl, if_pos hy]
      congr 1
      apply List.ext_getElem?
      intro i
      rw [List.getElem?_set, grl_row hy]
      by_cases hi : i < W
      · rw [e2 _ i (by rw [grl_row hy]; exact hi), e2 _ i (by rw [grl_row hy]; exact hi), grl_at hi hy, grl_at hi hy, getD_set _ _ _ _ hk]
        by_cases hxi : x = i
        · subst hxi
          rw [if_pos rfl, if_pos hi, if_pos rfl]
        · rw [if_neg hxi, if_neg (by omega)]
      · rw [List.getElem?_eq_none (by rw [grl_row hy]; omega), List.getElem?_eq_none (by rw [grl_row hy]; omega)]
        split <;> first | omega | rfl
    · rw [if_neg he, e1 (grl W H l) (by rw [grl_len]; exact hr)]
      congr 1
      apply List.ext_getElem?
      intro i
      by_cases hi : i < W
      · rw [e2 _ i (by rw [grl_row hr]; exact hi), e2 _ i (by rw [grl_row hr]; exact hi), grl_at hi hr, grl_at hi hr, getD_set _ _ _ _ hk, if_neg]
        intro e
        have h1 := (mod_atI (y := y) hx).2
        have h2 := (mod_atI (y := r) hi).2
        rw [← e, h2] at h1
        omega
      · rw [List.getElem?_eq_none (by rw [grl_row hr]; omega), List.getElem?_eq_none (by rw [grl_row hr]; omega)]
  · have e3 : ∀ m : List (List Int), m.length = H → m[r]? = none := fun m hm => List.getElem?_eq_none (by omega)
    rw [e3 _ (grl_len _ _ _), e3 _ (grl_len _ _ _)]
    split <;> first | omega | rfl
/-- A valid table is the table of its list. -/
theorem grl_flat {W : Nat} {m : List (List Int)} (h : ∀ r, r < m.length → (m.getD r []).length = W) : grl W m.length m.flatten = m := by
  apply List.ext_getElem?
  intro r
  by_cases hr : r < m.length
  · have e1 : ∀ m' : List (List Int), r < m'.length → m'[r]? = some (m'.getD r []) := fun m' hm => by rw [List.getD_eq_getElem?_getD, List.getElem?_eq_getElem hm]; rfl
    have e2 : ∀ (m : List Int) (i : Nat), i < m.length → m[i]? = some (m.getD i 0) := fun m i hm => by rw [List.getD_eq_getElem?_getD, List.getElem?_eq_getElem hm]; rfl
    rw [e1 _ (by rw [grl_len]; exact hr), e1 _ hr]
    congr 1
    apply List.ext_getElem?
    intro i
    by_cases hi : i < W
    · rw [e2 _ i (by rw [grl_row hr]; exact hi), e2 _ i (by rw [h r hr]; exact hi), grl_at hi hr, flat_at W m r i h hr hi]
    · rw [List.getElem?_eq_none (by rw [grl_row hr]; omega), List.getElem?_eq_none (by rw [h r hr]; omega)]
  · rw [List.getElem?_eq_none (by rw [grl_len]; omega), List.getElem?_eq_none (by omega)]
/-- A number is stored into an own table. -/
theorem OwnMat.put {lo hi : Nat} {w : World} {a : Option Addr} {A : Nat → Option Addr} {C : Nat → Nat} {m : List (List Int)} (h : OwnMat lo hi w a A C m) {y x b o : Nat} (hy : y < m.length) (hx : x < (m.getD y []).length) (hA : A y = some ⟨b, o, Option.none⟩) (v : Int) :
    OwnMat lo hi (w.setCell ⟨b, o + x, Option.none⟩ (.int .i64 v)) a A C (m.set y ((m.getD y []).set x v)) := by
  have getr : ∀ r, (m.set y ((m.getD y []).set x v)).getD r [] = if r = y then (m.getD y []).set x v else m.getD r [] := fun r => by
    rw [List.getD_eq_getElem?_getD, List.getElem?_set]
    by_cases e : y = r
    · subst e
      simp [hy]
    · rw [if_neg e, if_neg (Ne.symm e), ← List.getD_eq_getElem?_getD]
  have lenr : ∀ r, ((m.set y ((m.getD y []).set x v)).getD r []).length = (m.getD r []).length := fun r => by
    rw [getr]
    split
    · rename_i e; rw [List.length_set, e]
    · rfl
  have hW : Wrote (fun k => k = b) w (w.setCell ⟨b, o + x, Option.none⟩ (.int .i64 v)) := Wrote.setCell (S := fun k => k = b) (Wrote.refl _ _) (p := ⟨b, o + x, Option.none⟩) rfl _
  refine ⟨fun r hr => ?_, fun r hr => ?_, fun r s b1 o1 b2 o2 hr hs => h.apart r s b1 o1 b2 o2 (by simpa using hr) (by simpa using hs)⟩
  · rw [List.length_set] at hr
    obtain ⟨b0, o0, h1, h2, h3, h4, h5⟩ := h.outer r hr
    refine ⟨b0, o0, h1, h2, h3, ?_, fun s b' o' hs hB => h5 s b' o' (by simpa using hs) hB⟩
    rw [lenr]
    exact hW.cell h4 (by simp only; exact fun e => h5 y b o hy hA e.symm)
  · rw [List.length_set] at hr
    rw [getr]
    by_cases e : r = y
    · subst e
      rw [if_pos rfl]
      intro i hi
      rw [List.length_set] at hi
      obtain ⟨b1, o1, e1, q1, q2, q3, q4⟩ := h.rows r hr i hi
      rw [hA] at e1
      simp only [Option.some.injEq, Addr.mk.injEq, and_true] at e1
      obtain ⟨rfl, rfl⟩ := e1
      refine ⟨b, o, hA, q1, q2, ?_, by rw [frozen_set]; exact q4⟩
      by_cases ei : i = x
      · subst ei
        rw [cell_set_same q3, getD_set _ _ _ _ hx, if_pos rfl]
      · rw [cell_set_other (by omega), q3, getD_set _ _ _ _ hx, if_neg ei]
    · rw [if_neg e]
      intro i hi
      obtain ⟨b1, o1, e1, q1, q2, q3, q4⟩ := h.rows r hr i hi
      have hne : b1 ≠ b := h.apart r y b1 o1 b o hr hy e e1 hA
      exact ⟨b1, o1, e1, q1, q2, hW.cell q3 (by simpa using hne), by rw [frozen_set]; exact q4⟩
/-- A grey picture is returned, in new memory. -/
def GreyRet (w : World) (m : List (List Int)) (e : Ending) (w' : World) : Prop := ∃ a c A C, e = .returned (.agg #[.slice a m.length c]) ∧ w.Ext w' ∧ OwnMat w.heap.size w'.heap.size w' a A C m
def GreyRet2 (w : World) (m : List (List Int)) (ok : Bool) (e : Ending) (w' : World) : Prop := ∃ a c A C, e = .returned (.tuple #[.agg #[.slice a m.length c], .bool ok]) ∧ w.Ext w' ∧ OwnMat w.heap.size w'.heap.size w' a A C m
theorem Res.storeM {w W1 : World} {p : Nat} {T : TypeId} {v0 : Value} {lo : Nat} {a : Option Addr} {A : Nat → Option Addr} {C : Nat → Nat} {m : List (List Int)} (v : Value) (hX : w.Ext W1) (hp : w.heap.size ≤ p) (hone : One W1 p T v0) (hlo : p < lo) (ho : OwnMat lo W1.heap.size W1 a A C m) :
    W1.cell? ⟨p, 0, none⟩ = some v0 ∧ W1.frozen? ⟨p, 0, none⟩ = false ∧ (W1.setCell ⟨p, 0, none⟩ v).cell? ⟨p, 0, none⟩ = some v ∧ Hid (w.Ext (W1.setCell ⟨p, 0, none⟩ v) ∧ OwnMat w.heap.size (W1.setCell ⟨p, 0, none⟩ v).heap.size (W1.setCell ⟨p, 0, none⟩ v) a A C m) :=
  ⟨hone.cell, hone.free, (hone.set v).cell, hX.setCell (p := ⟨p, 0, none⟩) hp v, (ho.wrote (Wrote.setCell (S := fun k => k = p) (Wrote.refl _ _) (p := ⟨p, 0, none⟩) rfl v) fun k h1 _ e => by omega).mono (by omega) (by simp)⟩
set_option maxRecDepth 5000 in
set_option maxHeartbeats 1000000 in
theorem rowsOk_any (a : Option Addr) (c : Nat) (A : Nat → Option Addr) (C : Nat → Nat) (m : List (List Int)) (most : Int) (w : World) (hn : m.length ≤ 1048576) (hrow : ∀ r, (m.getD r []).length ≤ 1048576) (hm : MatAt w a A C m) (t : Bool) (ht : tableOk m most = t) :
    Calls Tryz.prog 35 #[.slice a m.length c, .int .i64 most] w fun e w' => e = .returned (.bool t) ∧ w.Ext w' := by
  subst ht
  have HM := Lib.hid hm
  have HR := Lib.hid hrow
  have HN := Lib.hid hn
  have hn2 : m.length ≤ 4611686018427387904 := by omega
  clear hm hrow hn
  by_cases hpos : 0 < m.length
  · have hpos' : (0 : Int) < (m.length : Int) := by omega
    have hne : ((m.length : Int) == 0) = false := by rw [beq_eq_false_iff_ne]; omega
    obtain ⟨⟨b0, o0, rfl, hc0⟩, _⟩ := HM.out 0 hpos
    rw [Nat.add_zero] at hc0
    have hblt : b0 < w.heap.size := World.block_lt_of_cell? w _ hc0
    have hl0 := HR.out 0
    have HV := Lib.hid (tableOk_not m most)
    obtain ⟨W, hW⟩ : ∃ W, W = (m.getD 0 []).length := ⟨_, rfl⟩
    rw [← hW] at hc0 hl0 HV
    have HW := Lib.hid hW
    have hWm : W ≤ 4611686018427387904 := by omega
    have HPOS := Lib.hid hpos
    clear hW hl0 hpos
    cases hs : sizeB W m.length
    · have hv : tableOk m most = false := by rw [HV.out, hs]; rfl
      rw [hv]
      have HS := Lib.hid hs
      clear hv hs HV
      go_enter Tryz.func35, Tryz.ntmps35
      go_wp2_with fail
      refine wp_region_over_lit (by kernel_rfl) (by kernel_rfl) ?_; (repeat (go_big_quiet_step ((go_at_call 53; exact Calls.over_of (sizeOk_any _ _ _ _ HS.out))))); refine wpQuiet_nil ?_; rintro _ ⟨x1, rfl⟩
      go_wp2
      go_ret
      refine ⟨rfl, ?_⟩
      repeat (first | exact World.Ext.refl _ | exact ⟨_, rfl⟩ | assumption | refine World.Ext.over ?_ _ | refine World.Ext.drewN ?_ _ | refine World.Ext.drew ?_ | refine World.Ext.alloc ?_ _ | refine World.Ext.setCell ?_ (by simp) _)
    · have HS := Lib.hid hs
      rw [hs, Bool.true_and] at HV
      clear hs
      go_enter Tryz.func35, Tryz.ntmps35
      go_wp2_with fail
      refine wp_region_over_lit (by kernel_rfl) (by kernel_rfl) ?_; (repeat (go_big_quiet_step ((go_at_call 53; exact Calls.over_of (sizeOk_any _ _ _ _ HS.out))))); refine wpQuiet_nil ?_; rintro _ ⟨x1, rfl⟩
      have h2 : World.cell? (((w.alloc (.cells #[.slice (some ⟨b0, o0, none⟩) m.length c] 24)).alloc (.cells #[.int .i64 most] 2)).over x1) ⟨w.heap.size, 0, none⟩ = some (.slice (some ⟨b0, o0, none⟩) m.length c) := by simp [go_sem]
      have h3 : World.cell? (((w.alloc (.cells #[.slice (some ⟨b0, o0, none⟩) m.length c] 24)).alloc (.cells #[.int .i64 most] 2)).over x1) ⟨w.heap.size + 1, 0, none⟩ = some (.int .i64 most) := by simp [go_sem]
      have hx : w.Ext (((w.alloc (.cells #[.slice (some ⟨b0, o0, none⟩) m.length c] 24)).alloc (.cells #[.int .i64 most] 2)).over x1) := by repeat (first | exact World.Ext.refl _ | exact ⟨_, rfl⟩ | assumption | refine World.Ext.over ?_ _ | refine World.Ext.drewN ?_ _ | refine World.Ext.drew ?_ | refine World.Ext.alloc ?_ _ | refine World.Ext.setCell ?_ (by simp) _)
      have hcall := containsFuncR_any (some ⟨b0, o0, none⟩) c 55 (.pointer (some ⟨w.heap.size, 0, none⟩)) (.pointer (some ⟨w.heap.size + 1, 0, none⟩)) A C m (rowBad W most) _ HN.out (HM.out.ext hx) enters_rowsOk1
        (fun w' hx' i hi => by
          rw [HW.out]
          exact rowsOk1_any w.heap.size (w.heap.size + 1) most _ c A C m (A i) (C i) (m.getD i []) w' HPOS.out (HR.out i) HR.out (hx'.cell h2) (hx'.cell h3) ((HM.out.ext hx).ext hx') (((HM.out.ext hx).ext hx' i hi).2)) _ rfl
      have HC := Lib.hid hcall
      clear hcall h2 h3 hx
      go_wp2_with fail
      refine HC.out.mono ?_
      rintro e w' ⟨rfl, x2, rfl⟩
      go_wp2
      go_ret
      refine ⟨ret_bool HV.out.symm, ?_⟩
      repeat (first | exact World.Ext.refl _ | exact ⟨_, rfl⟩ | assumption | refine World.Ext.over ?_ _ | refine World.Ext.drewN ?_ _ | refine World.Ext.drew ?_ | refine World.Ext.alloc ?_ _ | refine World.Ext.setCell ?_ (by simp) _)
  · have hm0 : m = [] := by
      cases m with
      | nil => rfl
      | cons x y => simp at hpos
    subst hm0
    have hv : tableOk [] most = false := by simp [tableOk, inB]
    rw [hv]
    clear hv
    go_enter Tryz.func35, Tryz.ntmps35
    go_wp2_with fail
    refine wp_region_over_lit (by kernel_rfl) (by kernel_rfl) ?_; (repeat (go_big_quiet_step (fail))); refine wpQuiet_nil ?_; rintro _ ⟨x1, rfl⟩
    go_wp2
    go_ret
    refine ⟨rfl, ?_⟩
    repeat (first | exact World.Ext.refl _ | exact ⟨_, rfl⟩ | assumption | refine World.Ext.over ?_ _ | refine World.Ext.drewN ?_ _ | refine World.Ext.drew ?_ | refine World.Ext.alloc ?_ _ | refine World.Ext.setCell ?_ (by simp) _)
set_option maxHeartbeats 400000 in
theorem validGrey_any (a : Option Addr) (c : Nat) (A : Nat → Option Addr) (C : Nat → Nat) (m : List (List Int)) (w : World) (hn : m.length ≤ 1048576) (hrow : ∀ r, (m.getD r []).length ≤ 1048576) (hm : MatAt w a A C m) (t : Bool) (ht : tableOk m 99 = t) :
    Calls Tryz.prog 12 #[.agg #[.slice a m.length c]] w fun e w' => e = .returned (.bool t) ∧ w.Ext w' := by
  subst ht
  have HM := Lib.hid hm
  have HR := Lib.hid hrow
  have HN := Lib.hid hn
  clear hm hrow hn
  go_enter Tryz.func12, Tryz.ntmps12
  go_wp2_with (go_at_call 35; refine (rowsOk_any _ _ A C m _ _ HN.out HR.out (HM.out.ext (by repeat (first | exact World.Ext.refl _ | exact ⟨_, rfl⟩ | assumption | refine World.Ext.over ?_ _ | refine World.Ext.drewN ?_ _ | refine World.Ext.drew ?_ | refine World.Ext.alloc ?_ _ | refine World.Ext.setCell ?_ (by simp) _))) _ rfl).mono ?_; rintro e w' ⟨rfl, x1, rfl⟩)
  go_ret
  refine ⟨rfl, ?_⟩
  repeat (first | exact World.Ext.refl _ | exact ⟨_, rfl⟩ | assumption | refine World.Ext.over ?_ _ | refine World.Ext.drewN ?_ _ | refine World.Ext.drew ?_ | refine World.Ext.alloc ?_ _ | refine World.Ext.setCell ?_ (by simp) _)
set_option maxHeartbeats 400000 in
theorem sizes_any (p : Nat) (a : Option Addr) (c : Nat) (A : Nat → Option Addr) (C : Nat → Nat) (m : List (List Int)) (w : World) (hpos : 0 < m.length)
    (hp : w.cell? ⟨p, 0, none⟩ = some (.slice a m.length c)) (hm : MatAt w a A C m) :
    Calls Tryz.prog 40 #[.pointer (some ⟨p, 0, none⟩)] w fun e w' => e = .returned (.tuple #[.int .i64 (m.getD 0 []).length, .int .i64 m.length]) ∧ w.Ext w' := by
  obtain ⟨⟨b0, o0, rfl, hc0⟩, _⟩ := hm 0 hpos
  rw [Nat.add_zero] at hc0
  have hpos' : (0 : Int) < (m.length : Int) := by omega
  clear hm
  generalize m.getD 0 [] = q at *
  go_enter Tryz.func40, Tryz.ntmps40
  go_wp2_with fail
  refine wp_region_over_lit (by kernel_rfl) (by kernel_rfl) ?_; (repeat (go_big_quiet_step (fail))); refine wpQuiet_nil ?_; rintro _ ⟨x1, rfl⟩
  go_wp2
  go_ret2
  refine ⟨rfl, ?_⟩
  repeat (first | exact World.Ext.refl _ | exact ⟨_, rfl⟩ | assumption | refine World.Ext.over ?_ _ | refine World.Ext.drewN ?_ _ | refine World.Ext.drew ?_ | refine World.Ext.alloc ?_ _ | refine World.Ext.setCell ?_ (by simp) _)
set_option maxHeartbeats 400000 in
theorem gAt_any (p : Nat) (a : Option Addr) (c : Nat) (A : Nat → Option Addr) (C : Nat → Nat) (m : List (List Int)) (x y : Nat) (w : World) (hy : y < m.length) (hx : x < (m.getD y []).length) (_ : m.length ≤ 100000) (_ : (m.getD y []).length ≤ 100000)
    (hp : w.cell? ⟨p, 0, none⟩ = some (.slice a m.length c)) (hm : MatAt w a A C m) :
    Calls Tryz.prog 30 #[.pointer (some ⟨p, 0, none⟩), .agg #[.int .i64 x, .int .i64 y]] w fun e w' => e = .returned (.int .i64 ((m.getD y []).getD x 0)) ∧ w.Ext w' := by
  obtain ⟨⟨b0, o0, rfl, hc0⟩, hr⟩ := hm y hy
  have hlp := World.block_lt_of_cell? _ _ hp
  have hlc := World.block_lt_of_cell? _ _ hc0
  clear hm
  generalize m.getD y [] = q at *
  obtain ⟨b1, o1, hA, hc1⟩ := hr x hx
  have hld := World.block_lt_of_cell? _ _ hc1
  rw [hA] at hc0
  generalize q.getD x 0 = z at *
  have hy' : (y : Int) < (m.length : Int) := by omega
  have hx' : (x : Int) < (q.length : Int) := by omega
  have hx0 : (0 : Int) ≤ (x : Int) := by omega
  have hy0 : (0 : Int) ≤ (y : Int) := by omega
  clear hr hA
  go_enter Tryz.func30, Tryz.ntmps30
  go_wp2_with fail
  refine wp_region_over_lit (by kernel_rfl) (by kernel_rfl) ?_; (repeat (go_big_quiet_step (fail))); refine wpQuiet_nil ?_; rintro _ ⟨x1, rfl⟩
  go_wp2
  go_ret
  refine ⟨rfl, ?_⟩
  repeat (first | exact World.Ext.refl _ | exact ⟨_, rfl⟩ | assumption | refine World.Ext.over ?_ _ | refine World.Ext.drewN ?_ _ | refine World.Ext.drew ?_ | refine World.Ext.alloc ?_ _ | refine World.Ext.setCell ?_ (by simp) _)
theorem enters_gAt : Enters 30 := enters_of Tryz.func30 (by kernel_rfl) (by kernel_rfl)
def gridP (W H : Nat) : List (Int × Int) := (List.range (H * W)).map fun k => (((k % W : Nat) : Int), ((k / W : Nat) : Int))
theorem gridP_len (W H : Nat) : (gridP W H).length = H * W := by simp [gridP]
theorem gridP_at {W H k : Nat} (h : k < H * W) : (gridP W H).getD k (0, 0) = (((k % W : Nat) : Int), ((k / W : Nat) : Int)) := by
  unfold gridP
  rw [List.getD_eq_getElem?_getD, List.getElem?_map, List.getElem?_range h]
  rfl
theorem gridP_take {W H x y : Nat} (hx : x < W) (hy : y < H) : (gridP W H).take (y * W + (x + 1)) = (gridP W H).take (y * W + x) ++ [((x : Int), (y : Int))] := by
  have hk : y * W + x < H * W := by
    have := Nat.mul_le_mul_right W (show y + 1 ≤ H by omega)
    rw [Nat.succ_mul] at this
    omega
  have h := gridP_at (W := W) (H := H) hk
  rw [(mod_atI hx).1, (mod_atI hx).2, List.getD_eq_getElem?_getD, List.getElem?_eq_getElem (by rw [gridP_len]; exact hk)] at h
  rw [← Nat.add_assoc, List.take_succ_eq_append_getElem (by rw [gridP_len]; exact hk)]
  exact congrArg (fun z => _ ++ [z]) h
set_option maxHeartbeats 800000 in
theorem remade1F_any (p _q f : Nat) (caps : Array Value) (z : Int) (x y : Nat) (w : World) (he : Enters f) (hp : w.cell? ⟨p, 0, none⟩ = some (.func (.func f) #[] caps))
    (hf : Calls Tryz.prog f (#[] ++ #[.agg #[.int .i64 x, .int .i64 y]] ++ caps) w fun e w'' => e = .returned (.int .i64 z) ∧ w.Ext w'') :
    Calls Tryz.prog 46 #[.int .i64 x, .int .i64 y, .pointer (some ⟨p, 0, none⟩)] w fun e w' => e = .returned (.int .i64 z) ∧ w.Ext w' := by
  have HF := Lib.hid hf
  have hl := World.block_lt_of_cell? _ _ hp
  unfold Enters at he
  clear hf
  go_enter Tryz.func46, Tryz.ntmps46
  go_wp2_with fail
  refine HF.out.mono ?_
  rintro e w1 ⟨rfl, hx⟩
  have HX := Lib.hid hx
  clear hx
  go_wp2
  go_ret
  exact ⟨rfl, HX.out⟩
set_option maxHeartbeats 800000 in
theorem remade1M_any (p q f : Nat) (caps : Array Value) (z : Int) (x y : Nat) (w : World) (he : Enters f) (hp : w.cell? ⟨p, 0, none⟩ = some (.func (.func f) #[.pointer (some ⟨q, 0, none⟩)] caps))
    (hf : Calls Tryz.prog f (#[.pointer (some ⟨q, 0, none⟩)] ++ #[.agg #[.int .i64 x, .int .i64 y]] ++ caps) w fun e w'' => e = .returned (.int .i64 z) ∧ w.Ext w'') :
    Calls Tryz.prog 46 #[.int .i64 x, .int .i64 y, .pointer (some ⟨p, 0, none⟩)] w fun e w' => e = .returned (.int .i64 z) ∧ w.Ext w' := by
  have HF := Lib.hid hf
  have hl := World.block_lt_of_cell? _ _ hp
  unfold Enters at he
  clear hf
  go_enter Tryz.func46, Tryz.ntmps46
  go_wp2_with fail
  refine HF.out.mono ?_
  rintro e w1 ⟨rfl, hx⟩
  have HX := Lib.hid hx
  clear hx
  go_wp2
  go_ret
  exact ⟨rfl, HX.out⟩
theorem enters_remade1 : Enters 46 := enters_of Tryz.func46 (by kernel_rfl) (by kernel_rfl)
set_option maxRecDepth 5000 in
set_option maxHeartbeats 1600000 in
theorem remadeF_any (p _q : Nat) (a : Option Addr) (c : Nat) (A : Nat → Option Addr) (C : Nat → Nat) (m : List (List Int)) (f : Nat) (caps : Array Value) (g : Nat → Nat → Int) (w : World) (hpos : 0 < m.length) (hH : m.length ≤ 64) (hW : (m.getD 0 []).length ≤ 64) (he : Enters f)
    (hp : w.cell? ⟨p, 0, none⟩ = some (.slice a m.length c)) (hm : MatAt w a A C m)
    (hf : ∀ w', w.Ext w' → ∀ x y : Nat, x < (m.getD 0 []).length → y < m.length → Calls Tryz.prog f (#[] ++ #[.agg #[.int .i64 x, .int .i64 y]] ++ caps) w' fun e w'' => e = .returned (.int .i64 (g x y)) ∧ w'.Ext w'') :
    Calls Tryz.prog 28 #[.pointer (some ⟨p, 0, none⟩), .func (.func f) #[] caps] w (GreyRet w (grd (m.getD 0 []).length m.length g)) := by
  obtain ⟨W0, hW0⟩ : ∃ W0, W0 = (w.alloc (.cells #[.func (.func f) #[] caps] 64)).alloc (.cells #[.slice none 0 0] 26) := ⟨_, rfl⟩
  have hx0 : w.Ext W0 := by rw [hW0]; repeat (first | exact World.Ext.refl _ | exact ⟨_, rfl⟩ | assumption | refine World.Ext.over ?_ _ | refine World.Ext.drewN ?_ _ | refine World.Ext.drew ?_ | refine World.Ext.alloc ?_ _ | refine World.Ext.setCell ?_ (by simp) _)
  have d0 : W0.cell? ⟨w.heap.size, 0, none⟩ = some (.func (.func f) #[] caps) := by rw [hW0]; simp [go_sem]
  have hone : One W0 (w.heap.size + 1) 26 (.slice none 0 0) := by rw [hW0]; exact One.new _ _ _ _ (by simp)
  have HS := Lib.hid (sizes_any p a c A C m W0 hpos (hx0.cell hp) (hm.ext hx0))
  have HBK := Lib.hid (fun w' => blank_any (m.getD 0 []).length m.length w' hW hH)
  have HGR : Hid (∀ w' b ab l, W0.Ext w' → Img w' b ab (m.getD 0 []).length m.length l → Calls Tryz.prog 22 #[.pointer (some ⟨b, 0, none⟩), .func (.func 46) #[] #[.pointer (some ⟨w.heap.size, 0, none⟩)]] w' (MatRet w' (grd (m.getD 0 []).length m.length g))) := fun w' b ab l hx hI =>
    grid_any b ab _ _ _ l #[.pointer (some ⟨w.heap.size, 0, none⟩)] g w' hW hH hI enters_remade1 (fun w'' hx' x y h1 h2 => remade1F_any w.heap.size _q f caps (g x y) x y w'' he ((hx.trans hx').cell d0) (hf w'' (hx0.trans (hx.trans hx')) x y h1 h2))
  have HO := Lib.hid hone
  have HX0 := Lib.hid hx0
  have hrl := grd_len (m.getD 0 []).length m.length g
  have HRL := Lib.hid hrl
  clear hm hp hx0 hone hf d0 hrl
  generalize grd (m.getD 0 []).length m.length g = R at *
  generalize (m.getD 0 []).length = W at *
  generalize m.length = H at *
  go_enter Tryz.func28, Tryz.ntmps28
  go_wp2_with fail
  rw [← hW0]
  clear hW0
  refine HS.out.mono ?_
  rintro e w1 ⟨rfl, hx1⟩
  have HX1 := Lib.hid hx1
  clear hx1 HS
  go_wp2_with fail
  refine (HBK.out w1).mono ?_
  rintro e w2 ⟨b2, ab2, rfl, hx2, hi2, -, -⟩
  have HC := Lib.hid (HGR.out w2 b2 ab2 _ (HX1.out.trans hx2) hi2)
  have HX2 := Lib.hid (HX1.out.trans hx2)
  clear hx2 hi2 HX1 HBK HGR
  go_wp2_with fail
  refine HC.out.mono ?_
  rintro e w3 ⟨a3, c3, A3, C3, rfl, hx3, hm3⟩
  have hl3 : w.heap.size + 1 < w2.heap.size := Nat.lt_of_lt_of_le HO.out.lt HX2.out.size
  obtain ⟨r1, r2, r3, HR⟩ := Res.storeM (.slice a3 R.length c3) (HX0.out.trans (HX2.out.trans hx3)) (by omega) (HO.out.ext (HX2.out.trans hx3)) hl3 (hm3.mat (by decide))
  clear hx3 hm3 HC
  go_wp2
  exact bodyPost_ret (v := .agg #[.slice a3 R.length c3]) (by simp [results, Tryz.results28, go_sem, r3]) rfl ⟨a3, c3, A3, C3, rfl, HR.out.1, HR.out.2⟩
set_option maxRecDepth 5000 in
set_option maxHeartbeats 1600000 in
theorem remadeM_any (p q : Nat) (a : Option Addr) (c : Nat) (A : Nat → Option Addr) (C : Nat → Nat) (m : List (List Int)) (f : Nat) (caps : Array Value) (g : Nat → Nat → Int) (w : World) (hpos : 0 < m.length) (hH : m.length ≤ 64) (hW : (m.getD 0 []).length ≤ 64) (he : Enters f)
    (hp : w.cell? ⟨p, 0, none⟩ = some (.slice a m.length c)) (hm : MatAt w a A C m)
    (hf : ∀ w', w.Ext w' → ∀ x y : Nat, x < (m.getD 0 []).length → y < m.length → Calls Tryz.prog f (#[.pointer (some ⟨q, 0, none⟩)] ++ #[.agg #[.int .i64 x, .int .i64 y]] ++ caps) w' fun e w'' => e = .returned (.int .i64 (g x y)) ∧ w'.Ext w'') :
    Calls Tryz.prog 28 #[.pointer (some ⟨p, 0, none⟩), .func (.func f) #[.pointer (some ⟨q, 0, none⟩)] caps] w (GreyRet w (grd (m.getD 0 []).length m.length g)) := by
  obtain ⟨W0, hW0⟩ : ∃ W0, W0 = (w.alloc (.cells #[.func (.func f) #[.pointer (some ⟨q, 0, none⟩)] caps] 64)).alloc (.cells #[.slice none 0 0] 26) := ⟨_, rfl⟩
  have hx0 : w.Ext W0 := by rw [hW0]; repeat (first | exact World.Ext.refl _ | exact ⟨_, rfl⟩ | assumption | refine World.Ext.over ?_ _ | refine World.Ext.drewN ?_ _ | refine World.Ext.drew ?_ | refine World.Ext.alloc ?_ _ | refine World.Ext.setCell ?_ (by simp) _)
  have d0 : W0.cell? ⟨w.heap.size, 0, none⟩ = some (.func (.func f) #[.pointer (some ⟨q, 0, none⟩)] caps) := by rw [hW0]; simp [go_sem]
  have hone : One W0 (w.heap.size + 1) 26 (.slice none 0 0) := by rw [hW0]; exact One.new _ _ _ _ (by simp)
  have HS := Lib.hid (sizes_any p a c A C m W0 hpos (hx0.cell hp) (hm.ext hx0))
  have HBK := Lib.hid (fun w' => blank_any (m.getD 0 []).length m.length w' hW hH)
  have HGR : Hid (∀ w' b ab l, W0.Ext w' → Img w' b ab (m.getD 0 []).length m.length l → Calls Tryz.prog 22 #[.pointer (some ⟨b, 0, none⟩), .func (.func 46) #[] #[.pointer (some ⟨w.heap.size, 0, none⟩)]] w' (MatRet w' (grd (m.getD 0 []).length m.length g))) := fun w' b ab l hx hI =>
    grid_any b ab _ _ _ l #[.pointer (some ⟨w.heap.size, 0, none⟩)] g w' hW hH hI enters_remade1 (fun w'' hx' x y h1 h2 => remade1M_any w.heap.size q f caps (g x y) x y w'' he ((hx.trans hx').cell d0) (hf w'' (hx0.trans (hx.trans hx')) x y h1 h2))
  have HO := Lib.hid hone
  have HX0 := Lib.hid hx0
  have hrl := grd_len (m.getD 0 []).length m.length g
  have HRL := Lib.hid hrl
  clear hm hp hx0 hone hf d0 hrl
  generalize grd (m.getD 0 []).length m.length g = R at *
  generalize (m.getD 0 []).length = W at *
  generalize m.length = H at *
  go_enter Tryz.func28, Tryz.ntmps28
  go_wp2_with fail
  rw [← hW0]
  clear hW0
  refine HS.out.mono ?_
  rintro e w1 ⟨rfl, hx1⟩
  have HX1 := Lib.hid hx1
  clear hx1 HS
  go_wp2_with fail
  refine (HBK.out w1).mono ?_
  rintro e w2 ⟨b2, ab2, rfl, hx2, hi2, -, -⟩
  have HC := Lib.hid (HGR.out w2 b2 ab2 _ (HX1.out.trans hx2) hi2)
  have HX2 := Lib.hid (HX1.out.trans hx2)
  clear hx2 hi2 HX1 HBK HGR
  go_wp2_with fail
  refine HC.out.mono ?_
  rintro e w3 ⟨a3, c3, A3, C3, rfl, hx3, hm3⟩
  have hl3 : w.heap.size + 1 < w2.heap.size := Nat.lt_of_lt_of_le HO.out.lt HX2.out.size
  obtain ⟨r1, r2, r3, HR⟩ := Res.storeM (.slice a3 R.length c3) (HX0.out.trans (HX2.out.trans hx3)) (by omega) (HO.out.ext (HX2.out.trans hx3)) hl3 (hm3.mat (by decide))
  clear hx3 hm3 HC
  go_wp2
  exact bodyPost_ret (v := .agg #[.slice a3 R.length c3]) (by simp [results, Tryz.results28, go_sem, r3]) rfl ⟨a3, c3, A3, C3, rfl, HR.out.1, HR.out.2⟩
theorem slice_runI (g o c lo hi : Nat) (w : World) (M : Nat) (h1 : lo < hi) (h2 : hi ≤ c) (L U : Int) (hL : L = lo) (hU : U = hi) :
    (Instr.sliceAt 57 (.slice (some ⟨g, o, none⟩) M c) (some (.int .i64 L)) (some (.int .i64 U)) none).run Tryz.prog w = .ok (.slice (some ⟨g, o + lo, none⟩) (hi - lo) (c - lo)) w := by
  subst hL hU
  obtain ⟨i0, hi0, hz0, hz1, hz2⟩ := info_parts Tryz.infoI64
  have he : Tryz.prog.elem 57 = 2 := by unfold Program.elem; rw [Tryz.underlying57]
  have ht' : Tryz.prog.underlying 57 = some (.slice (Tryz.prog.elem 57)) := by rw [he]; exact Tryz.underlying57
  rw [run_sliceAt_slice w _ _ _ _ _ ht', run_slice_lh w _ _ _ _ ht' .i64 .i64 _ _ (by omega) (by omega) (by omega)]
  have hne : ¬ c = lo := by omega
  simp [sizeOf, typeInfo, he, hi0, hz1, sliced, Addr.add_lit, Result.andThen, hne]
set_option maxRecDepth 5000 in
set_option maxHeartbeats 1600000 in
theorem l07Rows_any (b2 o2 c W H : Nat) (l : List Int) (w : World) (hW1 : 1 ≤ W) (hW : W ≤ 64) (hH : H ≤ 64) (hl : l.length = H * W) (hc : l.length ≤ c) (hr : RowI w (some ⟨b2, o2, none⟩) l) :
    Calls Tryz.prog 39 #[.int .i64 W, .slice (some ⟨b2, o2, none⟩) l.length c] w (MatRet w (grl W H l)) := by
  obtain ⟨j0, hj, hy0, hy1, hy2⟩ := info_parts Tryz.infoRowG
  have HR3 := Lib.hid hr
  have HL := Lib.hid hl
  have HST := Lib.hid (GrdSt.start (World.Ext.refl w) W (flG W l))
  have hHW : H * W ≤ 4096 := Nat.mul_le_mul hH hW
  have hlb : l.length ≤ 4096 := by omega
  clear hr hl
  show Calls _ _ _ _ (MatRet w (grd W H (flG W l)))
  go_enter Tryz.func39, Tryz.ntmps39
  go_wp2
  go_loopw [5, 6] (fun v i wr => ∃ y : Nat, y ≤ H ∧ i = .int .i64 ((y * W : Nat) : Int) ∧ Hid (GrdSt w W (flG W l) v y wr)) (fun _ i _ => l.length - (intOf i).toNat)
  case atStart => exact ⟨0, Nat.zero_le _, by rw [Nat.zero_mul]; rfl, HST⟩
  case round =>
    obtain ⟨y, hy, rfl, HS⟩ := hrel
    clear HST
    obtain ⟨w4, rfl⟩ : ∃ w4 : World, w4 = wr := ⟨_, rfl⟩
    have hl := HL.out
    by_cases hlty : y < H
    · have hmul : (y + 1) * W ≤ H * W := Nat.mul_le_mul_right W (by omega)
      have hsm : (y + 1) * W = y * W + W := by rw [Nat.succ_mul]
      have hltl : ((y * W : Nat) : Int) < (l.length : Int) := by omega
      have HRUN : Hid ((Instr.sliceAt 57 (.slice (some ⟨b2, o2, none⟩) l.length c) (some (.int .i64 ((y * W : Nat) : Int))) (some (.int .i64 (((y * W : Nat) : Int) + (W : Int)))) none).run Tryz.prog w4 = .ok (.slice (some ⟨b2, o2 + y * W, none⟩) W (c - y * W)) w4) := by
        have h := slice_runI b2 o2 c (y * W) (y * W + W) w4 l.length (by omega) (by omega) ((y * W : Nat) : Int) (((y * W : Nat) : Int) + (W : Int)) rfl (by rw [Int.natCast_add])
        rw [show y * W + W - y * W = W by omega] at h
        exact h
      have HRY : Hid (RowI w4 (some ⟨b2, o2 + y * W, none⟩) (grdRow (flG W l) y W)) := fun i hi => by
        rw [grdRow_len] at hi
        obtain ⟨b', o', e', hc'⟩ := HR3.out (y * W + i) (by omega)
        simp only [Option.some.injEq, Addr.mk.injEq, and_true] at e'
        obtain ⟨rfl, rfl⟩ := e'
        refine ⟨b2, o2 + y * W, rfl, ?_⟩
        rw [Nat.add_assoc, grdRow_at hi]
        exact HS.out.x.cell hc'
      have hlr := grdRow_len (flG W l) y W
      have hown0 := l00Own_any b2 (o2 + y * W) (c - y * W) (grdRow (flG W l) y W) w4 (by rw [hlr]; omega) HRY.out
      rw [hlr] at hown0
      have HC := Lib.hid hown0
      have hrun := HRUN.out
      have hyw : y * W ≤ 4096 := by omega
      have HY1 : Hid (((y + 1) * W : Nat) = y * W + W) := hsm
      have HY2 : Hid (y * W < l.length) := by show _ < _; omega
      have hyl : ((y * W : Nat) : Int) + (W : Int) ≤ (l.length : Int) := by omega
      have hyc : ((y * W : Nat) : Int) + (W : Int) ≤ (c : Int) := by omega
      clear hown0 hlr HRUN HRY hmul hsm hl
      generalize y * W = yw at *
      go_wp2_with fail
      refine HC.out.mono ?_
      rintro e w5 ⟨v5, rfl, hx5, hg5⟩
      obtain ⟨a5, c5, rfl, -⟩ := hg5.form
      have hlr := grdRow_len (flG W l) y W
      rw [hlr]
      have HRS : Hid (RowSt w4 (flG W l) (.slice a5 W c5) y W w5) := by
        refine ⟨hx5, ?_⟩
        rw [hlr] at hg5
        exact hg5
      obtain ⟨A, C, hxo, hmo⟩ := HS.out
      have hown := World.ownsRow.ext hmo.outer hx5
      have HNEXT : Hid (∀ (o : Obj) (v' : Value) (w6 : World), (w5.alloc o).grownBy w6 u5.ownBlock → w6.ownsRow w.heap.size 57 1 v' ((grd W y (flG W l)).length + 1) ((List.range (grd W y (flG W l)).length).map (fun r => Value.slice (A r) ((grd W y (flG W l)).getD r []).length (C r)) ++ [.slice a5 W c5]) → Hid (GrdSt w W (flG W l) v' (y + 1) w6)) := fun o v' w6 hgrow hown' => GrdSt.next hxo hmo HRS.out hgrow hown'
      have HB1 : Hid ((grd W y (flG W l)).length + 1 ≤ maxLen) := by show _ ≤ _; rw [grd_len]; unfold maxLen; omega
      have HB2 : Hid (((grd W y (flG W l)).length + 1) * 24 ≤ 140737488355328) := by show _ ≤ _; rw [grd_len]; omega
      have HLE : ∀ o' : Obj, w.heap.size ≤ (w5.alloc o').heap.size := fun o' => ((hxo.trans hx5).alloc o').size
      clear hxo hmo HS HRS hx5 hg5 hlr hrun HC
      generalize (List.range (grd W y (flG W l)).length).map (fun r => Value.slice (A r) ((grd W y (flG W l)).getD r []).length (C r)) = pre at *
      generalize (grd W y (flG W l)).length = mm at *
      go_wp2_with ((at_builtin; refine wpList_append_own _ rfl _ _ 24 rfl w.heap.size 57 j0 (.slice none 0 0) 1 24 Tryz.underlying24 hj hy0 hy1 hy2 rfl (by decide) _ _ _ rfl (hown.alloc _) ⟨w5.heap.size, 0, none⟩ 1 1 [.slice a5 W c5] rfl rfl (cell_one_new _ _ _) (by simp [Value.oneCell']) HB1.out HB2.out (HLE _) (fun v' w1 hown' hgrow _ => ?_)); have HS6 := HNEXT.out _ _ _ hgrow hown'; clear hgrow hown' hown)
      go_roundw
      case rel => exact ⟨y + 1, by omega, by rw [HY1.out, Int.natCast_add], HS6⟩
      case measure =>
        have h2 := HY2.out
        simp [intOf]
        omega
    · have : y = H := by omega
      subst this
      have hnl : ¬ ((y * W : Nat) : Int) < (l.length : Int) := by omega
      have HR := Lib.hid HS.out.ret
      obtain ⟨A, C, _, hmo⟩ := HS.out
      obtain ⟨a5, c5, rfl, _⟩ := World.ownsRow.form hmo.outer
      clear hmo HS hl
      generalize y * W = yw at *
      go_wp2
      go_ret
      exact HR.out
end Go.Proofs.YtkpgelhmeokemaaGreatDoor
