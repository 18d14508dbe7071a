/- Grey pictures: the small functions of both sides. -/
import Derived.Test.YthgkmaccbcpaeaaDoorGreyP
import Derived.Test.YthgkmaccbcpaeaaDoorArnd
import Derived.Test.YthgkmaccbcpaeaaDoorCmpF
import Derived.Test.YthgkmaccbcpaeaaDoorLMat
namespace Go.Proofs.YthgkmaccbcpaeaaDoor
open Go Go.RowKit
theorem tableOk_spec {m : List (List Int)} {most : Int} (h : tableOk m most = true) : 1 ≤ m.length ∧ m.length ≤ 16 ∧ 1 ≤ (m.getD 0 []).length ∧ (m.getD 0 []).length ≤ 16 ∧
    (∀ r, r < m.length → (m.getD r []).length = (m.getD 0 []).length) ∧ ∀ r i, r < m.length → i < (m.getD r []).length → 0 ≤ (m.getD r []).getD i 0 ∧ (m.getD r []).getD i 0 ≤ most := by
  unfold tableOk at h
  rw [Bool.and_eq_true, Bool.and_eq_true, inB_true, inB_true] at h
  obtain ⟨⟨h1, h2⟩, h3⟩ := h
  rw [all_getD (d := [])] at h3
  refine ⟨by omega, by omega, by omega, by omega, fun r hr => ?_, fun r i hr hi => ?_⟩
  · have := h3 r hr
    unfold rowOk at this
    rw [Bool.and_eq_true, decide_eq_true_eq] at this
    exact this.1
  · have := h3 r hr
    unfold rowOk at this
    rw [Bool.and_eq_true, all_getD (d := 0)] at this
    exact inB_true.1 (this.2 i hi)
theorem flat_len (W : Nat) : ∀ m : List (List Int), (∀ r, r < m.length → (m.getD r []).length = W) → m.flatten.length = W * m.length
  | [], _ => by simp
  | x :: m, h => by
    have h0 : x.length = W := by simpa using h 0 (by simp)
    have ih := flat_len W m fun r hr => by simpa using h (r + 1) (by simpa using hr)
    rw [List.flatten_cons, List.length_append, ih, h0, List.length_cons, Nat.mul_succ, Nat.add_comm]
theorem flat_at (W : Nat) : ∀ (m : List (List Int)) (y x : Nat), (∀ r, r < m.length → (m.getD r []).length = W) → y < m.length → x < W → m.flatten.getD (y * W + x) 0 = (m.getD y []).getD x 0
  | [], y, x, _, h, _ => by simp at h
  | r0 :: m, 0, x, h, _, hx => by
    have h0 : r0.length = W := by simpa using h 0 (by simp)
    rw [List.flatten_cons, List.getD_eq_getElem?_getD, List.getElem?_append_left (by omega)]
    simp [List.getD_eq_getElem?_getD]
  | r0 :: m, y + 1, x, h, hy, hx => by
    have h0 : r0.length = W := by simpa using h 0 (by simp)
    have ih := flat_at W m y x (fun r hr => by simpa using h (r + 1) (by simpa using hr)) (by simpa using hy) hx
    have e : (y + 1) * W + x = r0.length + (y * W + x) := by rw [h0, Nat.succ_mul]; omega
    rw [List.flatten_cons, List.getD_eq_getElem?_getD, e, List.getElem?_append_right (by omega), Nat.add_sub_cancel_left, ← List.getD_eq_getElem?_getD, ih]
    simp
/-- The pixels that a threshold tells. -/
def thrG (m : List (List Int)) (level : Int) (x y : Nat) : Bool := decide (level ≤ (m.getD y []).getD x 0)
theorem tableOk_not (m : List (List Int)) (most : Int) : tableOk m most = (sizeB (m.getD 0 []).length m.length && !m.any (rowBad (m.getD 0 []).length most)) := by
  have : (m.any (rowBad (m.getD 0 []).length most)) = !m.all (rowOk (m.getD 0 []).length most) := by
    rw [List.not_all_eq_any_not]
    congr 1
    funext r
    exact rowBad_not _ _ _
  rw [this, Bool.not_not]
  unfold tableOk sizeB
  congr 1
  exact Bool.and_comm _ _
/-- A table out of a list of rows. -/
def flG (W : Nat) (l : List Int) (x y : Nat) : Int := l.getD (y * W + x) 0
def grl (W H : Nat) (l : List Int) : List (List Int) := grd W H (flG W l)
theorem grl_len (W H : Nat) (l : List Int) : (grl W H l).length = H := grd_len _ _ _
theorem grl_row {W H : Nat} {l : List Int} {y : Nat} (h : y < H) : ((grl W H l).getD y []).length = W := by
  unfold grl
  rw [grd_row h, grdRow_len]
theorem grl_at {W H : Nat} {l : List Int} {x y : Nat} (hx : x < W) (hy : y < H) : ((grl W H l).getD y []).getD x 0 = l.getD (y * W + x) 0 := by
  unfold grl
  rw [grd_row hy, grdRow_at hx]
  rfl
theorem grl_set {W H : Nat} {l : List Int} {x y : Nat} (hx : x < W) (hy : y < H) (hl : l.length = H * W) (v : Int) : (grl W H l).set y (((grl W H l).getD y []).set x v) = grl W H (l.set (y * W + x) v) := by
  have hk : y * W + x < l.length := by
    have := Nat.mul_le_mul_right W (show y + 1 ≤ H by omega)
    rw [Nat.succ_mul] at this
    omega
  have hW : 0 < W := by omega
  apply List.ext_getElem?
  intro r
  rw [List.getElem?_set, grl_len]
  by_cases hr : r < H
  · have e1 : ∀ m : List (List Int), r < m.length → m[r]? = some (m.getD r []) := fun m hm => by rw [List.getD_eq_getElem?_getD, List.getElem?_eq_getElem hm]; rfl
    rw [e1 (grl W H (l.set (y * W + x) v)) (by rw [grl_len]; exact hr)]
    have e2 : ∀ (m : List Int) (i : Nat), i < m.length → m[i]? = some (m.getD i 0) := fun m i hm => by rw [List.getD_eq_getElem?_getD, List.getElem?_eq_getElem hm]; rfl
    by_cases he : y = r
    · subst he
      rw [if_pos rfl, if_pos hy]
      congr 1
      apply List.ext_getElem?
      intro i
      rw [List.getElem?_set, grl_row hy]
      by_cases hi : i < W
      · rw [e2 _ i (by rw [grl_row hy]; exact hi), e2 _ i (by rw [grl_row hy]; exact hi), grl_at hi hy, grl_at hi hy, getD_set _ _ _ _ hk]
        by_cases hxi : x = i
        · subst hxi
          rw [if_pos rfl, if_pos hi, if_pos rfl]
        · rw [if_neg hxi, if_neg (by omega)]
      · rw [List.getElem?_eq_none (by rw [grl_row hy]; omega), List.getElem?_eq_none (by rw [grl_row hy]; omega)]
        split <;> first | omega | rfl
    · rw [if_neg he, e1 (grl W H l) (by rw [grl_len]; exact hr)]
      congr 1
      apply List.ext_getElem?
      intro i
      by_cases hi : i < W
      · rw [e2 _ i (by rw [grl_row hr]; exact hi), e2 _ i (by rw [grl_row hr]; exact hi), grl_at hi hr, grl_at hi hr, getD_set _ _ _ _ hk, if_neg]
        intro e
        have h1 := (mod_atI (y := y) hx).2
        have h2 := (mod_atI (y := r) hi).2
        rw [← e, h2] at h1
        omega
      · rw [List.getElem?_eq_none (by rw [grl_row hr]; omega), List.getElem?_eq_none (by rw [grl_row hr]; omega)]
  · have e3 : ∀ m : List (List Int), m.length = H → m[r]? = none := fun m hm => List.getElem?_eq_none (by omega)
    rw [e3 _ (grl_len _ _ _), e3 _ (grl_len _ _ _)]
    split <;> first | omega | rfl
/-- A valid table is the table of its list. -/
theorem grl_flat {W : Nat} {m : List (List Int)} (h : ∀ r, r < m.length → (m.getD r []).length = W) : grl W m.length m.flatten = m := by
  apply List.ext_getElem?
  intro r
  by_cases hr : r < m.length
  · have e1 : ∀ m' : List (List Int), r < m'.length → m'[r]? = some (m'.getD r []) := fun m' hm => by rw [List.getD_eq_getElem?_getD, List.getElem?_eq_getElem hm]; rfl
    have e2 : ∀ (m : List Int) (i : Nat), i < m.length → m[i]? = some (m.getD i 0) := fun m i hm => by rw [List.getD_eq_getElem?_getD, List.getElem?_eq_getElem hm]; rfl
    rw [e1 _ (by rw [grl_len]; exact hr), e1 _ hr]
    congr 1
    apply List.ext_getElem?
    intro i
    by_cases hi : i < W
    · rw [e2 _ i (by rw [grl_row hr]; exact hi), e2 _ i (by rw [h r hr]; exact hi), grl_at hi hr, flat_at W m r i h hr hi]
    · rw [List.getElem?_eq_none (by rw [grl_row hr]; omega), List.getElem?_eq_none (by rw [h r hr]; omega)]
  · rw [List.getElem?_eq_none (by rw [grl_len]; omega), List.getElem?_eq_none (by omega)]
/-- A number is stored into an own table. -/
theorem OwnMat.put {lo hi : Nat} {w : World} {a : Option Addr} {A : Nat → Option Addr} {C : Nat → Nat} {m : List (List Int)} (h : OwnMat lo hi w a A C m) {y x b o : Nat} (hy : y < m.length) (hx : x < (m.getD y []).length) (hA : A y = some ⟨b, o, Option.none⟩) (v : Int) :
    OwnMat lo hi (w.setCell ⟨b, o + x, Option.none⟩ (.int .i64 v)) a A C (m.set y ((m.getD y []).set x v)) := by
  have getr : ∀ r, (m.set y ((m.getD y []).set x v)).getD r [] = if r = y then (m.getD y []).set x v else m.getD r [] := fun r => by
    rw [List.getD_eq_getElem?_getD, List.getElem?_set]
    by_cases e : y = r
    · subst e
      simp [hy]
    · rw [if_neg e, if_neg (Ne.symm e), ← List.getD_eq_getElem?_getD]
  have lenr : ∀ r, ((m.set y ((m.getD y []).set x v)).getD r []).length = (m.getD r []).length := fun r => by
    rw [getr]
    split
    · rename_i e; rw [List.length_set, e]
    · rfl
  have hW : Wrote (fun k => k = b) w (w.setCell ⟨b, o + x, Option.none⟩ (.int .i64 v)) := Wrote.setCell (S := fun k => k = b) (Wrote.refl _ _) (p := ⟨b, o + x, Option.none⟩) rfl _
  refine ⟨fun r hr => ?_, fun r hr => ?_, fun r s b1 o1 b2 o2 hr hs => h.apart r s b1 o1 b2 o2 (by simpa using hr) (by simpa using hs)⟩
  · rw [List.length_set] at hr
    obtain ⟨b0, o0, h1, h2, h3, h4, h5⟩ := h.outer r hr
    refine ⟨b0, o0, h1, h2, h3, ?_, fun s b' o' hs hB => h5 s b' o' (by simpa using hs) hB⟩
    rw [lenr]
    exact hW.cell h4 (by simp only; exact fun e => h5 y b o hy hA e.symm)
  · rw [List.length_set] at hr
    rw [getr]
    by_cases e : r = y
    · subst e
      rw [if_pos rfl]
      intro i hi
      rw [List.length_set] at hi
      obtain ⟨b1, o1, e1, q1, q2, q3, q4⟩ := h.rows r hr i hi
      rw [hA] at e1
      simp only [Option.some.injEq, Addr.mk.injEq, and_true] at e1
      obtain ⟨rfl, rfl⟩ := e1
      refine ⟨b, o, hA, q1, q2, ?_, by rw [frozen_set]; exact q4⟩
      by_cases ei : i = x
      · subst ei
        rw [cell_set_same q3, getD_set _ _ _ _ hx, if_pos rfl]
      · rw [cell_set_other (by omega), q3, getD_set _ _ _ _ hx, if_neg ei]
    · rw [if_neg e]
      intro i hi
      obtain ⟨b1, o1, e1, q1, q2, q3, q4⟩ := h.rows r hr i hi
      have hne : b1 ≠ b := h.apart r y b1 o1 b o hr hy e e1 hA
      exact ⟨b1, o1, e1, q1, q2, hW.cell q3 (by simpa using hne), by rw [frozen_set]; exact q4⟩
/-- A grey picture is returned, in new memory. -/
def GreyRet (w : World) (m : List (List Int)) (e : Ending) (w' : World) : Prop := ∃ a c A C, e = .returned (.agg #[.slice a m.length c]) ∧ w.Ext w' ∧ OwnMat w.heap.size w'.heap.size w' a A C m
def GreyRet2 (w : World) (m : List (List Int)) (ok : Bool) (e : Ending) (w' : World) : Prop := ∃ a c A C, e = .returned (.tuple #[.agg #[.slice a m.length c], .bool ok]) ∧ w.Ext w' ∧ OwnMat w.heap.size w'.heap.size w' a A C m
theorem Res.storeM {w W1 : World} {p : Nat} {T : TypeId} {v0 : Value} {lo : Nat} {a : Option Addr} {A : Nat → Option Addr} {C : Nat → Nat} {m : List (List Int)} (v : Value) (hX : w.Ext W1) (hp : w.heap.size ≤ p) (hone : One W1 p T v0) (hlo : p < lo) (ho : OwnMat lo W1.heap.size W1 a A C m) :
    W1.cell? ⟨p, 0, none⟩ = some v0 ∧ W1.frozen? ⟨p, 0, none⟩ = false ∧ (W1.setCell ⟨p, 0, none⟩ v).cell? ⟨p, 0, none⟩ = some v ∧ Hid (w.Ext (W1.setCell ⟨p, 0, none⟩ v) ∧ OwnMat w.heap.size (W1.setCell ⟨p, 0, none⟩ v).heap.size (W1.setCell ⟨p, 0, none⟩ v) a A C m) :=
  ⟨hone.cell, hone.free, (hone.set v).cell, hX.setCell (p := ⟨p, 0, none⟩) hp v, (ho.wrote (Wrote.setCell (S := fun k => k = p) (Wrote.refl _ _) (p := ⟨p, 0, none⟩) rfl v) fun k h1 _ e => by omega).mono (by omega) (by simp)⟩
set_option maxRecDepth 5000 in
set_option maxHeartbeats 1000000 in
theorem rowsOk_any (a : Option Addr) (c : Nat) (A : Nat → Option Addr) (C : Nat → Nat) (m : List (List Int)) (most : Int) (w : World) (hn : m.length ≤ 1048576) (hrow : ∀ r, (m.getD r []).length ≤ 1048576) (hm : MatAt w a A C m) (t : Bool) (ht : tableOk m most = t) :
    Calls Tryd.prog 72 #[.slice a m.length c, .int .i64 most] w fun e w' => e = .returned (.bool t) ∧ w.Ext w' := by
  subst ht
  have HM := Lib.hid hm
  have HR := Lib.hid hrow
  have HN := Lib.hid hn
  have hn2 : m.length ≤ 4611686018427387904 := by omega
  clear hm hrow hn
  by_cases hpos : 0 < m.length
  · have hpos' : (0 : Int) < (m.length : Int) := by omega
    have hne : ((m.length : Int) == 0) = false := by rw [beq_eq_false_iff_ne]; omega
    obtain ⟨⟨b0, o0, rfl, hc0⟩, _⟩ := HM.out 0 hpos
    rw [Nat.add_zero] at hc0
    have hblt : b0 < w.heap.size := World.block_lt_of_cell? w _ hc0
    have hl0 := HR.out 0
    have HV := Lib.hid (tableOk_not m most)
    obtain ⟨W, hW⟩ : ∃ W, W = (m.getD 0 []).length := ⟨_, rfl⟩
    rw [← hW] at hc0 hl0 HV
    have HW := Lib.hid hW
    have hWm : W ≤ 4611686018427387904 := by omega
    have HPOS := Lib.hid hpos
    clear hW hl0 hpos
    cases hs : sizeB W m.length
    · have hv : tableOk m most = false := by rw [HV.out, hs]; rfl
      rw [hv]
      have HS := Lib.hid hs
      clear hv hs HV
      go_enter Tryd.func72, Tryd.ntmps72
      go_wp2_with fail
      refine wp_region_over_lit (by kernel_rfl) (by kernel_rfl) ?_; (repeat (go_big_quiet_step ((go_at_call 44; exact Calls.over_of (sizeOk_any _ _ _ _ HS.out))))); refine wpQuiet_nil ?_; rintro _ ⟨x1, rfl⟩
      go_wp2
      go_ret
      refine ⟨rfl, ?_⟩
      repeat (first | exact World.Ext.refl _ | exact ⟨_, rfl⟩ | assumption | refine World.Ext.over ?_ _ | refine World.Ext.drewN ?_ _ | refine World.Ext.drew ?_ | refine World.Ext.alloc ?_ _ | refine World.Ext.setCell ?_ (by simp) _)
    · have HS := Lib.hid hs
      rw [hs, Bool.true_and] at HV
      clear hs
      go_enter Tryd.func72, Tryd.ntmps72
      go_wp2_with fail
      refine wp_region_over_lit (by kernel_rfl) (by kernel_rfl) ?_; (repeat (go_big_quiet_step ((go_at_call 44; exact Calls.over_of (sizeOk_any _ _ _ _ HS.out))))); refine wpQuiet_nil ?_; rintro _ ⟨x1, rfl⟩
      have h2 : World.cell? (((w.alloc (.cells #[.slice (some ⟨b0, o0, none⟩) m.length c] 22)).alloc (.cells #[.int .i64 most] 2)).over x1) ⟨w.heap.size, 0, none⟩ = some (.slice (some ⟨b0, o0, none⟩) m.length c) := by simp [go_sem]
      have h3 : World.cell? (((w.alloc (.cells #[.slice (some ⟨b0, o0, none⟩) m.length c] 22)).alloc (.cells #[.int .i64 most] 2)).over x1) ⟨w.heap.size + 1, 0, none⟩ = some (.int .i64 most) := by simp [go_sem]
      have hx : w.Ext (((w.alloc (.cells #[.slice (some ⟨b0, o0, none⟩) m.length c] 22)).alloc (.cells #[.int .i64 most] 2)).over x1) := by repeat (first | exact World.Ext.refl _ | exact ⟨_, rfl⟩ | assumption | refine World.Ext.over ?_ _ | refine World.Ext.drewN ?_ _ | refine World.Ext.drew ?_ | refine World.Ext.alloc ?_ _ | refine World.Ext.setCell ?_ (by simp) _)
      have hcall := containsFuncR_any (some ⟨b0, o0, none⟩) c 101 (.pointer (some ⟨w.heap.size, 0, none⟩)) (.pointer (some ⟨w.heap.size + 1, 0, none⟩)) A C m (rowBad W most) _ HN.out (HM.out.ext hx) enters_rowsOk1
        (fun w' hx' i hi => by
          rw [HW.out]
          exact rowsOk1_any w.heap.size (w.heap.size + 1) most _ c A C m (A i) (C i) (m.getD i []) w' HPOS.out (HR.out i) HR.out (hx'.cell h2) (hx'.cell h3) ((HM.out.ext hx).ext hx') (((HM.out.ext hx).ext hx' i hi).2)) _ rfl
      have HC := Lib.hid hcall
      clear hcall h2 h3 hx
      go_wp2_with fail
      refine HC.out.mono ?_
      rintro e w' ⟨rfl, x2, rfl⟩
      go_wp2
      go_ret
      refine ⟨ret_bool HV.out.symm, ?_⟩
      repeat (first | exact World.Ext.refl _ | exact ⟨_, rfl⟩ | assumption | refine World.Ext.over ?_ _ | refine World.Ext.drewN ?_ _ | refine World.Ext.drew ?_ | refine World.Ext.alloc ?_ _ | refine World.Ext.setCell ?_ (by simp) _)
  · have hm0 : m = [] := by
      cases m with
      | nil => rfl
      | cons x y => simp at hpos
    subst hm0
    have hv : tableOk [] most = false := by simp [tableOk, inB]
    rw [hv]
    clear hv
    go_enter Tryd.func72, Tryd.ntmps72
    go_wp2_with fail
    refine wp_region_over_lit (by kernel_rfl) (by kernel_rfl) ?_; (repeat (go_big_quiet_step (fail))); refine wpQuiet_nil ?_; rintro _ ⟨x1, rfl⟩
    go_wp2
    go_ret
    refine ⟨rfl, ?_⟩
    repeat (first | exact World.Ext.refl _ | exact ⟨_, rfl⟩ | assumption | refine World.Ext.over ?_ _ | refine World.Ext.drewN ?_ _ | refine World.Ext.drew ?_ | refine World.Ext.alloc ?_ _ | refine World.Ext.setCell ?_ (by simp) _)
set_option maxHeartbeats 400000 in
theorem validGrey_any (a : Option Addr) (c : Nat) (A : Nat → Option Addr) (C : Nat → Nat) (m : List (List Int)) (w : World) (hn : m.length ≤ 1048576) (hrow : ∀ r, (m.getD r []).length ≤ 1048576) (hm : MatAt w a A C m) (t : Bool) (ht : tableOk m 99 = t) :
    Calls Tryd.prog 35 #[.agg #[.slice a m.length c]] w fun e w' => e = .returned (.bool t) ∧ w.Ext w' := by
  subst ht
  have HM := Lib.hid hm
  have HR := Lib.hid hrow
  have HN := Lib.hid hn
  clear hm hrow hn
  go_enter Tryd.func35, Tryd.ntmps35
  go_wp2_with (go_at_call 72; refine (rowsOk_any _ _ A C m _ _ HN.out HR.out (HM.out.ext (by repeat (first | exact World.Ext.refl _ | exact ⟨_, rfl⟩ | assumption | refine World.Ext.over ?_ _ | refine World.Ext.drewN ?_ _ | refine World.Ext.drew ?_ | refine World.Ext.alloc ?_ _ | refine World.Ext.setCell ?_ (by simp) _))) _ rfl).mono ?_; rintro e w' ⟨rfl, x1, rfl⟩)
  go_ret
  refine ⟨rfl, ?_⟩
  repeat (first | exact World.Ext.refl _ | exact ⟨_, rfl⟩ | assumption | refine World.Ext.over ?_ _ | refine World.Ext.drewN ?_ _ | refine World.Ext.drew ?_ | refine World.Ext.alloc ?_ _ | refine World.Ext.setCell ?_ (by simp) _)
def gridP (W H : Nat) : List (Int × Int) := (List.range (H * W)).map fun k => (((k % W : Nat) : Int), ((k / W : Nat) : Int))
theorem gridP_len (W H : Nat) : (gridP W H).length = H * W := by simp [gridP]
theorem gridP_at {W H k : Nat} (h : k < H * W) : (gridP W H).getD k (0, 0) = (((k % W : Nat) : Int), ((k / W : Nat) : Int)) := by
  unfold gridP
  rw [List.getD_eq_getElem?_getD, List.getElem?_map, List.getElem?_range h]
  rfl
theorem gridP_take {W H x y : Nat} (hx : x < W) (hy : y < H) : (gridP W H).take (y * W + (x + 1)) = (gridP W H).take (y * W + x) ++ [((x : Int), (y : Int))] := by
  have hk : y * W + x < H * W := by
    have := Nat.mul_le_mul_right W (show y + 1 ≤ H by omega)
    rw [Nat.succ_mul] at this
    omega
  have h := gridP_at (W := W) (H := H) hk
  rw [(mod_atI hx).1, (mod_atI hx).2, List.getD_eq_getElem?_getD, List.getElem?_eq_getElem (by rw [gridP_len]; exact hk)] at h
  rw [← Nat.add_assoc, List.take_succ_eq_append_getElem (by rw [gridP_len]; exact hk)]
  exact congrArg (fun z => _ ++ [z]) h
theorem slice_runI (g o c lo hi : Nat) (w : World) (M : Nat) (h1 : lo < hi) (h2 : hi ≤ c) (L U : Int) (hL : L = lo) (hU : U = hi) :
    (Instr.sliceAt 68 (.slice (some ⟨g, o, none⟩) M c) (some (.int .i64 L)) (some (.int .i64 U)) none).run Tryd.prog w = .ok (.slice (some ⟨g, o + lo, none⟩) (hi - lo) (c - lo)) w := by
  subst hL hU
  obtain ⟨i0, hi0, hz0, hz1, hz2⟩ := info_parts Tryd.infoI64
  have he : Tryd.prog.elem 68 = 2 := by unfold Program.elem; rw [Tryd.underlying68]
  have ht' : Tryd.prog.underlying 68 = some (.slice (Tryd.prog.elem 68)) := by rw [he]; exact Tryd.underlying68
  rw [run_sliceAt_slice w _ _ _ _ _ ht', run_slice_lh w _ _ _ _ ht' .i64 .i64 _ _ (by omega) (by omega) (by omega)]
  have hne : ¬ c = lo := by omega
  simp [sizeOf, typeInfo, he, hi0, hz1, sliced, Addr.add_lit, Result.andThen, hne]
end Go.Proofs.YthgkmaccbcpaeaaDoor
