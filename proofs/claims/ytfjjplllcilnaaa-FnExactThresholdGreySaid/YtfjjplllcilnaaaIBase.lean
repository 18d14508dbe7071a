/- The program's small functions, and what it calls of slices. -/
import Derived.Test.YtfjjplllcilnaaaSBase
namespace Go.Proofs.Ytfjjplllcilnaaa
open Go.RowKit
set_option maxHeartbeats 400000 in
theorem in_any (n lo hi : Int) (w : World) (t : Bool) (ht : inB n lo hi = t) :
    Calls Try.prog 43 #[.int .i64 n, .int .i64 lo, .int .i64 hi] w fun e w' => e = .returned (.bool t) ∧ w.Ext w' := by
  subst ht
  by_cases h1 : lo ≤ n <;> by_cases h2 : n ≤ hi
  all_goals
    go_enter Try.func43, Try.ntmps43
    go_wp2
    go_ret
    exact ⟨by simp [inB, h1, h2], .refl _⟩
def sizeB (x y : Int) : Bool := inB x 1 16 && inB y 1 16
set_option maxHeartbeats 400000 in
theorem sizeOk_any (x y : Int) (w : World) (t : Bool) (ht : sizeB x y = t) :
    Calls Try.prog 56 #[.int .i64 x, .int .i64 y] w fun e w' => e = .returned (.bool t) ∧ w.Ext w' := by
  subst ht
  go_enter Try.func56, Try.ntmps56
  go_wp2_with (go_at_call 43; refine (in_any _ _ _ _ _ rfl).mono ?_; rintro e w' ⟨rfl, x1, rfl⟩)
  all_goals
    go_ret
    refine ⟨by simp [sizeB, *], ?_⟩
    repeat (first | exact World.Ext.refl _ | exact ⟨_, rfl⟩ | assumption | refine World.Ext.over ?_ _ | refine World.Ext.drewN ?_ _ | refine World.Ext.drew ?_ | refine World.Ext.alloc ?_ _ | refine World.Ext.setCell ?_ (by simp) _)
/-- A call of function 'f' enters it. -/
def Enters (f : Nat) : Prop := ∀ args w, (callFunc f args).run Try.prog w = .ok (.enter f args) w
theorem enters_of {f : Nat} {fn : Func} (hf : Try.prog.funcs[f]? = some fn) (h1 : (fn.name == "runtime.NumGoroutine") = false) (h2 : fn.body.isNone = false) : Enters f := by
  intro args w
  generalize Try.prog = P at *
  have h1' : ¬ fn.name = "runtime.NumGoroutine" := by simpa using h1
  have h2' : ¬ fn.body = none := by intro e; rw [e] at h2; cases h2
  simp [callFunc, program, Sem.run, hf, h1', h2', Sem.run_bind, Result.andThen, Sem.run_pure]
/-- The place of the first element that meets a condition, -1 of none. -/
def idxP {α : Type} (p : α → Bool) (xs : List α) : Int := match xs.findIdx? p with | some i => i | none => -1
theorem idxP_at {α : Type} {p : α → Bool} {xs : List α} {d : α} {k : Nat} (hk : k < xs.length) (h : ∀ i, i < k → p (xs.getD i d) = false) (hp : p (xs.getD k d) = true) : idxP p xs = k := by
  have e : xs.findIdx? p = some k := by
    rw [List.findIdx?_eq_some_iff_getElem]
    refine ⟨hk, by simpa [List.getD_eq_getElem?_getD, hk] using hp, fun j hj => ?_⟩
    have := h j hj
    have hj' : j < xs.length := by omega
    simpa [List.getD_eq_getElem?_getD, hj'] using this
  simp [idxP, e]
theorem idxP_none {α : Type} {p : α → Bool} {xs : List α} {d : α} (h : ∀ i, i < xs.length → p (xs.getD i d) = false) : idxP p xs = -1 := by
  have e : xs.findIdx? p = none := by
    rw [List.findIdx?_eq_none_iff]
    intro x hx
    obtain ⟨i, hi, rfl⟩ := List.getElem_of_mem hx
    simpa [List.getD_eq_getElem?_getD, hi] using h i hi
  simp [idxP, e]
theorem idxP_any {α : Type} (p : α → Bool) (xs : List α) : decide (0 ≤ idxP p xs) = xs.any p := by
  unfold idxP
  cases h : xs.findIdx? p with
  | none =>
    rw [List.findIdx?_eq_none_iff] at h
    rw [Bool.eq_iff_iff]
    simp
    exact h
  | some i =>
    rw [List.findIdx?_eq_some_iff_getElem] at h
    obtain ⟨hi, hp, _⟩ := h
    have : xs.any p = true := List.any_eq_true.2 ⟨_, List.getElem_mem hi, hp⟩
    rw [this]
    simp
theorem idxP_lo {α : Type} (p : α → Bool) (xs : List α) : -1 ≤ idxP p xs := by
  unfold idxP; split <;> omega
set_option maxRecDepth 5000 in
set_option maxHeartbeats 800000 in
theorem indexFuncI_any (a : Option Addr) (c f : Nat) (cv : Value) (xs : List Int) (p : Int → Bool) (w : World) (hn : xs.length ≤ 1048576) (hr : RowI w a xs) (he : Enters f)
    (hf : ∀ w', w.Ext w' → ∀ i, i < xs.length → Calls Try.prog f #[.int .i64 (xs.getD i 0), cv] w' fun e w'' => e = .returned (.bool (p (xs.getD i 0))) ∧ w'.Ext w'') :
    Calls Try.prog 140 #[.slice a xs.length c, .func (.func f) #[] #[cv]] w fun e w' => e = .returned (.int .i64 (idxP p xs)) ∧ w.Ext w' := by
  have HR := Lib.hid hr
  have HF := Lib.hid hf
  have hn2 : xs.length ≤ 4611686018427387904 := by omega
  unfold Enters at he
  clear hr hf hn
  go_enter Try.func140, Try.ntmps140
  go_wp2
  go_loopw [5, 8] (fun _ i wr => ∃ k : Nat, k ≤ xs.length ∧ i = .int .i64 k ∧ Hid (∀ i, i < k → p (xs.getD i 0) = false) ∧ w.Ext wr) (fun _ i _ => xs.length - (intOf i).toNat)
  case atStart => exact ⟨0, Nat.zero_le _, rfl, fun i hi => by omega, .refl _⟩
  case round =>
    obtain ⟨k, hk, rfl, HK, hx⟩ := hrel
    by_cases hlt : k < xs.length
    · obtain ⟨b, o, rfl, hc⟩ := (RowOf.ext HR.out hx) k hlt
      have hcall0 := HF.out wr hx k hlt
      have hlt' : (k : Int) < (xs.length : Int) := by omega
      have hk0 : (0 : Int) ≤ (k : Int) := by omega
      cases hpk : p (xs.getD k 0)
      · have HK1 : Hid (∀ i, i < k + 1 → p (xs.getD i 0) = false) := fun i hi => by
          by_cases e : i = k
          · rw [e]; exact hpk
          · exact HK.out i (by omega)
        rw [hpk] at hcall0
        clear hpk
        generalize xs.getD k 0 = z at hc hcall0
        have HC := Lib.hid hcall0
        clear hcall0
        go_wp2_with fail
        refine HC.out.mono ?_
        rintro e w2 ⟨rfl, x1, rfl⟩
        go_wp2
        go_roundw
        case rel => exact ⟨k + 1, by omega, by go_num, HK1.out, hx.over _⟩
        case measure => simp [intOf]; omega
      · have HI : Hid ((k : Int) = idxP p xs) := (idxP_at hlt HK.out hpk).symm
        rw [hpk] at hcall0
        clear hpk
        generalize xs.getD k 0 = z at hc hcall0
        have HC := Lib.hid hcall0
        clear hcall0
        go_wp2_with fail
        refine HC.out.mono ?_
        rintro e w2 ⟨rfl, x1, rfl⟩
        go_wp2
        go_ret
        exact ⟨ret_int HI.out, hx.over _⟩
    · have : k = xs.length := by omega
      subst this
      go_wp2
      go_ret
      exact ⟨ret_int (idxP_none HK.out).symm, hx⟩
set_option maxHeartbeats 400000 in
theorem containsFuncI_any (a : Option Addr) (c f : Nat) (cv : Value) (xs : List Int) (p : Int → Bool) (w : World) (hn : xs.length ≤ 1048576) (hr : RowI w a xs) (he : Enters f)
    (hf : ∀ w', w.Ext w' → ∀ i, i < xs.length → Calls Try.prog f #[.int .i64 (xs.getD i 0), cv] w' fun e w'' => e = .returned (.bool (p (xs.getD i 0))) ∧ w'.Ext w'') (t : Bool) (ht : xs.any p = t) :
    Calls Try.prog 135 #[.slice a xs.length c, .func (.func f) #[] #[cv]] w fun e w' => e = .returned (.bool t) ∧ w.Ext w' := by
  have HC := Lib.hid (indexFuncI_any a c f cv xs p w hn hr he hf)
  have HT := Lib.hid (ht ▸ idxP_any p xs)
  have hlo := idxP_lo p xs
  clear hn hr he hf ht
  generalize idxP p xs = z at HC HT hlo
  go_enter Try.func135, Try.ntmps135
  go_wp2_with fail
  refine HC.out.mono ?_
  rintro e w2 ⟨rfl, x1, rfl⟩
  go_wp2
  go_ret
  exact ⟨ret_bool HT.out, ⟨_, rfl⟩⟩
set_option maxRecDepth 5000 in
set_option maxHeartbeats 800000 in
theorem indexFuncR_any (a : Option Addr) (c f : Nat) (cv cv2 : Value) (A : Nat → Option Addr) (C : Nat → Nat) (xs : List (List Int)) (p : List Int → Bool) (w : World) (hn : xs.length ≤ 1048576) (hr : MatAt w a A C xs) (he : Enters f)
    (hf : ∀ w', w.Ext w' → ∀ i, i < xs.length → Calls Try.prog f #[.slice (A i) (xs.getD i []).length (C i), cv, cv2] w' fun e w'' => e = .returned (.bool (p (xs.getD i []))) ∧ w'.Ext w'') :
    Calls Try.prog 139 #[.slice a xs.length c, .func (.func f) #[] #[cv, cv2]] w fun e w' => e = .returned (.int .i64 (idxP p xs)) ∧ w.Ext w' := by
  have HR := Lib.hid hr
  have HF := Lib.hid hf
  have hn2 : xs.length ≤ 4611686018427387904 := by omega
  unfold Enters at he
  clear hr hf hn
  go_enter Try.func139, Try.ntmps139
  go_wp2
  go_loopw [5, 8] (fun _ i wr => ∃ k : Nat, k ≤ xs.length ∧ i = .int .i64 k ∧ Hid (∀ i, i < k → p (xs.getD i []) = false) ∧ w.Ext wr) (fun _ i _ => xs.length - (intOf i).toNat)
  case atStart => exact ⟨0, Nat.zero_le _, rfl, fun i hi => by omega, .refl _⟩
  case round =>
    obtain ⟨k, hk, rfl, HK, hx⟩ := hrel
    by_cases hlt : k < xs.length
    · obtain ⟨⟨b, o, rfl, hc⟩, _⟩ := (HR.out.ext hx) k hlt
      have hcall0 := HF.out wr hx k hlt
      have hlt' : (k : Int) < (xs.length : Int) := by omega
      have hk0 : (0 : Int) ≤ (k : Int) := by omega
      cases hpk : p (xs.getD k [])
      · have HK1 : Hid (∀ i, i < k + 1 → p (xs.getD i []) = false) := fun i hi => by
          by_cases e : i = k
          · rw [e]; exact hpk
          · exact HK.out i (by omega)
        rw [hpk] at hcall0
        clear hpk
        generalize xs.getD k [] = z at hc hcall0
        have HC := Lib.hid hcall0
        clear hcall0
        go_wp2_with fail
        refine HC.out.mono ?_
        rintro e w2 ⟨rfl, x1, rfl⟩
        go_wp2
        go_roundw
        case rel => exact ⟨k + 1, by omega, by go_num, HK1.out, hx.over _⟩
        case measure => simp [intOf]; omega
      · have HI : Hid ((k : Int) = idxP p xs) := (idxP_at hlt HK.out hpk).symm
        rw [hpk] at hcall0
        clear hpk
        generalize xs.getD k [] = z at hc hcall0
        have HC := Lib.hid hcall0
        clear hcall0
        go_wp2_with fail
        refine HC.out.mono ?_
        rintro e w2 ⟨rfl, x1, rfl⟩
        go_wp2
        go_ret
        exact ⟨ret_int HI.out, hx.over _⟩
    · have : k = xs.length := by omega
      subst this
      go_wp2
      go_ret
      exact ⟨ret_int (idxP_none HK.out).symm, hx⟩
set_option maxHeartbeats 400000 in
theorem containsFuncR_any (a : Option Addr) (c f : Nat) (cv cv2 : Value) (A : Nat → Option Addr) (C : Nat → Nat) (xs : List (List Int)) (p : List Int → Bool) (w : World) (hn : xs.length ≤ 1048576) (hr : MatAt w a A C xs) (he : Enters f)
    (hf : ∀ w', w.Ext w' → ∀ i, i < xs.length → Calls Try.prog f #[.slice (A i) (xs.getD i []).length (C i), cv, cv2] w' fun e w'' => e = .returned (.bool (p (xs.getD i []))) ∧ w'.Ext w'') (t : Bool) (ht : xs.any p = t) :
    Calls Try.prog 133 #[.slice a xs.length c, .func (.func f) #[] #[cv, cv2]] w fun e w' => e = .returned (.bool t) ∧ w.Ext w' := by
  have HC := Lib.hid (indexFuncR_any a c f cv cv2 A C xs p w hn hr he hf)
  have HT := Lib.hid (ht ▸ idxP_any p xs)
  have hlo := idxP_lo p xs
  clear hn hr he hf ht
  generalize idxP p xs = z at HC HT hlo
  go_enter Try.func133, Try.ntmps133
  go_wp2_with fail
  refine HC.out.mono ?_
  rintro e w2 ⟨rfl, x1, rfl⟩
  go_wp2
  go_ret
  exact ⟨ret_bool HT.out, ⟨_, rfl⟩⟩
def rowBad (width : Nat) (most : Int) (r : List Int) : Bool := decide (r.length ≠ width) || r.any fun n => !inB n 0 most
theorem rowBad_not (width : Nat) (most : Int) (r : List Int) : rowBad width most r = !rowOk width most r := by
  unfold rowBad rowOk
  rw [Bool.not_and, List.not_all_eq_any_not]
  simp
set_option maxHeartbeats 400000 in
theorem rowsOk1_1_any (p : Nat) (most z : Int) (w : World) (hp : w.cell? ⟨p, 0, none⟩ = some (.int .i64 most)) :
    Calls Try.prog 136 #[.int .i64 z, .pointer (some ⟨p, 0, none⟩)] w fun e w' => e = .returned (.bool (!inB z 0 most)) ∧ w.Ext w' := by
  go_enter Try.func136, Try.ntmps136
  go_wp2_with (go_at_call 43; refine (in_any _ _ _ _ _ rfl).mono ?_; rintro e w' ⟨rfl, x1, rfl⟩)
  go_ret
  refine ⟨rfl, ?_⟩
  repeat (first | exact World.Ext.refl _ | exact ⟨_, rfl⟩ | assumption | refine World.Ext.over ?_ _ | refine World.Ext.drewN ?_ _ | refine World.Ext.drew ?_ | refine World.Ext.alloc ?_ _ | refine World.Ext.setCell ?_ (by simp) _)
theorem enters_rowsOk1_1 : Enters 136 := enters_of Try.func136 (by kernel_rfl) (by kernel_rfl)
theorem enters_rowsOk1 : Enters 134 := enters_of Try.func134 (by kernel_rfl) (by kernel_rfl)
set_option maxHeartbeats 800000 in
theorem rowsOk1_any (p2 p3 : Nat) (most : Int) (a : Option Addr) (c : Nat) (A : Nat → Option Addr) (C : Nat → Nat) (m : List (List Int)) (a' : Option Addr) (c' : Nat) (q : List Int) (w : World) (hpos : 0 < m.length) (hqn : q.length ≤ 1048576) (hrow : ∀ r, (m.getD r []).length ≤ 1048576)
    (h2 : w.cell? ⟨p2, 0, none⟩ = some (.slice a m.length c)) (h3 : w.cell? ⟨p3, 0, none⟩ = some (.int .i64 most)) (hm : MatAt w a A C m) (hq : RowI w a' q) :
    Calls Try.prog 134 #[.slice a' q.length c', .pointer (some ⟨p2, 0, none⟩), .pointer (some ⟨p3, 0, none⟩)] w fun e w' => e = .returned (.bool (rowBad (m.getD 0 []).length most q)) ∧ w.Ext w' := by
  obtain ⟨⟨b0, o0, rfl, hc0⟩, _⟩ := hm 0 hpos
  rw [Nat.add_zero] at hc0
  have hpos' : (0 : Int) < (m.length : Int) := by omega
  have hl0 := hrow 0
  generalize m.getD 0 [] = r0 at *
  have hrl : r0.length ≤ 4611686018427387904 := by omega
  have hql : q.length ≤ 4611686018427387904 := by omega
  have HQ := Lib.hid hq
  have HN := Lib.hid hqn
  clear hm hrow hl0 hq hqn
  by_cases hl : q.length = r0.length
  · have hv : rowBad r0.length most q = q.any fun n => !inB n 0 most := by simp [rowBad, hl]
    rw [hv]
    have hne : ((q.length : Int) != (r0.length : Int)) = false := by simp; omega
    clear hv hl
    go_enter Try.func134, Try.ntmps134
    go_wp2_with fail
    refine (containsFuncI_any _ _ 136 (.pointer (some ⟨p3, 0, none⟩)) q (fun n => !inB n 0 most) _ HN.out HQ.out enters_rowsOk1_1 (fun w' hx i _ => rowsOk1_1_any p3 most _ w' (hx.cell h3)) _ rfl).mono ?_
    rintro e w2 ⟨rfl, x1, rfl⟩
    go_wp2
    go_ret
    refine ⟨rfl, ?_⟩
    repeat (first | exact World.Ext.refl _ | exact ⟨_, rfl⟩ | assumption | refine World.Ext.over ?_ _ | refine World.Ext.drewN ?_ _ | refine World.Ext.drew ?_ | refine World.Ext.alloc ?_ _ | refine World.Ext.setCell ?_ (by simp) _)
  · have hv : rowBad r0.length most q = true := by simp [rowBad, hl]
    rw [hv]
    have hne : ((q.length : Int) != (r0.length : Int)) = true := by simp; omega
    clear hv hl
    go_enter Try.func134, Try.ntmps134
    go_wp2
    go_ret
    refine ⟨rfl, ?_⟩
    repeat (first | exact World.Ext.refl _ | exact ⟨_, rfl⟩ | assumption | refine World.Ext.over ?_ _ | refine World.Ext.drewN ?_ _ | refine World.Ext.drew ?_ | refine World.Ext.alloc ?_ _ | refine World.Ext.setCell ?_ (by simp) _)
end Go.Proofs.Ytfjjplllcilnaaa
