/- The program's small functions, and what it calls of slices. -/
import Derived.Test.YtpploijlijnahaaSBase
namespace Go.Proofs.Ytpploijlijnahaa
open Go.RowKit
set_option maxHeartbeats 400000 in
theorem in_any (n lo hi : Int) (w : World) (t : Bool) (ht : inB n lo hi = t) :
    Calls Try.prog 102 #[.int .i64 n, .int .i64 lo, .int .i64 hi] w fun e w' => e = .returned (.bool t) ∧ w.Ext w' := by
  subst ht
  by_cases h1 : lo ≤ n <;> by_cases h2 : n ≤ hi
  all_goals
    go_enter Try.func102, Try.ntmps102
    go_wp2
    go_ret
    exact ⟨by simp [inB, h1, h2], .refl _⟩
def sizeB (x y : Int) : Bool := inB x 1 16 && inB y 1 16
set_option maxHeartbeats 400000 in
theorem sizeOk_any (x y : Int) (w : World) (t : Bool) (ht : sizeB x y = t) :
    Calls Try.prog 131 #[.int .i64 x, .int .i64 y] w fun e w' => e = .returned (.bool t) ∧ w.Ext w' := by
  subst ht
  go_enter Try.func131, Try.ntmps131
  go_wp2_with (go_at_call 102; refine (in_any _ _ _ _ _ rfl).mono ?_; rintro e w' ⟨rfl, x1, rfl⟩)
  all_goals
    go_ret
    refine ⟨by simp [sizeB, *], ?_⟩
    repeat (first | exact World.Ext.refl _ | exact ⟨_, rfl⟩ | assumption | refine World.Ext.over ?_ _ | refine World.Ext.drewN ?_ _ | refine World.Ext.drew ?_ | refine World.Ext.alloc ?_ _ | refine World.Ext.setCell ?_ (by simp) _)
/-- A call of function 'f' enters it. -/
def Enters (f : Nat) : Prop := ∀ args w, (callFunc f args).run Try.prog w = .ok (.enter f args) w
theorem enters_of {f : Nat} {fn : Func} (hf : Try.prog.funcs[f]? = some fn) (h1 : (fn.name == "runtime.NumGoroutine") = false) (h2 : fn.body.isNone = false) : Enters f := by
  intro args w
  generalize Try.prog = P at *
  have h1' : ¬ fn.name = "runtime.NumGoroutine" := by simpa using h1
  have h2' : ¬ fn.body = none := by intro e; rw [e] at h2; cases h2
  simp [callFunc, program, Sem.run, hf, h1', h2', Sem.run_bind, Result.andThen, Sem.run_pure]
/-- The place of the first element that meets a condition, -1 of none. -/
def idxP {α : Type} (p : α → Bool) (xs : List α) : Int := match xs.findIdx? p with | some i => i | none => -1
theorem idxP_at {α : Type} {p : α → Bool} {xs : List α} {d : α} {k : Nat} (hk : k < xs.length) (h : ∀ i, i < k → p (xs.getD i d) = false) (hp : p (xs.getD k d) = true) : idxP p xs = k := by
  have e : xs.findIdx? p = some k := by
    rw [List.findIdx?_eq_some_iff_getElem]
    refine ⟨hk, by simpa [List.getD_eq_getElem?_getD, hk] using hp, fun j hj => ?_⟩
    have := h j hj
    have hj' : j < xs.length := by omega
    simpa [List.getD_eq_getElem?_getD, hj'] using this
  simp [idxP, e]
theorem idxP_none {α : Type} {p : α → Bool} {xs : List α} {d : α} (h : ∀ i, i < xs.length → p (xs.getD i d) = false) : idxP p xs = -1 := by
  have e : xs.findIdx? p = none := by
    rw [List.findIdx?_eq_none_iff]
    intro x hx
    obtain ⟨i, hi, rfl⟩ := List.getElem_of_mem hx
    simpa [List.getD_eq_getElem?_getD, hi] using h i hi
  simp [idxP, e]
theorem idxP_any {α : Type} (p : α → Bool) (xs : List α) : decide (0 ≤ idxP p xs) = xs.any p := by
  unfold idxP
  cases h : xs.findIdx? p with
  | none =>
    rw [List.findIdx?_eq_none_iff] at h
    rw [Bool.eq_iff_iff]
    simp
    exact h
  | some i =>
    rw [List.findIdx?_eq_some_iff_getElem] at h
    obtain ⟨hi, hp, _⟩ := h
    have : xs.any p = true := List.any_eq_true.2 ⟨_, List.getElem_mem hi, hp⟩
    rw [this]
    simp
theorem idxP_lo {α : Type} (p : α → Bool) (xs : List α) : -1 ≤ idxP p xs := by
  unfold idxP; split <;> omega
end Go.Proofs.Ytpploijlijnahaa
