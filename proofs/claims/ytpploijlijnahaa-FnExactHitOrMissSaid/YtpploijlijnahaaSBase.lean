/- The reference's small functions: ranges, sides, tables of numbers. -/
import Derived.Test.YtpploijlijnahaaProg
import Derived.Test.YtpploijlijnahaaOwn
import Derived.Deep.QuietTactic
import Derived.BigQuiet
namespace Go.Proofs.Ytpploijlijnahaa
open Go.RowKit
def inB (n lo hi : Int) : Bool := decide (lo ≤ n) && decide (n ≤ hi)
theorem inB_true {n lo hi : Int} : inB n lo hi = true ↔ lo ≤ n ∧ n ≤ hi := by simp [inB]
set_option maxHeartbeats 400000 in
theorem l00In_any (n lo hi : Int) (w : World) (t : Bool) (ht : inB n lo hi = t) :
    Calls Try.prog 127 #[.int .i64 n, .int .i64 lo, .int .i64 hi] w fun e w' => e = .returned (.bool t) ∧ w.Ext w' := by
  subst ht
  by_cases h1 : lo ≤ n <;> by_cases h2 : n ≤ hi
  all_goals
    go_enter Try.func127, Try.ntmps127
    go_wp2
    go_ret
    exact ⟨by simp [inB, h1, h2], .refl _⟩
set_option maxHeartbeats 400000 in
theorem l01Side_any (n : Int) (w : World) (t : Bool) (ht : inB n 1 16 = t) :
    Calls Try.prog 126 #[.int .i64 n] w fun e w' => e = .returned (.bool t) ∧ w.Ext w' := by
  subst ht
  go_enter Try.func126, Try.ntmps126
  go_wp2_with (go_at_call 127; refine (l00In_any _ _ _ _ _ rfl).mono ?_; rintro e w' ⟨rfl, x1, rfl⟩)
  go_ret
  refine ⟨rfl, ?_⟩
  repeat (first | exact World.Ext.refl _ | exact ⟨_, rfl⟩ | assumption | refine World.Ext.over ?_ _ | refine World.Ext.drewN ?_ _ | refine World.Ext.drew ?_ | refine World.Ext.alloc ?_ _ | refine World.Ext.setCell ?_ (by simp) _)
/-- A row of a table is as it should be. -/
def rowOk (width : Nat) (most : Int) (r : List Int) : Bool := decide (r.length = width) && r.all fun n => inB n 0 most
/-- A table of numbers from 0 to 'most', of 1 to 16 rows and columns. -/
def tableOk (m : List (List Int)) (most : Int) : Bool := inB m.length 1 16 && inB (m.getD 0 []).length 1 16 && m.all (rowOk (m.getD 0 []).length most)
theorem all_getD {α : Type} {p : α → Bool} {l : List α} {d : α} : l.all p = true ↔ ∀ i, i < l.length → p (l.getD i d) = true := by
  rw [List.all_eq_true]
  constructor
  · intro h i hi
    rw [List.getD_eq_getElem?_getD, List.getElem?_eq_getElem hi]
    exact h _ (List.getElem_mem hi)
  · intro h x hx
    obtain ⟨i, hi, rfl⟩ := List.getElem_of_mem hx
    have := h i hi
    rwa [List.getD_eq_getElem?_getD, List.getElem?_eq_getElem hi] at this
theorem all_false {α : Type} {p : α → Bool} {l : List α} {d : α} {i : Nat} (hi : i < l.length) (h : p (l.getD i d) = false) : l.all p = false := by
  cases hh : l.all p
  · rfl
  · rw [all_getD (d := d)] at hh
    rw [hh i hi] at h; cases h
end Go.Proofs.Ytpploijlijnahaa
