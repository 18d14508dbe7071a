/- What the laws do with results that are tables, numbers, pairs. -/
import Derived.Test.YthgkmaccbcpaeaaDoorLaws
namespace Go.Proofs.YthgkmaccbcpaeaaDoor
open Go.RowKit
theorem eqInt64SS_res (a b : Option Addr) (c c' : Nat) (A B : Nat → Option Addr) (C D : Nat → Nat) (m : List (List Int)) (w : World) (hn : MatBnd m ∧ offM m m.length ≤ 1048576) (ha : MatAt w a A C m) (hb : MatAt w b B D m) :
    Calls Tryd.prog 38 #[.slice a m.length c, .slice b m.length c'] w fun e w' => e = .returned (.bool true) ∧ w.Ext w' :=
  eqInt64SS_any a b c c' A B C D m w (Nat.le_trans hn.1.1 (by unfold maxLen; omega)) (fun r => Nat.le_trans (hn.1.2 r) (by unfold maxLen; omega)) ha hb
theorem markInt64SS_res (a : Option Addr) (c : Nat) (A : Nat → Option Addr) (C : Nat → Nat) (m : List (List Int)) (k0 lo hi : Nat) (w : World) (hn : MatBnd m ∧ offM m m.length ≤ 1048576) (h1 : k0 ≤ 2097152) (ha : OwnMat lo hi w a A C m) :
    Calls Tryd.prog 66 #[.slice a m.length c, .int .i64 k0] w fun e w' => e = .returned (.int .i64 (k0 + offM m m.length : Nat)) ∧ Wrote (fun b => lo ≤ b ∧ b < hi) w w' ∧ OwnMat lo hi w' a A C (marksM k0 m) := by
  have h := markInt64SS_any a c A C m k0 lo hi w hn.1.1 hn.1.2 (by omega) (by have := hn.2; omega) ha
  rw [← Int.natCast_add] at h
  exact h
theorem heldInt64SS_res (a : Option Addr) (c : Nat) (A : Nat → Option Addr) (C : Nat → Nat) (m : List (List Int)) (k0 : Nat) (w : World) (hn : MatBnd m ∧ offM m m.length ≤ 1048576) (h1 : k0 ≤ 2097152) (ha : MatAt w a A C (marksM k0 m)) :
    Calls Tryd.prog 67 #[.slice a m.length c, .int .i64 k0] w fun e w' => e = .returned (.int .i64 (k0 + offM m m.length : Nat)) ∧ w.Ext w' := by
  have h := heldInt64SS_any a c A C m k0 w hn.1.1 hn.1.2 (by omega) (by have := hn.2; omega) ha
  rw [← Int.natCast_add] at h
  exact h
theorem eqInt64S_res (a b : Option Addr) (c c' : Nat) (s : List Int) (w : World) (hn : s.length ≤ 1048576) (ha : RowI w a s) (hb : RowI w b s) :
    Calls Tryd.prog 77 #[.slice a s.length c, .slice b s.length c'] w fun e w' => e = .returned (.bool true) ∧ w.Ext w' :=
  eqInt64S_any a b c c' s w (Nat.le_trans hn (by unfold maxLen; omega)) ha hb
theorem markInt64S_res (a : Option Addr) (c : Nat) (s : List Int) (k0 lo hi : Nat) (w : World) (hn : s.length ≤ 1048576) (h1 : k0 ≤ 2097152) (ha : OwnOf (Value.int .i64) 0 lo hi w a s) :
    Calls Tryd.prog 96 #[.slice a s.length c, .int .i64 k0] w fun e w' => e = .returned (.int .i64 (k0 + s.length : Nat)) ∧ Wrote (fun b => lo ≤ b ∧ b < hi) w w' ∧ OwnOf (Value.int .i64) 0 lo hi w' a (marksI k0 s.length) := by
  have h := markInt64S_any a c s k0 lo hi w hn (by omega) (by omega) ha
  rw [← Int.natCast_add] at h
  refine h.mono fun e w' h => ⟨h.1, h.2.1.mono fun k _ hk => ⟨hk.1, hk.2.1⟩, h.2.2⟩
theorem heldInt64S_res (a : Option Addr) (c : Nat) (s : List Int) (k0 : Nat) (w : World) (hn : s.length ≤ 1048576) (h1 : k0 ≤ 2097152) (ha : RowI w a (marksI k0 s.length)) :
    Calls Tryd.prog 97 #[.slice a s.length c, .int .i64 k0] w fun e w' => e = .returned (.int .i64 (k0 + s.length : Nat)) ∧ w.Ext w' := by
  have h := heldInt64S_any a s.length c k0 w hn (by omega) (by omega) ha
  rw [← Int.natCast_add] at h
  exact h
end Go.Proofs.YthgkmaccbcpaeaaDoor
