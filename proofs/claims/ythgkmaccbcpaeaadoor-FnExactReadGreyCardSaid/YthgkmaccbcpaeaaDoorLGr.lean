/- What the laws do with grey pictures and tables that come in, and with grey pictures that are results. -/
import Derived.Test.YthgkmaccbcpaeaaDoorLMat
namespace Go.Proofs.YthgkmaccbcpaeaaDoor
open Go.RowKit
theorem le_sum_of_memG : ∀ (l : List Nat) (x : Nat), x ∈ l → x ≤ l.sum
  | [], x, h => by cases h
  | y :: l, x, h => by
    rw [List.sum_cons]
    rcases List.mem_cons.1 h with rfl | h
    · omega
    · have := le_sum_of_memG l x h
      omega
theorem szM_bounds {m : List (List Int)} {left z : Int} (hl : left ≤ 1048576) (h : szSS left (m.map List.length) = z) (h0 : 0 ≤ z) : MatBnd m ∧ z + offM m m.length ≤ left := by
  unfold szSS at h
  split at h
  · omega
  · have h1 := szGo_le (m.map List.length) (left - ((m.map List.length).length : Int)) (by rw [h]; exact h0)
    rw [h] at h1
    have e1 : (m.map List.length).length = m.length := by simp
    rw [e1] at h1
    have e2 := offM_all m
    refine ⟨⟨by omega, fun r => ?_⟩, by omega⟩
    by_cases hr : r < m.length
    · have h2 : (m.getD r []).length ≤ (m.map List.length).sum := by
        apply le_sum_of_memG
        rw [List.mem_map]
        exact ⟨m.getD r [], by rw [List.getD_eq_getElem?_getD, List.getElem?_eq_getElem hr]; exact List.getElem_mem hr, rfl⟩
      omega
    · simp [List.getD_eq_getElem?_getD, hr]
theorem szM_hi {m : List (List Int)} {left : Int} (hl : 0 ≤ left) : szSS left (m.map List.length) ≤ left := szSS_hi hl _
theorem szGrey_ok (a : Option Addr) (c : Nat) (A : Nat → Option Addr) (C : Nat → Nat) (m : List (List Int)) (left : Int) (w : World) (hl : 0 ≤ left) (hl2 : left ≤ 1048576) (hm : MatAt w a A C m) (hn : MatLen m) :
    Calls Tryd.prog 6 #[.agg #[.slice a m.length c], .int .i64 left] w fun e w' => ∃ z : Int, e = .returned (.int .i64 z) ∧ w.Ext w' ∧ z ≤ left ∧ (0 ≤ z → MatBnd m ∧ z + offM m m.length ≤ left) := by
  refine (szGrey_any a c A C m left w hl hl2 hn.1 hm hn.2).mono ?_
  rintro e w' ⟨rfl, hx⟩
  have hhi := szM_hi (m := m) hl
  refine ⟨_, rfl, hx, ?_, fun h => ?_⟩
  · split <;> omega
  · split at h
    · omega
    · rename_i hz
      rw [if_neg hz]
      exact szM_bounds hl2 rfl (by omega)
theorem szInt64SS_ok (a : Option Addr) (c : Nat) (A : Nat → Option Addr) (C : Nat → Nat) (m : List (List Int)) (left : Int) (w : World) (hl : 0 ≤ left) (hl2 : left ≤ 1048576) (hm : MatAt w a A C m) (hn : MatLen m) :
    Calls Tryd.prog 31 #[.slice a m.length c, .int .i64 left] w fun e w' => ∃ z : Int, e = .returned (.int .i64 z) ∧ w.Ext w' ∧ z ≤ left ∧ (0 ≤ z → MatBnd m ∧ z + offM m m.length ≤ left) := by
  refine (szInt64SS_any a c A C m left w hl hl2 hn.1 hm hn.2).mono ?_
  rintro e w' ⟨rfl, hx⟩
  exact ⟨_, rfl, hx, szM_hi hl, fun h => szM_bounds hl2 rfl h⟩
theorem toGrey_ok (a : Option Addr) (c : Nat) (A : Nat → Option Addr) (C : Nat → Nat) (m : List (List Int)) (w : World) (hn : MatBnd m) (hm : MatAt w a A C m) :
    Calls Tryd.prog 8 #[.agg #[.slice a m.length c]] w fun e w' => ∃ g A' C', e = .returned (.agg #[.slice (some ⟨g, 0, none⟩) m.length m.length]) ∧ w.Ext w' ∧ OwnMat w.heap.size w'.heap.size w' (some ⟨g, 0, none⟩) A' C' m :=
  (toGrey_any a c A C m w hn.1 hn.2 hm).mono fun _ _ ⟨g, A', h⟩ => ⟨g, A', _, h⟩
theorem toInt64SS_ok (a : Option Addr) (c : Nat) (A : Nat → Option Addr) (C : Nat → Nat) (m : List (List Int)) (w : World) (hn : MatBnd m) (hm : MatAt w a A C m) :
    Calls Tryd.prog 34 #[.slice a m.length c] w fun e w' => ∃ g A' C', e = .returned (.slice (some ⟨g, 0, none⟩) m.length m.length) ∧ w.Ext w' ∧ OwnMat w.heap.size w'.heap.size w' (some ⟨g, 0, none⟩) A' C' m := by
  refine (toInt64SS_any a c A C m w hn.1 hn.2 hm).mono ?_
  rintro e w' ⟨g, G, rfl, hS⟩
  exact ⟨g, _, _, rfl, hS.ext, hS.own⟩
theorem eqGrey_ok (a b : Option Addr) (c c' : Nat) (A B : Nat → Option Addr) (C D : Nat → Nat) (m : List (List Int)) (w : World) (hn : MatBnd m) (ha : MatAt w a A C m) (hb : MatAt w b B D m) :
    Calls Tryd.prog 10 #[.agg #[.slice a m.length c], .agg #[.slice b m.length c']] w fun e w' => e = .returned (.bool true) ∧ w.Ext w' :=
  eqGrey_any a b c c' A B C D m w (Nat.le_trans hn.1 (by unfold maxLen; omega)) (fun r => Nat.le_trans (hn.2 r) (by unfold maxLen; omega)) ha hb
theorem eqGrey_res (a b : Option Addr) (c c' : Nat) (A B : Nat → Option Addr) (C D : Nat → Nat) (m : List (List Int)) (w : World) (hn : MatBnd m ∧ offM m m.length ≤ 1048576) (ha : MatAt w a A C m) (hb : MatAt w b B D m) :
    Calls Tryd.prog 10 #[.agg #[.slice a m.length c], .agg #[.slice b m.length c']] w fun e w' => e = .returned (.bool true) ∧ w.Ext w' := eqGrey_ok a b c c' A B C D m w hn.1 ha hb
theorem eqInt64SS_ok (a b : Option Addr) (c c' : Nat) (A B : Nat → Option Addr) (C D : Nat → Nat) (m : List (List Int)) (w : World) (hn : MatBnd m) (ha : MatAt w a A C m) (hb : MatAt w b B D m) :
    Calls Tryd.prog 38 #[.slice a m.length c, .slice b m.length c'] w fun e w' => e = .returned (.bool true) ∧ w.Ext w' :=
  eqInt64SS_any a b c c' A B C D m w (Nat.le_trans hn.1 (by unfold maxLen; omega)) (fun r => Nat.le_trans (hn.2 r) (by unfold maxLen; omega)) ha hb
theorem markGrey_ok (a : Option Addr) (c : Nat) (A : Nat → Option Addr) (C : Nat → Nat) (m : List (List Int)) (k0 lo hi : Nat) (w : World) (hn : MatBnd m) (h1 : k0 ≤ 2097152 ∧ offM m m.length ≤ 1048576) (ha : OwnMat lo hi w a A C m) :
    Calls Tryd.prog 29 #[.agg #[.slice a m.length c], .int .i64 k0] w fun e w' => e = .returned (.int .i64 (k0 + offM m m.length : Nat)) ∧ Wrote (fun b => lo ≤ b ∧ b < hi) w w' ∧ OwnMat lo hi w' a A C (marksM k0 m) := by
  have h := markGrey_any a c A C m k0 lo hi w hn.1 hn.2 (by omega) (by have := h1.1; have := h1.2; omega) ha
  rw [← Int.natCast_add] at h
  exact h
theorem markGrey_res (a : Option Addr) (c : Nat) (A : Nat → Option Addr) (C : Nat → Nat) (m : List (List Int)) (k0 lo hi : Nat) (w : World) (hn : MatBnd m ∧ offM m m.length ≤ 1048576) (h1 : k0 ≤ 2097152) (ha : OwnMat lo hi w a A C m) :
    Calls Tryd.prog 29 #[.agg #[.slice a m.length c], .int .i64 k0] w fun e w' => e = .returned (.int .i64 (k0 + offM m m.length : Nat)) ∧ Wrote (fun b => lo ≤ b ∧ b < hi) w w' ∧ OwnMat lo hi w' a A C (marksM k0 m) := markGrey_ok a c A C m k0 lo hi w hn.1 ⟨h1, hn.2⟩ ha
theorem markInt64SS_ok (a : Option Addr) (c : Nat) (A : Nat → Option Addr) (C : Nat → Nat) (m : List (List Int)) (k0 lo hi : Nat) (w : World) (hn : MatBnd m) (h1 : k0 ≤ 2097152 ∧ offM m m.length ≤ 1048576) (ha : OwnMat lo hi w a A C m) :
    Calls Tryd.prog 66 #[.slice a m.length c, .int .i64 k0] w fun e w' => e = .returned (.int .i64 (k0 + offM m m.length : Nat)) ∧ Wrote (fun b => lo ≤ b ∧ b < hi) w w' ∧ OwnMat lo hi w' a A C (marksM k0 m) := markInt64SS_res a c A C m k0 lo hi w ⟨hn, h1.2⟩ h1.1 ha
theorem heldGrey_res (a : Option Addr) (c : Nat) (A : Nat → Option Addr) (C : Nat → Nat) (m : List (List Int)) (k0 : Nat) (w : World) (hn : MatBnd m ∧ offM m m.length ≤ 1048576) (h1 : k0 ≤ 2097152) (ha : MatAt w a A C (marksM k0 m)) :
    Calls Tryd.prog 30 #[.agg #[.slice a m.length c], .int .i64 k0] w fun e w' => e = .returned (.int .i64 (k0 + offM m m.length : Nat)) ∧ w.Ext w' := by
  have h := heldGrey_any a c A C m k0 w hn.1.1 hn.1.2 (by omega) (by have := hn.2; omega) ha
  rw [← Int.natCast_add] at h
  exact h
end Go.Proofs.YthgkmaccbcpaeaaDoor
