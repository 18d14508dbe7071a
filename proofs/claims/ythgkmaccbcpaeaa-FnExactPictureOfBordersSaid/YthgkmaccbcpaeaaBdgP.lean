/- Borders that are given by a start and letters: plain. -/
import Derived.Test.YthgkmaccbcpaeaaBdA
namespace Go.Proofs.Ythgkmaccbcpaeaa
open Go Go.RowKit
/-- The number of a letter; 4 of another byte. -/
def stC (c : Nat) : Nat := if c = 114 then 0 else if c = 100 then 1 else if c = 108 then 2 else if c = 117 then 3 else 4
def stI (c : Nat) : Int := if stC c < 4 then (stC c : Int) else -1
def stN (s : ByteArray) (i : Nat) : Nat := if h : i < s.size then stC (s[i]'h).toNat else 4
theorem stN_at {s : ByteArray} {i : Nat} (h : i < s.size) : stN s i = stC (s[i]'h).toNat := dif_pos h
theorem stC_le (c : Nat) : stC c ≤ 4 := by unfold stC; split <;> (try split) <;> (try split) <;> (try split) <;> omega
theorem stC_let {k : Nat} (h : k < 4) : stC (letN k) = k := by
  have h4 : k = 0 ∨ k = 1 ∨ k = 2 ∨ k = 3 := by omega
  rcases h4 with rfl | rfl | rfl | rfl <;> rfl
def gX (x : Int) (s : ByteArray) : Nat → Int
  | 0 => x
  | i + 1 => wrap64 (gX x s i + dX (stN s i))
def gY (y : Int) (s : ByteArray) : Nat → Int
  | 0 => y
  | i + 1 => wrap64 (gY y s i + dY (stN s i))
def gE (x y : Int) (s : ByteArray) (i : Nat) : Edg := ⟨gX x s i, gY y s i, stN s i⟩
def allSt (s : ByteArray) (n : Nat) : Prop := ∀ i, i < n → stN s i < 4
def inC (x y : Int) : Prop := 0 ≤ x ∧ x ≤ 16 ∧ 0 ≤ y ∧ y ≤ 16
/-- What is asked of each step. -/
def stepR (x y : Int) (s : ByteArray) (i : Nat) : Prop := inC (gX x s i) (gY y s i) ∧ (∀ j, j < i → gE x y s j ≠ gE x y s i) ∧ (stN s ((i + s.size - 1) % s.size) + 2) % 4 ≠ stN s i
structure IsBd (x y : Int) (s : ByteArray) : Prop where
  lo : 4 ≤ s.size
  hi : s.size ≤ 600
  st : allSt s s.size
  ok : ∀ i, i < s.size → stepR x y s i
  bx : gX x s s.size = x
  by_ : gY y s s.size = y
theorem wrap_wrap (z : Int) : wrap64 (wrap64 z) = wrap64 z := by unfold wrap64; omega
theorem gX_wf {x : Int} (hx : wrap64 x = x) (s : ByteArray) : ∀ i, wrap64 (gX x s i) = gX x s i
  | 0 => hx
  | _ + 1 => wrap_wrap _
theorem gY_wf {y : Int} (hy : wrap64 y = y) (s : ByteArray) : ∀ i, wrap64 (gY y s i) = gY y s i
  | 0 => hy
  | _ + 1 => wrap_wrap _
def gEs (x y : Int) (s : ByteArray) (n : Nat) : List (Int × Int × Int) := (List.range n).map fun i => ((gE x y s i).x, (gE x y s i).y, ((gE x y s i).k : Int))
theorem gEs_len (x y : Int) (s : ByteArray) (n : Nat) : (gEs x y s n).length = n := by simp [gEs]
theorem gEs_succ (x y : Int) (s : ByteArray) (n : Nat) : gEs x y s (n + 1) = gEs x y s n ++ [(gX x s n, gY y s n, (stN s n : Int))] := by simp [gEs, List.range_succ, gE]
theorem gEs_at {x y : Int} {s : ByteArray} {n i : Nat} (h : i < n) : (gEs x y s n).getD i (0, 0, 0) = (gX x s i, gY y s i, (stN s i : Int)) := by
  simp [gEs, List.getD_eq_getElem?_getD, h, gE]
section
variable {f : Int → Int → Bool} {e : Edg}
theorem wrd_st {i : Nat} (h : EOk f e) (hi : i < per f e) : stN (wrd f e) i = (itr f i e).k := by
  obtain ⟨hs, he⟩ := wrd_at hi
  rw [stN_at hs, he]
  exact stC_let (itr_ok h i).1
theorem wrap_small {z : Int} (h1 : -1000000 ≤ z) (h2 : z ≤ 1000000) : wrap64 z = z := by
  unfold wrap64
  omega
theorem wrd_gX {W H : Nat} (hb : InBx f W H) (hW : W ≤ 16) (hH : H ≤ 16) (h : EOk f e) : ∀ i, i ≤ per f e → gX e.x (wrd f e) i = (itr f i e).x ∧ gY e.y (wrd f e) i = (itr f i e).y
  | 0, _ => ⟨rfl, rfl⟩
  | i + 1, hi => by
    obtain ⟨h1, h2⟩ := wrd_gX hb hW hH h i (by omega)
    have h3 := hb.edge (itr_ok h (i + 1))
    have e1 : (itr f (i + 1) e).x = (itr f i e).x + dX (itr f i e).k := rfl
    have e2 : (itr f (i + 1) e).y = (itr f i e).y + dY (itr f i e).k := rfl
    constructor
    · show wrap64 (gX e.x (wrd f e) i + dX (stN (wrd f e) i)) = _
      rw [h1, wrd_st h (by omega), ← e1]
      exact wrap_small (by omega) (by omega)
    · show wrap64 (gY e.y (wrd f e) i + dY (stN (wrd f e) i)) = _
      rw [h2, wrd_st h (by omega), ← e2]
      exact wrap_small (by omega) (by omega)
theorem wrd_gE {W H : Nat} (hb : InBx f W H) (hW : W ≤ 16) (hH : H ≤ 16) (h : EOk f e) {i : Nat} (hi : i < per f e) : gE e.x e.y (wrd f e) i = itr f i e := by
  obtain ⟨h1, h2⟩ := wrd_gX hb hW hH h i (by omega)
  unfold gE
  rw [h1, h2, wrd_st h hi]
end
end Go.Proofs.Ythgkmaccbcpaeaa
