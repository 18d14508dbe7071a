/- Quadtrees: the best shift. -/
import Derived.Test.YtkpgelhmeokemaaQtC
namespace Go.Proofs.Ytkpgelhmeokemaa
open Go Go.RowKit
/-- A shifted picture. -/
def shF (W H : Nat) (L : List Bool) (a b i j : Nat) : Bool := pxl W H L ((i : Int) - a) ((j : Int) - b)
/-- How many leaves a shifted picture has. -/
def shN (W H : Nat) (L : List Bool) (a b : Nat) : Nat := lcN (shF W H L a b) 3 0 0
/-- The best shift of those that were tried. -/
structure BestTo (N : Nat → Nat → Nat) (A dy dx : Nat) (u v n : Int) : Prop where
  none : dy = 0 → dx = 0 → u = 0 ∧ v = 0 ∧ n = -1
  some : 0 < dy ∨ 0 < dx → ∃ x y : Nat, u = x ∧ v = y ∧ n = N x y ∧ x < A ∧ (y < dy ∨ y = dy ∧ x < dx) ∧ ∀ a b, a < A → (b < dy ∨ b = dy ∧ a < dx) → N x y ≤ N a b ∧ (N a b = N x y → y < b ∨ y = b ∧ x ≤ a)
theorem BestTo.start (N : Nat → Nat → Nat) (A : Nat) : BestTo N A 0 0 0 0 (-1) := ⟨fun _ _ => ⟨rfl, rfl, rfl⟩, fun h => by omega⟩
theorem BestTo.row {N : Nat → Nat → Nat} {A dy : Nat} {u v n : Int} (hA : 0 < A) (h : BestTo N A dy A u v n) : BestTo N A (dy + 1) 0 u v n := by
  refine ⟨fun h => by omega, fun _ => ?_⟩
  obtain ⟨x, y, h1, h2, h3, h4, h5, h6⟩ := h.some (.inr hA)
  exact ⟨x, y, h1, h2, h3, h4, by omega, fun a b ha hb => h6 a b ha (by omega)⟩
theorem BestTo.new {N : Nat → Nat → Nat} {A dy dx : Nat} {u v n : Int} (hx : dx < A) (h : BestTo N A dy dx u v n) (hm : n < 0 ∨ (N dx dy : Int) < n) : BestTo N A dy (dx + 1) dx dy (N dx dy) := by
  refine ⟨fun _ h => by omega, fun _ => ⟨dx, dy, rfl, rfl, rfl, hx, by omega, fun a b ha hb => ?_⟩⟩
  by_cases e : a = dx ∧ b = dy
  · obtain ⟨rfl, rfl⟩ := e
    exact ⟨Nat.le_refl _, fun _ => by omega⟩
  · by_cases h0 : 0 < dy ∨ 0 < dx
    · obtain ⟨x, y, h1, h2, h3, h4, h5, h6⟩ := h.some h0
      have := h6 a b ha (by omega)
      omega
    · omega
theorem BestTo.old {N : Nat → Nat → Nat} {A dy dx : Nat} {u v n : Int} (hx : dx < A) (h : BestTo N A dy dx u v n) (hm : ¬ n < 0) (hm2 : ¬ (N dx dy : Int) < n) : BestTo N A dy (dx + 1) u v n := by
  refine ⟨fun _ h => by omega, fun _ => ?_⟩
  by_cases h0 : 0 < dy ∨ 0 < dx
  · obtain ⟨x, y, h1, h2, h3, h4, h5, h6⟩ := h.some h0
    refine ⟨x, y, h1, h2, h3, h4, by omega, fun a b ha hb => ?_⟩
    by_cases e : a = dx ∧ b = dy
    · obtain ⟨rfl, rfl⟩ := e
      omega
    · exact h6 a b ha (by omega)
  · obtain ⟨-, -, h3⟩ := h.none (by omega) (by omega)
    omega
/-- The best of all shifts. -/
def BestOf (N : Nat → Nat → Nat) (A B : Nat) (x y : Nat) : Prop := x < A ∧ y < B ∧ ∀ a b, a < A → b < B → N x y ≤ N a b ∧ (N a b = N x y → y < b ∨ y = b ∧ x ≤ a)
theorem BestTo.all {N : Nat → Nat → Nat} {A B : Nat} {u v n : Int} (hB : 0 < B) (h : BestTo N A B 0 u v n) : ∃ x y : Nat, u = x ∧ v = y ∧ n = N x y ∧ BestOf N A B x y := by
  obtain ⟨x, y, h1, h2, h3, h4, h5, h6⟩ := h.some (.inl hB)
  exact ⟨x, y, h1, h2, h3, h4, by omega, fun a b ha hb => h6 a b ha (by omega)⟩
theorem lcN_cnt (f : Nat → Nat → Bool) (n x y : Nat) : lcN f n x y = cntT (qtext f n x y) := by
  rw [← qtr_lcN f n x y 0 0 ⟨#[]⟩, lvs_cnt _ _ _ _ _ (qtr_fits _ _ _ _), qtr_text]
theorem lcN_congr {f g : Nat → Nat → Bool} {n : Nat} (h : ∀ i j, i < 2 ^ n → j < 2 ^ n → f i j = g i j) : lcN f n 0 0 = lcN g n 0 0 := by
  rw [lcN_cnt, lcN_cnt, qtext_congr n 0 0 (f := f) (g := g) fun i j _ h2 _ h4 => h i j (by omega) (by omega)]
end Go.Proofs.Ytkpgelhmeokemaa
