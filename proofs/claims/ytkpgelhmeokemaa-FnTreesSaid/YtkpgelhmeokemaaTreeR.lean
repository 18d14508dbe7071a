/- Quadtrees: the implementation's CombineTrees. -/
import Derived.Test.YtkpgelhmeokemaaQtC
namespace Go.Proofs.Ytkpgelhmeokemaa
open Go Go.RowKit
theorem keep2P {w : World} {p b2 b : Nat} {u v x y z : Value} (h : b2 ≠ p) (h' : b ≠ p) (k : w.cell? ⟨b2, 0, none⟩ = some x) (k1 : w.cell? ⟨b, 0, none⟩ = some y) (k2 : w.cell? ⟨b, 1, none⟩ = some z) :
    ((w.setCell ⟨p, 0, none⟩ u).setCell ⟨p, 1, none⟩ v).cell? ⟨b2, 0, none⟩ = some x ∧ ((w.setCell ⟨p, 0, none⟩ u).setCell ⟨p, 1, none⟩ v).cell? ⟨b, 0, none⟩ = some y ∧ ((w.setCell ⟨p, 0, none⟩ u).setCell ⟨p, 1, none⟩ v).cell? ⟨b, 1, none⟩ = some z := by
  have e : ∀ (c : Nat) (i : Nat), c ≠ p → ((w.setCell ⟨p, 0, none⟩ u).setCell ⟨p, 1, none⟩ v).cell? ⟨c, i, none⟩ = w.cell? ⟨c, i, none⟩ := fun c i hc => by
    rw [World.cell?_of_block (a := ⟨c, i, none⟩) (Below.heap_setCell _ _ _ _ hc), World.cell?_of_block (a := ⟨c, i, none⟩) (Below.heap_setCell _ _ _ _ hc)]
  exact ⟨by rw [e _ _ h]; exact k, by rw [e _ _ h']; exact k1, by rw [e _ _ h']; exact k2⟩
theorem comb_bnd (k z : Int) (s : ByteArray) (z' : Int) (s' : ByteArray) : (optT (combO k z s z' s')).2.size ≤ maxLen := optT_le fun q h => by
  obtain ⟨-, -, n, T, T', h1, -, h3⟩ := combO_some (show combO k z s z' s' ≠ none by rw [h]; exact fun e => by cases e)
  rw [h3] at h
  cases h
  exact txG_size _ (opn_some h1).1
end Go.Proofs.Ytkpgelhmeokemaa
