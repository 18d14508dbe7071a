/- ReconstructPicture, both sides. -/
import Derived.Test.YtelaoimcaidoiaaRecP
import Derived.Deep.RegionHeld3
import Derived.Deep.DeepCutAuto
namespace Go.Proofs.Ytelaoimcaidoiaa
open Go.RowKit
/-- What is reconstructed: g says which pixels are black. -/
def RecG (ss tt : List ByteArray) (eight : Bool) (g : Nat → Nat → Bool) : Prop :=
  ∀ x y : Nat, x < picW tt → y < tt.length → (g x y = true ↔ Rch (pxP (picW tt) tt.length (picL tt)) (nbA eight) (spotsTo (picW ss) (picL ss) (ss.length * picW ss)) ((x : Int), (y : Int)))
theorem RecG.ex (ss tt : List ByteArray) (eight : Bool) : ∃ g, RecG ss tt eight g :=
  ⟨fun x y => @decide (Rch (pxP (picW tt) tt.length (picL tt)) (nbA eight) (spotsTo (picW ss) (picL ss) (ss.length * picW ss)) ((x : Int), (y : Int))) (Classical.propDecidable _), fun x y _ _ => by simp⟩
theorem spotsTo_bnd {W H : Nat} {l : List Bool} (hW : W ≤ 64) (hH : H ≤ 64) : ∀ q, q ∈ spotsTo W l (H * W) → 0 ≤ q.1 ∧ q.1 ≤ 64 ∧ 0 ≤ q.2 ∧ q.2 ≤ 64 := by
  intro q hq
  rw [spotsTo_mem] at hq
  obtain ⟨x, y, rfl, h1, h2⟩ := pxP_nat hq
  dsimp only
  omega
theorem spotsTo_few {W H : Nat} {l : List Bool} (hW : W ≤ 64) (hH : H ≤ 64) : (spotsTo W l (H * W)).length ≤ 4096 := Nat.le_trans (spotsTo_len _ _ _) (Nat.mul_le_mul hH hW)
theorem keepS {w : World} {p p9 b2 : Nat} {v x y z : Value} (h1 : p9 ≠ p) (h2 : b2 ≠ p) (k1 : w.cell? ⟨p9, 0, none⟩ = some x) (k2 : w.cell? ⟨b2, 0, none⟩ = some y) (k3 : w.cell? ⟨b2, 1, none⟩ = some z) :
    (w.setCell ⟨p, 0, none⟩ v).cell? ⟨p9, 0, none⟩ = some x ∧ (w.setCell ⟨p, 0, none⟩ v).cell? ⟨b2, 0, none⟩ = some y ∧ (w.setCell ⟨p, 0, none⟩ v).cell? ⟨b2, 1, none⟩ = some z := by
  refine ⟨?_, ?_, ?_⟩
  · rw [World.cell?_of_block (a := ⟨p9, 0, none⟩) (Below.heap_setCell _ _ _ _ h1)]; exact k1
  · rw [World.cell?_of_block (a := ⟨b2, 0, none⟩) (Below.heap_setCell _ _ _ _ h2)]; exact k2
  · rw [World.cell?_of_block (a := ⟨b2, 1, none⟩) (Below.heap_setCell _ _ _ _ h2)]; exact k3
end Go.Proofs.Ytelaoimcaidoiaa
