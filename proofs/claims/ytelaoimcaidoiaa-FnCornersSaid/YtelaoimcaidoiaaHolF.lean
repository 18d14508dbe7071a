/- Holes and Euler numbers, both sides. -/
import Derived.Test.YtelaoimcaidoiaaLabI
import Derived.Test.YtelaoimcaidoiaaLabS
namespace Go.Proofs.Ytelaoimcaidoiaa
open Go.RowKit
/-- There are n components. -/
def LabN (W H : Nat) (l : List Bool) (eight : Bool) (n : Nat) : Prop := ∃ F, LabK (pxP W H l) (nbA eight) (spotsTo W l (H * W)) (spotsTo W l (H * W)).length F n
theorem LabN.ex (W H : Nat) (l : List Bool) (eight : Bool) : ∃ n, LabN W H l eight n := let ⟨F, n, h⟩ := LabK.ex (pxP W H l) (nbA eight) (spotsTo W l (H * W)) (spotsTo W l (H * W)).length; ⟨n, F, h⟩
theorem LabN.few {W H : Nat} {l : List Bool} {eight : Bool} {n : Nat} (h : LabN W H l eight n) : n ≤ H * W := let ⟨_, h⟩ := h; Nat.le_trans h.few.1 (spotsTo_len _ _ _)
/-- .. of what is white, with a white edge around it. -/
def HolN (W H : Nat) (l : List Bool) (eight : Bool) (n : Nat) : Prop := LabN (W + 2) (H + 2) ((padL W H l).map (!·)) (!eight) n
theorem HolN.ex (W H : Nat) (l : List Bool) (eight : Bool) : ∃ n, HolN W H l eight n := LabN.ex _ _ _ _
def optI (ok : Bool) (n : Int) : Int := if ok then n else 0
end Go.Proofs.Ytelaoimcaidoiaa
