/- The pixels around a pixel. -/
import Derived.Test.YtelaoimcaidoiaaListS
import Derived.Test.YtelaoimcaidoiaaCount
namespace Go.Proofs.Ytelaoimcaidoiaa
open Go.RowKit
/-- Does a pixel around have a colour? -/
def arB (px : Int → Int → Bool) (x y : Int) (black : Bool) (i j : Nat) : Bool := !(i == 1 && j == 1) && (px (x + ((i : Int) - 1)) (y + ((j : Int) - 1)) == black)
def nearN (px : Int → Int → Bool) (x y : Int) : Nat := (spotsTo 3 (mkl 3 3 (arB px x y true)) (3 * 3)).length
theorem nearN_le (px : Int → Int → Bool) (x y : Int) : nearN px x y ≤ 9 := spotsTo_len _ _ _
theorem nearN_around (px : Int → Int → Bool) (x y : Int) : nearN px x y = (nbA true (x, y)).countP fun q => px q.1 q.2 := by
  unfold nearN nbA arndL
  have e : mkl 3 3 (arB px x y true) = [px (x + -1) (y + -1), px (x + 0) (y + -1), px (x + 1) (y + -1), px (x + -1) (y + 0), false, px (x + 1) (y + 0), px (x + -1) (y + 1), px (x + 0) (y + 1), px (x + 1) (y + 1)] := by
    simp [mkl, arB, List.range_succ]
  rw [e]
  simp only [Nat.reduceMul, spotsTo_count, if_true, List.map_cons, List.map_nil, List.countP_cons, List.countP_nil]
  simp [spotsTo]
  omega
end Go.Proofs.Ytelaoimcaidoiaa
