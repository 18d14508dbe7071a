/- Two pictures joined pixel by pixel; one inside the other; the same. -/
import Derived.Test.YtkpgelhmeokemaaRecF
import Derived.Test.YtkpgelhmeokemaaJnP
namespace Go.Proofs.Ytkpgelhmeokemaa
open Go Go.RowKit
/-- The pixels of two pictures joined. -/
def jnG (k : Nat) (ss tt : List ByteArray) (x y : Nat) : Bool := joinB k (pxl (picW ss) ss.length (picL ss) x y) (pxl (picW tt) tt.length (picL tt) x y)
theorem insideB_at {l l' : List Bool} : (List.range l.length).all (fun i => !(l.getD i false) || l'.getD i false) = true ↔ ∀ i, i < l.length → l.getD i false = true → l'.getD i false = true := by
  rw [List.all_eq_true]
  constructor
  · intro h i hi hl
    have := h i (List.mem_range.2 hi)
    rw [hl] at this
    simpa using this
  · intro h i hi
    have hi := List.mem_range.1 hi
    cases hl : l.getD i false
    · rfl
    · rw [h i hi hl]; rfl
def insB (l l' : List Bool) : Bool := (List.range l.length).all (fun i => !(l.getD i false) || l'.getD i false)
end Go.Proofs.Ytkpgelhmeokemaa
