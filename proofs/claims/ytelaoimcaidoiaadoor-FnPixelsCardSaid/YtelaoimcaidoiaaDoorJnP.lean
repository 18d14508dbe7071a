/- How two colours are joined. -/
import Derived.Test.YtelaoimcaidoiaaDoorMem
namespace Go.Proofs.YtelaoimcaidoiaaDoor
def joinB (k : Nat) (a b : Bool) : Bool := match k with
  | 0 => a && b
  | 1 => a || b
  | 2 => a != b
  | _ => a && !b
end Go.Proofs.YtelaoimcaidoiaaDoor
