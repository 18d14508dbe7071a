/- What the laws do with results that are tables, numbers, pairs. -/
import Derived.Test.YtkpgelhmeokemaaGreatDoorLaws
namespace Go.Proofs.YtkpgelhmeokemaaGreatDoor
open Go.RowKit
end Go.Proofs.YtkpgelhmeokemaaGreatDoor
