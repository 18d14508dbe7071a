/- The reference's ways with a picture that lies in a list. -/
import Derived.Test.YtkpgelhmeokemaaGreatDoorRecF
import Derived.Test.YtkpgelhmeokemaaGreatDoorListS
namespace Go.Proofs.YtkpgelhmeokemaaGreatDoor
open Go.RowKit
end Go.Proofs.YtkpgelhmeokemaaGreatDoor
