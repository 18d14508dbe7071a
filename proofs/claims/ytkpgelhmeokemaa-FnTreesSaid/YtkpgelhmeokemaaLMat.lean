/- What the laws do with results that are tables, numbers, pairs. -/
import Derived.Test.YtkpgelhmeokemaaLaws
namespace Go.Proofs.Ytkpgelhmeokemaa
open Go.RowKit
end Go.Proofs.Ytkpgelhmeokemaa
