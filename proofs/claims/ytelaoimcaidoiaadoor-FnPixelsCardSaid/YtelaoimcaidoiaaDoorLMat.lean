/- What the laws do with results that are tables, numbers, pairs. -/
import Derived.Test.YtelaoimcaidoiaaDoorLaws
namespace Go.Proofs.YtelaoimcaidoiaaDoor
open Go.RowKit
end Go.Proofs.YtelaoimcaidoiaaDoor
