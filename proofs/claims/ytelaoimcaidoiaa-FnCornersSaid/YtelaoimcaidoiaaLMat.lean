/- What the laws do with results that are tables, numbers, pairs. -/
import Derived.Test.YtelaoimcaidoiaaLaws
namespace Go.Proofs.Ytelaoimcaidoiaa
open Go.RowKit
end Go.Proofs.Ytelaoimcaidoiaa
