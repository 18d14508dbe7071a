/- What the laws do with results that are tables, numbers, pairs. -/
import Derived.Test.YthgkmaccbcpaeaaLaws
namespace Go.Proofs.Ythgkmaccbcpaeaa
open Go.RowKit
end Go.Proofs.Ythgkmaccbcpaeaa
