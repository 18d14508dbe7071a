/- Grey pictures that grow within a mask: the program's walk. -/
import Derived.Test.YtahhnjoeaodcjaaGreyC
namespace Go.Proofs.Ytahhnjoeaodcjaa
open Go Go.RowKit
end Go.Proofs.Ytahhnjoeaodcjaa
