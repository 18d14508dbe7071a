/- Numbers of components: the reference's side. -/
import Derived.Test.YtpdmfnndegcjjaaListS
import Derived.Test.YtpdmfnndegcjjaaLab
import Derived.Test.YtpdmfnndegcjjaaRecF
namespace Go.Proofs.Ytpdmfnndegcjjaa
open Go.RowKit
end Go.Proofs.Ytpdmfnndegcjjaa
