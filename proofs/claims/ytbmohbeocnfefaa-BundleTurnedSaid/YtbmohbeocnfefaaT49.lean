/- Counted: its contract and its plain law. -/
import Derived.Test.YtbmohbeocnfefaaT39
import Derived.Test.YtbmohbeocnfefaaT43
namespace Go.Proofs.Ytbmohbeocnfefaa
open Go Go.Eng Go.RowKit

end Go.Proofs.Ytbmohbeocnfefaa
