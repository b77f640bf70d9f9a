/- The statement BundleFirst: its contract. -/
import Derived.Test.YtbmohbeocnfefaaP10
import Derived.Test.YtbmohbeocnfefaaT38
namespace Go.Proofs.Ytbmohbeocnfefaa
open Go Go.Eng Go.RowKit

end Go.Proofs.Ytbmohbeocnfefaa
