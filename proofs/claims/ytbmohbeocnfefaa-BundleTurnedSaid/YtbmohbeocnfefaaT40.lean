/- The statement BundleEnds: its contract. -/
import Derived.Test.YtbmohbeocnfefaaPH1
import Derived.Test.YtbmohbeocnfefaaT38
import Derived.Test.YtbmohbeocnfefaaP9
namespace Go.Proofs.Ytbmohbeocnfefaa
open Go Go.Eng Go.RowKit

end Go.Proofs.Ytbmohbeocnfefaa
