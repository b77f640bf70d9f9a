/- The statement BundleOwn: its contract. -/
import Derived.Test.YtbmohbeocnfefaaT35
import Derived.Test.YtbmohbeocnfefaaP8
namespace Go.Proofs.Ytbmohbeocnfefaa
open Go Go.Eng Go.RowKit

end Go.Proofs.Ytbmohbeocnfefaa
