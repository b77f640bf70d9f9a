/- The statement BundleMore: its contract. -/
import Derived.Test.YtbmohbeocnfefaaT45
import Derived.Test.YtbmohbeocnfefaaT41
import Derived.Test.YtbmohbeocnfefaaT43
namespace Go.Proofs.Ytbmohbeocnfefaa
open Go Go.Eng Go.RowKit

end Go.Proofs.Ytbmohbeocnfefaa
