/- The statement BundleLooked: its contract. -/
import Derived.Test.YtbmohbeocnfefaaT37
namespace Go.Proofs.Ytbmohbeocnfefaa
open Go Go.Eng Go.RowKit

end Go.Proofs.Ytbmohbeocnfefaa
