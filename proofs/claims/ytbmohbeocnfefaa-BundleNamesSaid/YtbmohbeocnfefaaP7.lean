/- Plain law: what the program answers is what the reference answers. -/
import Derived.Test.YtbmohbeocnfefaaP1
import Derived.Test.YtbmohbeocnfefaaT22
namespace Go.Proofs.Ytbmohbeocnfefaa
open Go Go.Eng Go.RowKit

end Go.Proofs.Ytbmohbeocnfefaa
