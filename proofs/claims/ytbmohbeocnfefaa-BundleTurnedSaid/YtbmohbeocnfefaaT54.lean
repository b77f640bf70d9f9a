/- Append to an empty literal that is not owned. -/
import Derived.Test.YtbmohbeocnfefaaT53
import Derived.Test.YtbmohbeocnfefaaT99
namespace Go.Proofs.Ytbmohbeocnfefaa
end Go.Proofs.Ytbmohbeocnfefaa
