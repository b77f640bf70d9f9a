/- Plain law: the chapter's examples, reckoned. -/
import Derived.Test.YtdjkokpbeaapoaaGreatT29
namespace Go.Proofs.YtdjkokpbeaapoaaGreat
open Go Go.Eng Go.RowKit

end Go.Proofs.YtdjkokpbeaapoaaGreat
