/- The statements' function chosen, its result a row of one's own. -/
import Derived.Test.YtdjkokpbeaapoaaGreatT83
namespace Go.Proofs.YtdjkokpbeaapoaaGreat
open Go Go.Eng Go.RowKit

end Go.Proofs.YtdjkokpbeaapoaaGreat
