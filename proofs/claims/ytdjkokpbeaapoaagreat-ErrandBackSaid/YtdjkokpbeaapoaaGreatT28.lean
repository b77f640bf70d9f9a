/- The program's function Leave: its contract. -/
import Derived.Test.YtdjkokpbeaapoaaGreatT22
import Derived.Test.YtdjkokpbeaapoaaGreatP1
namespace Go.Proofs.YtdjkokpbeaapoaaGreat
open Go Go.Eng Go.RowKit

end Go.Proofs.YtdjkokpbeaapoaaGreat
