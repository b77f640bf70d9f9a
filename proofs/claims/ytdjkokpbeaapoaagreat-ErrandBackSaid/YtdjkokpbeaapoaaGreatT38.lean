/- The statement BundleLooked: its contract. -/
import Derived.Test.YtdjkokpbeaapoaaGreatT37
namespace Go.Proofs.YtdjkokpbeaapoaaGreat
open Go Go.Eng Go.RowKit

end Go.Proofs.YtdjkokpbeaapoaaGreat
