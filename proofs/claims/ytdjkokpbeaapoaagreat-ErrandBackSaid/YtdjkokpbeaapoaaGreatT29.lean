/- The program's functions Leave, Play, ProveTruth: their contracts. -/
import Derived.Test.YtdjkokpbeaapoaaGreatT28
namespace Go.Proofs.YtdjkokpbeaapoaaGreat
open Go Go.Eng Go.RowKit

end Go.Proofs.YtdjkokpbeaapoaaGreat
