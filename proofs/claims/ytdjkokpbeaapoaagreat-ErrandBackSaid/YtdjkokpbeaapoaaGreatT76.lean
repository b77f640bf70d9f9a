/- The reference's functions of chapter 11: their contracts. -/
import Derived.Test.YtdjkokpbeaapoaaGreatP25
namespace Go.Proofs.YtdjkokpbeaapoaaGreat
open Go Go.Eng Go.RowKit

end Go.Proofs.YtdjkokpbeaapoaaGreat
