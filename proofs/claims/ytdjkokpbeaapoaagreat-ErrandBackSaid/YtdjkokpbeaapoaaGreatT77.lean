/- The statement ErrandComes: its contract. -/
import Derived.Test.YtdjkokpbeaapoaaGreatT76
namespace Go.Proofs.YtdjkokpbeaapoaaGreat
open Go Go.Eng Go.RowKit

end Go.Proofs.YtdjkokpbeaapoaaGreat
