/- The statements' function awake: the chapter's examples hold. -/
import Derived.Test.YtdjkokpbeaapoaaGreatP6
namespace Go.Proofs.YtdjkokpbeaapoaaGreat
open Go Go.Eng Go.RowKit

end Go.Proofs.YtdjkokpbeaapoaaGreat
