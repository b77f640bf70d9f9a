/- The statement BundleOwn: its contract. -/
import Derived.Test.YtdjkokpbeaapoaaGreatT35
import Derived.Test.YtdjkokpbeaapoaaGreatP8
namespace Go.Proofs.YtdjkokpbeaapoaaGreat
open Go Go.Eng Go.RowKit

abbrev aN (t : Table) : List Int → Int := fun l => ((astray t l).length : Int)
end Go.Proofs.YtdjkokpbeaapoaaGreat
