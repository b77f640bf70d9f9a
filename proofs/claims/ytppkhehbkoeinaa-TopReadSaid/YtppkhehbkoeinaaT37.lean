/- The statement BundleOwn: its contract. -/
import Derived.Test.YtppkhehbkoeinaaT35
import Derived.Test.YtppkhehbkoeinaaP8
namespace Go.Proofs.Ytppkhehbkoeinaa
open Go Go.Eng Go.RowKit

abbrev aN (t : Table) : List Int → Int := fun l => ((astray t l).length : Int)
end Go.Proofs.Ytppkhehbkoeinaa
