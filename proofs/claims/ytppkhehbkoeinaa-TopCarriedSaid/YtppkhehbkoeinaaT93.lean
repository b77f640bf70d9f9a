/- The statements' function chosen, its result a row of one's own. -/
import Derived.Test.YtppkhehbkoeinaaT83
namespace Go.Proofs.Ytppkhehbkoeinaa
open Go Go.Eng Go.RowKit

end Go.Proofs.Ytppkhehbkoeinaa
