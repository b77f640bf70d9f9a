/- The statement ErrandEnds: its contract. -/
import Derived.Test.YtppkhehbkoeinaaT81
namespace Go.Proofs.Ytppkhehbkoeinaa
open Go Go.Eng Go.RowKit

end Go.Proofs.Ytppkhehbkoeinaa
