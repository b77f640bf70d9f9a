/- The program's function Leave: its contract. -/
import Derived.Test.YtppkhehbkoeinaaT22
import Derived.Test.YtppkhehbkoeinaaP1
namespace Go.Proofs.Ytppkhehbkoeinaa
open Go Go.Eng Go.RowKit

end Go.Proofs.Ytppkhehbkoeinaa
