/- The statement BundleLies: its contract. -/
import Derived.Test.YtppkhehbkoeinaaT42
import Derived.Test.YtppkhehbkoeinaaT38
namespace Go.Proofs.Ytppkhehbkoeinaa
open Go Go.Eng Go.RowKit

end Go.Proofs.Ytppkhehbkoeinaa
