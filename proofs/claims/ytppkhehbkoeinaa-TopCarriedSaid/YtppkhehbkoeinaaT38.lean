/- The statement BundleLooked: its contract. -/
import Derived.Test.YtppkhehbkoeinaaT37
namespace Go.Proofs.Ytppkhehbkoeinaa
open Go Go.Eng Go.RowKit

end Go.Proofs.Ytppkhehbkoeinaa
