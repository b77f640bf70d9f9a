/- Plain law: the chapter's examples, reckoned. -/
import Derived.Test.YtppkhehbkoeinaaT29
namespace Go.Proofs.Ytppkhehbkoeinaa
open Go Go.Eng Go.RowKit

end Go.Proofs.Ytppkhehbkoeinaa
