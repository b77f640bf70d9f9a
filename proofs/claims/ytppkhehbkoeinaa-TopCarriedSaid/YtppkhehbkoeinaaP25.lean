/- Plain law: the chapter's examples, reckoned. -/
import Derived.Test.YtppkhehbkoeinaaP20
import Derived.Test.YtppkhehbkoeinaaT70
import Derived.Test.YtppkhehbkoeinaaT73
namespace Go.Proofs.Ytppkhehbkoeinaa
open Go Go.Eng Go.RowKit

end Go.Proofs.Ytppkhehbkoeinaa

/- The statements' function awake of chapter 11: the chapter's examples hold. -/
namespace Go.Proofs.Ytppkhehbkoeinaa
open Go Go.Eng Go.RowKit

end Go.Proofs.Ytppkhehbkoeinaa
