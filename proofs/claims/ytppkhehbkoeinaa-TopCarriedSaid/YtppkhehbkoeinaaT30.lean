/- The statements' function awake: the chapter's examples hold. -/
import Derived.Test.YtppkhehbkoeinaaP6
namespace Go.Proofs.Ytppkhehbkoeinaa
open Go Go.Eng Go.RowKit

end Go.Proofs.Ytppkhehbkoeinaa
