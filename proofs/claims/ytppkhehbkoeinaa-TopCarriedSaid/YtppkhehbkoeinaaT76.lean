/- The reference's functions of chapter 11: their contracts. -/
import Derived.Test.YtppkhehbkoeinaaP25
namespace Go.Proofs.Ytppkhehbkoeinaa
open Go Go.Eng Go.RowKit

end Go.Proofs.Ytppkhehbkoeinaa
