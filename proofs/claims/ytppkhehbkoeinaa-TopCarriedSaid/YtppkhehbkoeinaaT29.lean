/- The program's functions Leave, Play, ProveTruth: their contracts. -/
import Derived.Test.YtppkhehbkoeinaaT28
namespace Go.Proofs.Ytppkhehbkoeinaa
open Go Go.Eng Go.RowKit

end Go.Proofs.Ytppkhehbkoeinaa
