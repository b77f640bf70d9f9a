/- The statement ErrandComes: its contract. -/
import Derived.Test.YtppkhehbkoeinaaT76
namespace Go.Proofs.Ytppkhehbkoeinaa
open Go Go.Eng Go.RowKit

end Go.Proofs.Ytppkhehbkoeinaa
