/- Plain law: what the program answers is what the reference answers. -/
import Derived.Test.YtppkhehbkoeinaaP1
import Derived.Test.YtppkhehbkoeinaaT22
namespace Go.Proofs.Ytppkhehbkoeinaa
open Go Go.Eng Go.RowKit

end Go.Proofs.Ytppkhehbkoeinaa
