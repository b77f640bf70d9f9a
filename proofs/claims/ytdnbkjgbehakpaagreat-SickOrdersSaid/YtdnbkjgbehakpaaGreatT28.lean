/- The program's function Leave: its contract. -/
import Derived.Test.YtdnbkjgbehakpaaGreatT22
import Derived.Test.YtdnbkjgbehakpaaGreatP1
namespace Go.Proofs.YtdnbkjgbehakpaaGreat
open Go Go.Eng Go.RowKit

end Go.Proofs.YtdnbkjgbehakpaaGreat
