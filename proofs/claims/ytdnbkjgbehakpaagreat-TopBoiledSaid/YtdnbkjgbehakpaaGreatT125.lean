/- The program's functions of chapter 6: ProveBoil, ProveOrder. -/
import Derived.Test.YtdnbkjgbehakpaaGreatT124
namespace Go.Proofs.YtdnbkjgbehakpaaGreat
open Go Go.Eng Go.RowKit

end Go.Proofs.YtdnbkjgbehakpaaGreat
