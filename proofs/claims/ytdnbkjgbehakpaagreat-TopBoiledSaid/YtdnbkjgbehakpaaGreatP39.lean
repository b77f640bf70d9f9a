/- Chapter 6: the fewest things and the shortest order; one thing. -/
import Derived.Test.YtdnbkjgbehakpaaGreatP37
import Derived.Test.YtdnbkjgbehakpaaGreatT125
namespace Go.Proofs.YtdnbkjgbehakpaaGreat
open Go Go.Eng Go.RowKit

/-! ### One thing -/
end Go.Proofs.YtdnbkjgbehakpaaGreat
