/- Chapter 6: the fewest things and the shortest order; one thing. -/
import Derived.Test.YtdnbkjgbehakpaaP37
import Derived.Test.YtdnbkjgbehakpaaT125
namespace Go.Proofs.Ytdnbkjgbehakpaa
open Go Go.Eng Go.RowKit

/-! ### One thing -/
end Go.Proofs.Ytdnbkjgbehakpaa
