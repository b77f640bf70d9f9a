/- Chapter 6: the chapter's examples, reckoned. -/
import Derived.Test.YtdnbkjgbehakpaaGreatT126
namespace Go.Proofs.YtdnbkjgbehakpaaGreat
open Go Go.Eng Go.RowKit

end Go.Proofs.YtdnbkjgbehakpaaGreat
