/- Plain law: the chapter's examples, reckoned. -/
import Derived.Test.YtdnbkjgbehakpaaGreatT28
namespace Go.Proofs.YtdnbkjgbehakpaaGreat
open Go Go.Eng Go.RowKit

end Go.Proofs.YtdnbkjgbehakpaaGreat
