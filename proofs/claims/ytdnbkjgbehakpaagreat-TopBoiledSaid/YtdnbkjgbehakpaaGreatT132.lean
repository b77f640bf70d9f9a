/- The statements' functions of chapter 6: the examples' house. -/
import Derived.Test.YtdnbkjgbehakpaaGreatP34
import Derived.Test.YtdnbkjgbehakpaaGreatT130
import Derived.Test.YtdnbkjgbehakpaaGreatT7
namespace Go.Proofs.YtdnbkjgbehakpaaGreat
open Go Go.Eng Go.RowKit

end Go.Proofs.YtdnbkjgbehakpaaGreat

/- The statements' function awake of chapter 6: the chapter's examples hold. -/
namespace Go.Proofs.YtdnbkjgbehakpaaGreat
open Go Go.Eng Go.RowKit

end Go.Proofs.YtdnbkjgbehakpaaGreat
