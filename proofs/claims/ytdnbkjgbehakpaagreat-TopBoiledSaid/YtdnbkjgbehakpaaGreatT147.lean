/- The reference's functions of chapter 6: IsHarmed, IsSafe, AreSafe; the statements' functions within, sure. -/
import Derived.Test.YtdnbkjgbehakpaaGreatP41
import Derived.Test.YtdnbkjgbehakpaaGreatT146
import Derived.Test.YtdnbkjgbehakpaaGreatT132
namespace Go.Proofs.YtdnbkjgbehakpaaGreat
open Go Go.Eng Go.RowKit

end Go.Proofs.YtdnbkjgbehakpaaGreat
