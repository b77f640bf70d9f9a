/- The reference's functions of chapter 6: At, Row, Boil; the statement SickBoils. -/
import Derived.Test.YtdnbkjgbehakpaaGreatT147
import Derived.Test.YtdnbkjgbehakpaaGreatT125
namespace Go.Proofs.YtdnbkjgbehakpaaGreat
open Go Go.Eng Go.RowKit

end Go.Proofs.YtdnbkjgbehakpaaGreat
