/- The statement BundleLies: its contract. -/
import Derived.Test.YtdnbkjgbehakpaaGreatT42
import Derived.Test.YtdnbkjgbehakpaaGreatT38
namespace Go.Proofs.YtdnbkjgbehakpaaGreat
open Go Go.Eng Go.RowKit

end Go.Proofs.YtdnbkjgbehakpaaGreat
