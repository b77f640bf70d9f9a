/- The statement BundleLooked: its contract. -/
import Derived.Test.YtdnbkjgbehakpaaGreatT37
namespace Go.Proofs.YtdnbkjgbehakpaaGreat
open Go Go.Eng Go.RowKit

end Go.Proofs.YtdnbkjgbehakpaaGreat
