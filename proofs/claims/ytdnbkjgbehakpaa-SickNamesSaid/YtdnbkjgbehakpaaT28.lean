/- The program's function Leave: its contract. -/
import Derived.Test.YtdnbkjgbehakpaaT22
import Derived.Test.YtdnbkjgbehakpaaP1
namespace Go.Proofs.Ytdnbkjgbehakpaa
open Go Go.Eng Go.RowKit

end Go.Proofs.Ytdnbkjgbehakpaa
