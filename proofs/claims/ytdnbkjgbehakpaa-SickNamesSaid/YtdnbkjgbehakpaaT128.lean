/- The reference's functions of chapter 6: Things, AreRising, IsThing, IsHour, Times, Fault. -/
import Derived.Test.YtdnbkjgbehakpaaT113
import Derived.Test.YtdnbkjgbehakpaaT7
namespace Go.Proofs.Ytdnbkjgbehakpaa
open Go Go.Eng Go.RowKit

end Go.Proofs.Ytdnbkjgbehakpaa

/- The reference's functions of chapter 6: Fault. -/
namespace Go.Proofs.Ytdnbkjgbehakpaa
open Go Go.Eng Go.RowKit

end Go.Proofs.Ytdnbkjgbehakpaa
