/- Chapter 6: one more sign; one more sick woman. -/
import Derived.Test.YtdnbkjgbehakpaaP33
namespace Go.Proofs.Ytdnbkjgbehakpaa
open Go Go.Eng Go.RowKit

end Go.Proofs.Ytdnbkjgbehakpaa
