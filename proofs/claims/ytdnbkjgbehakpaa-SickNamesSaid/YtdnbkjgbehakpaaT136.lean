/- The statements' functions of chapter 6: kept, closer. -/
import Derived.Test.YtdnbkjgbehakpaaT134
namespace Go.Proofs.Ytdnbkjgbehakpaa
open Go Go.Eng Go.RowKit

end Go.Proofs.Ytdnbkjgbehakpaa
