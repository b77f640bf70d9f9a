/- Chapter 6: one more sick woman; nobody sick. -/
import Derived.Test.YtdnbkjgbehakpaaP33
namespace Go.Proofs.Ytdnbkjgbehakpaa
open Go Go.Eng Go.RowKit

/-! ### Where sicknesses come from -/
end Go.Proofs.Ytdnbkjgbehakpaa
