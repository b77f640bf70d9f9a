/- Chapter 6: one more sick woman; nobody sick. -/
import Derived.Test.YtdnbkjgbehakpaaGreatP33
namespace Go.Proofs.YtdnbkjgbehakpaaGreat
open Go Go.Eng Go.RowKit

/-! ### Where sicknesses come from -/
end Go.Proofs.YtdnbkjgbehakpaaGreat
