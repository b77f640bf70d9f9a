/- The statements' function awake: the chapter's examples hold. -/
import Derived.Test.YtdnbkjgbehakpaaGreatP6
namespace Go.Proofs.YtdnbkjgbehakpaaGreat
open Go Go.Eng Go.RowKit

end Go.Proofs.YtdnbkjgbehakpaaGreat
