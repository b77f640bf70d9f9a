/- Plain law: bounds of an answer in all truths; verdicts, looks. -/
import Derived.Test.YtdnbkjgbehakpaaGreatP7
namespace Go.Proofs.YtdnbkjgbehakpaaGreat
open Go Go.Eng Go.RowKit

end Go.Proofs.YtdnbkjgbehakpaaGreat
