/- Plain law: bounds of an answer in all truths; verdicts, looks. -/
import Derived.Test.YtdnbkjgbehakpaaP7
namespace Go.Proofs.Ytdnbkjgbehakpaa
open Go Go.Eng Go.RowKit

end Go.Proofs.Ytdnbkjgbehakpaa
