/- Opening of the statements' arguments: tables. -/
import Derived.Test.YtdnbkjgbehakpaaR0
import Derived.Test.YtdnbkjgbehakpaaT1
namespace Go.Proofs.Ytdnbkjgbehakpaa
open Go Go.Eng Go.RowKit

theorem Try.own : ownKnob Try.prog.godebug = none := by kernel_rfl
theorem Try.laidOut : laidOutB Try.prog = true := by kernel_rfl
section
variable {W : World}
end
end Go.Proofs.Ytdnbkjgbehakpaa
