/- Opening of the statements' arguments: tables. -/
import Derived.Test.YtbmohbeocnfefaaR0
import Derived.Test.YtbmohbeocnfefaaT1
namespace Go.Proofs.Ytbmohbeocnfefaa
open Go Go.Eng Go.RowKit

theorem Try.own : ownKnob Try.prog.godebug = none := by kernel_rfl
theorem Try.laidOut : laidOutB Try.prog = true := by kernel_rfl
section
variable {W : World}
end
end Go.Proofs.Ytbmohbeocnfefaa
