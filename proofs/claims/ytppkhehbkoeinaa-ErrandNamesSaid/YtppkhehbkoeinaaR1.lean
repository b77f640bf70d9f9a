/- Opening of the statements' arguments: tables. -/
import Derived.Test.YtppkhehbkoeinaaR0
import Derived.Test.YtppkhehbkoeinaaT1
namespace Go.Proofs.Ytppkhehbkoeinaa
open Go Go.Eng Go.RowKit

theorem Try.own : ownKnob Try.prog.godebug = none := by kernel_rfl
theorem Try.laidOut : laidOutB Try.prog = true := by kernel_rfl
section
variable {W : World}
end
end Go.Proofs.Ytppkhehbkoeinaa
