/- Plain law: what must wait. -/
import Derived.Test.YtppkhehbkoeinaaT83
namespace Go.Proofs.Ytppkhehbkoeinaa
open Go Go.Eng Go.RowKit

/-- Of the pieces of moves those that are not brought back. -/
def stay (ms : List Move) (b : List Int) (k : Nat) : List Int := ((ms.map (·.piece)).take k).filter fun p => !decide (p ∈ b)
end Go.Proofs.Ytppkhehbkoeinaa
