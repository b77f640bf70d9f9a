/- The program's functions of chapter 6: scene, Play, ProveTruth, First. -/
import Derived.Test.YtdnbkjgbehakpaaGreatT125
import Derived.Test.YtdnbkjgbehakpaaGreatE18
namespace Go.Proofs.YtdnbkjgbehakpaaGreat
open Go Go.Eng Go.RowKit

section
variable {P : Program} {n : Nat} {c : Cx P n} {K : Post} {l : List (Nat × Value)} {Ms : List Mem} {μ : List Res} {ops : Array Oper} {rest : List Oper} {dst : Option Tmp} {x y : Operand} {t ty : TypeId} {pos : String} {af : Array Edge} {gd : Option (Nat × Bool)}
end
end Go.Proofs.YtdnbkjgbehakpaaGreat

/- The program's functions of chapter 6: Play, ProveTruth, First. -/
namespace Go.Proofs.YtdnbkjgbehakpaaGreat
open Go Go.Eng Go.RowKit

end Go.Proofs.YtdnbkjgbehakpaaGreat
