/- The reference's functions of chapter 6: Right, IsCourse, IsTruth. -/
import Derived.Test.YtdnbkjgbehakpaaGreatT137
import Derived.Test.YtdnbkjgbehakpaaGreatT135
namespace Go.Proofs.YtdnbkjgbehakpaaGreat
open Go Go.Eng Go.RowKit

section
variable {P : Program} {n : Nat} {c : Cx P n} {l : List (Nat × Value)} {Ms : List Mem} {μ : List Res} {dst : Option Tmp} {x y : Operand} {t t' ty : TypeId} {pos : String} {af : Array Edge} {gd : Option (Nat × Bool)}
end
end Go.Proofs.YtdnbkjgbehakpaaGreat
