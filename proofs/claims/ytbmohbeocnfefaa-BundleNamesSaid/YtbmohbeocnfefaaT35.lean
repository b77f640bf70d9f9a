/- The statements' helpers of chapter 3: their contracts. -/
import Derived.Test.YtbmohbeocnfefaaT30
namespace Go.Proofs.Ytbmohbeocnfefaa
open Go Go.Eng Go.RowKit

section
variable {P : Program} {n : Nat} {c : Cx P n} {l : List (Nat × Value)} {Ms : List Mem} {μ : List Res} {dst : Option Tmp} {x y : Operand} {t t' ty : TypeId} {pos : String} {af : Array Edge} {gd : Option (Nat × Bool)}
end
end Go.Proofs.Ytbmohbeocnfefaa
