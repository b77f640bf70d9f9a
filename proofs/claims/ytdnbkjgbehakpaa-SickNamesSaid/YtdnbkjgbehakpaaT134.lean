/- The statements' functions of chapter 6: some; SickFirst. -/
import Derived.Test.YtdnbkjgbehakpaaP33
import Derived.Test.YtdnbkjgbehakpaaT132
namespace Go.Proofs.Ytdnbkjgbehakpaa
open Go Go.Eng Go.RowKit

section
variable {P : Program} {n : Nat} {c : Cx P n} {l : List (Nat × Value)} {Ms : List Mem} {μ : List Res} {dst : Option Tmp} {x y : Operand} {t t' ty : TypeId} {pos : String} {af : Array Edge} {gd : Option (Nat × Bool)}
end
end Go.Proofs.Ytdnbkjgbehakpaa
