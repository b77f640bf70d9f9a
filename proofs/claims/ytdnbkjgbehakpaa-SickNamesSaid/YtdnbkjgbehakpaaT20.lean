/- The program's functions of a table at work: their contracts. -/
import Derived.Test.YtdnbkjgbehakpaaT19
namespace Go.Proofs.Ytdnbkjgbehakpaa
open Go Go.Eng Go.RowKit

section
variable {P : Program} {n : Nat} {c : Cx P n} {l : List (Nat × Value)} {Ms : List Mem} {μ : List Res} {dst : Option Tmp} {x : Operand} {t ty : TypeId} {pos : String} {af : Array Edge} {gd : Option (Nat × Bool)}
end
theorem Owns.le7 {t : Table} {l : List Int} (h : Owns t l) : l.length ≤ 7 := by have := h.len; have := h.seven; omega

end Go.Proofs.Ytdnbkjgbehakpaa
