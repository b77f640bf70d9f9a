/- The statements' helpers of chapter 3: their contracts. -/
import Derived.Test.YtdnbkjgbehakpaaGreatT30
namespace Go.Proofs.YtdnbkjgbehakpaaGreat
open Go Go.Eng Go.RowKit

section
variable {P : Program} {n : Nat} {c : Cx P n} {l : List (Nat × Value)} {Ms : List Mem} {μ : List Res} {dst : Option Tmp} {x y : Operand} {t t' ty : TypeId} {pos : String} {af : Array Edge} {gd : Option (Nat × Bool)}
end
/-- subset -/
def subB (a b : List Int) : Bool := decide (∀ x ∈ a, x ∈ b)
/-- subsets -/
def subsB (a b : List (List Int)) : Bool := decide (a.length = b.length ∧ ∀ i, i < a.length → subB (a.getD i []) (b.getD i []) = true)
/-- kept -/
def keptB (a b : List Int) : Bool := decide ((∀ i, i < a.length → i < b.length → a.getD i 0 = 3 ∨ a.getD i 0 = b.getD i 0) ∧ a.length = b.length)
end Go.Proofs.YtdnbkjgbehakpaaGreat
