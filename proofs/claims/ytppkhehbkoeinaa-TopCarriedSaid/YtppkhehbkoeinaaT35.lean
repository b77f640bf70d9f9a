/- The statements' helpers of chapter 3: their contracts. -/
import Derived.Test.YtppkhehbkoeinaaT30
namespace Go.Proofs.Ytppkhehbkoeinaa
open Go Go.Eng Go.RowKit

section
variable {P : Program} {n : Nat} {c : Cx P n} {l : List (Nat × Value)} {Ms : List Mem} {μ : List Res} {dst : Option Tmp} {x y : Operand} {t t' ty : TypeId} {pos : String} {af : Array Edge} {gd : Option (Nat × Bool)}
theorem OpVal.neqF {a : Int} (hx : lk l x = some (.int .i64 a)) (hy : lk l y = some (.int .i64 a)) : OpVal c ⟨dst, .binOp .neq t x y t', ty, pos, af, gd⟩ l Ms μ (.bool false) :=
  (OpVal.opv (v := .bool (!decide (a = a))) (by simp [opv, hx, hy])).cast (congrArg (fun b => Value.bool (!b)) (decide_eq_true rfl))
end
/-- subset -/
def subB (a b : List Int) : Bool := decide (∀ x ∈ a, x ∈ b)
/-- subsets -/
def subsB (a b : List (List Int)) : Bool := decide (a.length = b.length ∧ ∀ i, i < a.length → subB (a.getD i []) (b.getD i []) = true)
/-- kept -/
def keptB (a b : List Int) : Bool := decide ((∀ i, i < a.length → i < b.length → a.getD i 0 = 3 ∨ a.getD i 0 = b.getD i 0) ∧ a.length = b.length)
end Go.Proofs.Ytppkhehbkoeinaa
