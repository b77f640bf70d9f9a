/- The statements' functions of chapter 6: some; SickFirst. -/
import Derived.Test.YtdnbkjgbehakpaaGreatP33
import Derived.Test.YtdnbkjgbehakpaaGreatT132
namespace Go.Proofs.YtdnbkjgbehakpaaGreat
open Go Go.Eng Go.RowKit

section
variable {P : Program} {n : Nat} {c : Cx P n} {l : List (Nat × Value)} {Ms : List Mem} {μ : List Res} {dst : Option Tmp} {x y : Operand} {t t' ty : TypeId} {pos : String} {af : Array Edge} {gd : Option (Nat × Bool)}
theorem OpVal.eqT6 {a : Int} (hx : lk l x = some (.int .i64 a)) (hy : lk l y = some (.int .i64 a)) : OpVal c ⟨dst, .binOp .eql t x y t', ty, pos, af, gd⟩ l Ms μ (.bool true) :=
  (OpVal.opv (v := .bool (decide (a = a))) (by simp [opv, hx, hy])).cast (congrArg Value.bool (decide_eq_true rfl))
theorem OpVal.neqF6 {a : Int} (hx : lk l x = some (.int .i64 a)) (hy : lk l y = some (.int .i64 a)) : OpVal c ⟨dst, .binOp .neq t x y t', ty, pos, af, gd⟩ l Ms μ (.bool false) :=
  (OpVal.opv (v := .bool (!decide (a = a))) (by simp [opv, hx, hy])).cast (congrArg (fun b => Value.bool (!b)) (decide_eq_true rfl))
end
end Go.Proofs.YtdnbkjgbehakpaaGreat
