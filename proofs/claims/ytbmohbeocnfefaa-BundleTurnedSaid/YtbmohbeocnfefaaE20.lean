/- An append of nothing gives its first slice back. -/
import Derived.Test.YtbmohbeocnfefaaT54
namespace Go.Eng
open Go Go.RowKit

section
variable {P : Program} {n : Nat} {c : Cx P n} {l : List (Nat × Value)} {Ms : List Mem} {μ : List Res} {dst : Option Tmp} {x y : Operand} {t ty : TypeId} {pos : String} {af : Array Edge} {gd : Option (Nat × Bool)}
theorem OpVal.appendNone {e : TypeId} {k bytes : Nat} {z : Value} [hu : TU P t (.slice e)] [hi : TI P e k bytes z] {a : Addr} {N cap : Nat} {a2 : Option Addr} {N2 cap2 : Nat} (hx : lk l x = some (.slice (some a) N cap)) (hy : lk l y = some (.slice a2 N2 cap2)) (h0 : N2 = 0) (hc : N ≤ cap) :
    OpVal c ⟨dst, .call ⟨.builtin .append, #[x, y], #[t, t]⟩, ty, pos, af, gd⟩ l Ms μ (.slice (some a) N cap) :=
  OpVal.of_runs (by simp) (by simp) fun s w hh => by
    subst h0
    obtain ⟨i, hi1, hi2, hi3, hi4⟩ := hi.i
    have hrun : (Builtin.append_ #[t, t] ty #[.slice (some a) N cap, .slice a2 0 cap2]).run P w = .ok (.slice (some a) N cap) w := by
      cases a2 <;> simp [Builtin.append_, run_underlying hu.u, sizeOf, typeInfo, hi1, Builtin.lenOf, Builtin.firstCells, storeCells, loadCells, loadCellsFrom, hc]
    simp [execOp, resolve, invoke, builtin, hh.lk hx, hh.lk hy, hrun]
end
end Go.Eng
