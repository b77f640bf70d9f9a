/- The statements' helpers of chapter 3, on: tables with other counts. -/
import Derived.Test.YtbmohbeocnfefaaT35
namespace Go.Proofs.Ytbmohbeocnfefaa
open Go Go.Eng Go.RowKit

/-- Words. -/
def IsU16s (m : Mem) (v : Value) (ws : List Nat) : Prop := IsArr m 1 v ws.length (fun i _ => .int .u16 ((ws.getD i 0 : Nat) : Int)) ∧ ∀ w ∈ ws, w < 65536
theorem IsU16s.le {m m' : Mem} {v : Value} {ws : List Nat} (h : IsU16s m v ws) (hm : MLe m m') : IsU16s m' v ws := ⟨IsArr.le h.1 hm, h.2⟩
/-! ### Rows of women of one's own -/
theorem flatv_len {k : Nat} : ∀ {vs : List Value}, (∀ u ∈ vs, u.cells.size = k) → (flatv vs).length = vs.length * k
  | [], _ => by simp
  | u :: vs, h => by
    have ih := flatv_len (vs := vs) (k := k) (fun x hx => h x (.tail _ hx))
    have := h u (.head _)
    simp only [flatv, List.flatMap_cons, List.length_append, List.length_cons, Array.length_toList] at ih ⊢
    rw [ih, this, Nat.add_mul, Nat.one_mul, Nat.add_comm]
theorem IsWomen.toCells {m : Mem} {v : Value} {ws : List Woman} (h : IsWomen m v ws) : IsCells m 3 v ws.length (flatv (ws.map wv3)) := by
  refine ⟨by rw [flatv_len (k := 3) (by simp [wv3, Value.cells])]; simp, IsArr.congr h fun i j hi hj => ?_⟩
  rw [flat_at (k := 3) (by omega) (by simp [wv3, Value.cells]) (by simpa using hi) hj]
  rw [show (ws.map wv3).getD i undef = wv3 (ws.getD i default) by simp [List.getD_eq_getElem?_getD, List.getElem?_eq_getElem hi]]
  match j, hj with
  | 0, _ => rfl
  | 1, _ => rfl
  | 2, _ => rfl
end Go.Proofs.Ytbmohbeocnfefaa
