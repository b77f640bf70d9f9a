/- The statement SickWider: its contract. -/
import Derived.Test.YtdnbkjgbehakpaaP38
import Derived.Test.YtdnbkjgbehakpaaPH1
import Derived.Test.YtdnbkjgbehakpaaT136
namespace Go.Proofs.Ytdnbkjgbehakpaa
open Go Go.Eng Go.RowKit

section
variable {P : Program} {n : Nat} {c : Cx P n} {l : List (Nat × Value)} {Ms : List Mem} {μ : List Res} {dst : Option Tmp} {x y : Operand} {t t' ty : TypeId} {pos : String} {af : Array Edge} {gd : Option (Nat × Bool)}
end
theorem touch_len (bs : List Touch) : (flatv (bs.map tv4)).length = bs.length * 4 := by
  unfold flatv
  rw [List.flatMap_map]
  exact flat_len _ _ 4 fun _ _ => rfl
theorem tcells_at {bs : List Touch} {i j : Nat} (hi : i < bs.length) (hj : j < 4) : (flatv (bs.map tv4)).getD (i * 4 + j) undef = (match j with | 0 => vi (bs.getD i default).a | 1 => vi (bs.getD i default).b | 2 => vi (bs.getD i default).lo | _ => vi (bs.getD i default).hi) := by
  have h := flat_at (vs := bs.map tv4) (k := 4) (by omega) (fun u hu => by obtain ⟨y, _, rfl⟩ := List.mem_map.1 hu; rfl) (i := i) (j := j) (by simpa using hi) hj
  have e : (bs.map tv4).getD i undef = tv4 (bs.getD i default) := by simp [List.getD_eq_getElem?_getD, List.getElem?_eq_getElem hi]
  rw [h, e]
  match j, hj with
  | 0, _ => rfl
  | 1, _ => rfl
  | 2, _ => rfl
  | 3, _ => rfl
theorem IsTouches.toCells {m : Mem} {v : Value} {bs : List Touch} (h : IsTouches m v bs) : IsCells m 4 v bs.length (flatv (bs.map tv4)) :=
  ⟨touch_len bs, IsArr.congr h fun i j hi hj => by
    have e := tcells_at hi hj
    match j, hj, e with
    | 0, _, e => exact e.symm
    | 1, _, e => exact e.symm
    | 2, _, e => exact e.symm
    | 3, _, e => exact e.symm⟩
end Go.Proofs.Ytdnbkjgbehakpaa
