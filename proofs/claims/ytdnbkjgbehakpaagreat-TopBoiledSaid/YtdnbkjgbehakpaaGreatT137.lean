/- The reference's functions of chapter 6: IsBoiled, Carriers. -/
import Derived.Test.YtdnbkjgbehakpaaGreatT128
namespace Go.Proofs.YtdnbkjgbehakpaaGreat
open Go Go.Eng Go.RowKit

end Go.Proofs.YtdnbkjgbehakpaaGreat

/- The reference's functions of chapter 6: Last. -/
namespace Go.Proofs.YtdnbkjgbehakpaaGreat
open Go Go.Eng Go.RowKit

theorem bcells_at {bs : List Boil} {i j : Nat} (hi : i < bs.length) (hj : j < 2) : (flatv (bs.map bv2)).getD (i * 2 + j) undef = (match j with | 0 => vi (bs.getD i default).thing | _ => vi (bs.getD i default).hour) := by
  have h := flat_at (vs := bs.map bv2) (k := 2) (by omega) (fun u hu => by obtain ⟨y, _, rfl⟩ := List.mem_map.1 hu; rfl) (i := i) (j := j) (by simpa using hi) hj
  have e : (bs.map bv2).getD i undef = bv2 (bs.getD i default) := by simp [List.getD_eq_getElem?_getD, List.getElem?_eq_getElem hi]
  rw [h, e]
  match j, hj with
  | 0, _ => rfl
  | 1, _ => rfl
theorem bcells_len (bs : List Boil) : (flatv (bs.map bv2)).length = bs.length * 2 := by
  unfold flatv
  rw [List.flatMap_map]
  exact flat_len _ _ 2 fun _ _ => rfl
theorem IsBoils.toCells {m : Mem} {v : Value} {bs : List Boil} (h : IsBoils m v bs) : IsCells m 2 v bs.length (flatv (bs.map bv2)) :=
  ⟨bcells_len bs, IsArr.congr h fun i j hi hj => by
    have e := bcells_at hi hj
    match j, hj, e with
    | 0, _, e => exact e.symm
    | 1, _, e => exact e.symm⟩
end Go.Proofs.YtdnbkjgbehakpaaGreat
