/- Chapter 6: one more sick woman; nobody sick. -/
import Derived.Test.YtdnbkjgbehakpaaGreatP33
namespace Go.Proofs.YtdnbkjgbehakpaaGreat
open Go Go.Eng Go.RowKit

theorem rising_of {l : List Int} {n : Int} (hp : l.Pairwise (· < ·)) (hb : ∀ x ∈ l, 0 ≤ x ∧ x < n) : risingB l n = true := by
  unfold risingB
  rw [Bool.not_eq_true', ex_no]
  intro i hi
  have h1 : l.getD i 0 ∈ l := mem_getD hi
  have h2 := hb _ h1
  unfold risingBad
  rw [decide_eq_true (show 0 ≤ l.getD i 0 ∧ l.getD i 0 ≤ n - 1 by omega), Bool.not_true, Bool.false_or, Bool.and_eq_false_iff, decide_eq_false_iff_not, decide_eq_false_iff_not]
  by_cases h0 : 0 < i
  · right
    have := List.pairwise_iff_getElem.1 hp (i - 1) i (by omega) hi (by omega)
    rw [List.getD_eq_getElem?_getD, List.getD_eq_getElem?_getD, List.getElem?_eq_getElem hi, List.getElem?_eq_getElem (by omega)]
    simp only [Option.getD_some]
    omega
  · exact .inl h0
/-! ### Where sicknesses come from -/
end Go.Proofs.YtdnbkjgbehakpaaGreat
