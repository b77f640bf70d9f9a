/- Chapter 6: the fewest things and the shortest order; one thing. -/
import Derived.Test.YtdnbkjgbehakpaaGreatP37
import Derived.Test.YtdnbkjgbehakpaaGreatT125
namespace Go.Proofs.YtdnbkjgbehakpaaGreat
open Go Go.Eng Go.RowKit

theorem ask6E_iff {r : House} {p : Bool} : ask6E r p = 0 ↔ fault6 r = 0 ∧ p = true ∧ ask6 r ≠ [] := by
  unfold ask6E
  by_cases hf : fault6 r = 0
  · rw [if_neg (by simpa using hf)]
    cases p with
    | false => simp
    | true =>
      by_cases h : ask6 r = []
      · simp [h]
      · simp [h, hf]
  · rw [if_pos hf]
    exact ⟨fun e => absurd e hf, fun e => absurd e.1 hf⟩
/-! ### One thing -/
end Go.Proofs.YtdnbkjgbehakpaaGreat
