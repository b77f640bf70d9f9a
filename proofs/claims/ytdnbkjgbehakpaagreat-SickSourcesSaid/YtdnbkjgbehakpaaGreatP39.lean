/- Chapter 6: the fewest things and the shortest order; one thing. -/
import Derived.Test.YtdnbkjgbehakpaaGreatP37
import Derived.Test.YtdnbkjgbehakpaaGreatT125
namespace Go.Proofs.YtdnbkjgbehakpaaGreat
open Go Go.Eng Go.RowKit

theorem ask6E_iff {r : House} {p : Bool} : ask6E r p = 0 ↔ fault6 r = 0 ∧ p = true ∧ ask6 r ≠ [] := by
  unfold ask6E
  by_cases hf : fault6 r = 0
  · rw [if_neg (by simpa using hf)]
    cases p with
    | false => simp
    | true =>
      by_cases h : ask6 r = []
      · simp [h]
      · simp [h, hf]
  · rw [if_pos hf]
    exact ⟨fun e => absurd e hf, fun e => absurd e.1 hf⟩
theorem proveBoil_iff {r : House} (hV : ValidH r) {hour : Int} {x : List Int} {m : Int} : proveBoilB r hour x m = true ↔ ask6 r ≠ [] ∧ isHour r hour = true ∧ risingB x r.things = true ∧ (x.length : Int) ≤ m ∧ safeL r (ask6 r) (atL x hour) = true := by
  unfold proveBoilB
  simp only [Bool.and_eq_true, decide_eq_true_eq, ask6E_iff]
  constructor
  · rintro ⟨⟨_, ⟨h1, h2⟩, h3⟩, h4, h5⟩; exact ⟨h3, h1, h2, h4, h5⟩
  · rintro ⟨h3, h1, h2, h4, h5⟩; exact ⟨⟨fault6_zero.2 hV, ⟨h1, h2⟩, h3⟩, h4, h5⟩
/-! ### One thing -/
end Go.Proofs.YtdnbkjgbehakpaaGreat
