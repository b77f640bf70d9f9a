/- Chapter 6: the fewest things and the shortest order; one thing. -/
import Derived.Test.YtdnbkjgbehakpaaGreatP37
import Derived.Test.YtdnbkjgbehakpaaGreatT125
namespace Go.Proofs.YtdnbkjgbehakpaaGreat
open Go Go.Eng Go.RowKit

theorem ask6E_iff {r : House} {p : Bool} : ask6E r p = 0 ↔ fault6 r = 0 ∧ p = true ∧ ask6 r ≠ [] := by
  unfold ask6E
  by_cases hf : fault6 r = 0
  · rw [if_neg (by simpa using hf)]
    cases p with
    | false => simp
    | true =>
      by_cases h : ask6 r = []
      · simp [h]
      · simp [h, hf]
  · rw [if_pos hf]
    exact ⟨fun e => absurd e hf, fun e => absurd e.1 hf⟩
theorem ord_below {r : House} (hV : ValidH r) {x : List Int} : ordB r x = true ↔ Below r.th x := by
  have h1 := hV.th.1
  unfold ordB Below
  rw [Bool.not_eq_true', ex_no]
  constructor
  · intro h y hy
    obtain ⟨i, hi, rfl⟩ := getD_of_mem hy
    have := h i hi
    unfold isThing at this
    rw [Bool.not_eq_false', decide_eq_true_eq] at this
    omega
  · intro h i hi
    have := h _ (mem_getD hi)
    unfold isThing
    rw [Bool.not_eq_false', decide_eq_true_eq]
    omega
theorem longest_le {r : House} (hV : ValidH r) {hour : Nat} (hh : (hour : Int) ≤ r.last) : 1 ≤ longest r hour ∧ longest r hour ≤ 3 ∧ longest r hour = ((longest r hour).toNat : Int) := by
  have := hV.last
  unfold longest
  omega
theorem order6_least {r : House} {hour : Int} {y : List Int} (h : order6 r hour = some y) : LeastO (okO r hour) r.th ((longest r hour).toNat + 1) y := seqAll_some h
theorem ordE_eq {r : House} (hV : ValidH r) {hour : Nat} (hh : (hour : Int) ≤ r.last) : ordE r hour = if ask6 r = [] then 11 else if order6 r hour = none then 10 else 0 := by
  have hi : isHour r hour = true := isHour_iff.2 ⟨Int.natCast_nonneg _, hh⟩
  have e : ask6E r true = if ask6 r = [] then 11 else 0 := by unfold ask6E; rw [fault6_zero.2 hV]; simp
  unfold ordE
  rw [hi, e]
  by_cases h : ask6 r = []
  · simp [h]
  · simp [h]
/-! ### One thing -/
end Go.Proofs.YtdnbkjgbehakpaaGreat
