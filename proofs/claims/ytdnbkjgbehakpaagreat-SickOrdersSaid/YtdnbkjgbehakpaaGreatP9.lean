/- Plain law: the first wrong count, and the smallest set. -/
import Derived.Test.YtdnbkjgbehakpaaGreatP8
import Derived.Test.YtdnbkjgbehakpaaGreatT22
namespace Go.Proofs.YtdnbkjgbehakpaaGreat
open Go Go.Eng Go.RowKit

/-! ### Sets by bits -/
/-! ### The smallest set -/
/-- Increasing, from one number on, below another one. -/
def Inc (W : Nat) : Int → List Int → Prop
  | _, [] => True
  | s, x :: d => s ≤ x ∧ x < W ∧ Inc W (x + 1) d
theorem Inc.len {W : Nat} : ∀ {s : Int} {d : List Int}, Inc W s d → d = [] ∨ s + d.length ≤ W
  | _, [], _ => .inl rfl
  | s, x :: d, ⟨h1, h2, h3⟩ => .inr (by
    rcases Inc.len h3 with rfl | h
    · simp; omega
    · simp only [List.length_cons]; omega)
theorem fsome_spec {α : Type} {f : Nat → Option α} : ∀ {n s : Nat}, match fsome f s n with
    | none => ∀ i, s ≤ i → i < s + n → f i = none
    | some x => ∃ i, s ≤ i ∧ i < s + n ∧ f i = some x ∧ ∀ j, s ≤ j → j < i → f j = none
  | 0, s => fun i h1 h2 => by omega
  | n + 1, s => by
    simp only [fsome]
    cases hf : f s with
    | some x => exact ⟨s, Nat.le_refl _, by omega, hf, fun j h1 h2 => by omega⟩
    | none =>
      have ih := fsome_spec (f := f) (n := n) (s := s + 1)
      dsimp only
      cases hr : fsome f (s + 1) n with
      | none =>
        rw [hr] at ih
        intro i h1 h2
        rcases Nat.eq_or_lt_of_le h1 with rfl | h3
        · exact hf
        · exact ih i h3 (by omega)
      | some x =>
        rw [hr] at ih
        obtain ⟨i, h1, h2, h3, h4⟩ := ih
        refine ⟨i, by omega, by omega, h3, fun j h5 h6 => ?_⟩
        rcases Nat.eq_or_lt_of_le h5 with rfl | h7
        · exact hf
        · exact h4 j h7 h6
/-- A list is the smallest set. -/
structure Small (t : Table) (r : List Int) : Prop where
  set : ∃ k, k ≤ full t ∧ bits k = r
  can : possibleB t r = true
  least : ∀ k, k ≤ full t → possibleB t (bits k) = true → shorter (bits k) r = false
theorem Small.unique {t : Table} {a b : List Int} (ha : Small t a) (hb : Small t b) : a = b := by
  refine Classical.byContradiction fun hne => ?_
  obtain ⟨i, hi, ei⟩ := ha.set
  obtain ⟨j, hj, ej⟩ := hb.set
  rcases shorter_total hne with h | h
  · have := hb.least i hi (by rw [ei]; exact ha.can)
    rw [ei, h] at this; cases this
  · have := ha.least j hj (by rw [ej]; exact hb.can)
    rw [ej, h] at this; cases this
end Go.Proofs.YtdnbkjgbehakpaaGreat
