/- Plain law: the first wrong count, and the smallest set. -/
import Derived.Test.YtbmohbeocnfefaaP8
import Derived.Test.YtbmohbeocnfefaaT22
namespace Go.Proofs.Ytbmohbeocnfefaa
open Go Go.Eng Go.RowKit

/-! ### Sets by bits -/
/-! ### The smallest set -/
/-- Increasing, from one number on, below another one. -/
def Inc (W : Nat) : Int → List Int → Prop
  | _, [] => True
  | s, x :: d => s ≤ x ∧ x < W ∧ Inc W (x + 1) d
theorem Inc.len {W : Nat} : ∀ {s : Int} {d : List Int}, Inc W s d → d = [] ∨ s + d.length ≤ W
  | _, [], _ => .inl rfl
  | s, x :: d, ⟨h1, h2, h3⟩ => .inr (by
    rcases Inc.len h3 with rfl | h
    · simp; omega
    · simp only [List.length_cons]; omega)
/-- A list is the smallest set. -/
structure Small (t : Table) (r : List Int) : Prop where
  set : ∃ k, k ≤ full t ∧ bits k = r
  can : possibleB t r = true
  least : ∀ k, k ≤ full t → possibleB t (bits k) = true → shorter (bits k) r = false
end Go.Proofs.Ytbmohbeocnfefaa
