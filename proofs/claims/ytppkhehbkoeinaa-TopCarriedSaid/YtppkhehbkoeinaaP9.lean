/- Plain law: the first wrong count, and the smallest set. -/
import Derived.Test.YtppkhehbkoeinaaP8
import Derived.Test.YtppkhehbkoeinaaT22
namespace Go.Proofs.Ytppkhehbkoeinaa
open Go Go.Eng Go.RowKit

/-! ### Sets by bits -/
/-! ### The smallest set -/
/-- Increasing, from one number on, below another one. -/
def Inc (W : Nat) : Int → List Int → Prop
  | _, [] => True
  | s, x :: d => s ≤ x ∧ x < W ∧ Inc W (x + 1) d
theorem Inc.len {W : Nat} : ∀ {s : Int} {d : List Int}, Inc W s d → d = [] ∨ s + d.length ≤ W
  | _, [], _ => .inl rfl
  | s, x :: d, ⟨h1, h2, h3⟩ => .inr (by
    rcases Inc.len h3 with rfl | h
    · simp; omega
    · simp only [List.length_cons]; omega)
/-- A list is the smallest set. -/
structure Small (t : Table) (r : List Int) : Prop where
  set : ∃ k, k ≤ full t ∧ bits k = r
  can : possibleB t r = true
  least : ∀ k, k ≤ full t → possibleB t (bits k) = true → shorter (bits k) r = false
theorem Small.unique {t : Table} {a b : List Int} (ha : Small t a) (hb : Small t b) : a = b := by
  refine Classical.byContradiction fun hne => ?_
  obtain ⟨i, hi, ei⟩ := ha.set
  obtain ⟨j, hj, ej⟩ := hb.set
  rcases shorter_total hne with h | h
  · have := hb.least i hi (by rw [ei]; exact ha.can)
    rw [ei, h] at this; cases this
  · have := ha.least j hj (by rw [ej]; exact hb.can)
    rw [ej, h] at this; cases this
end Go.Proofs.Ytppkhehbkoeinaa
