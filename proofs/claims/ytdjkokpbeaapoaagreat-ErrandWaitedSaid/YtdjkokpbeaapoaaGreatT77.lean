/- The statement ErrandComes: its contract. -/
import Derived.Test.YtdjkokpbeaapoaaGreatT76
namespace Go.Proofs.YtdjkokpbeaapoaaGreat
open Go Go.Eng Go.RowKit

theorem walkedE_valid {r : Errand} {l : List Int} (h : walkedE r l = 0) : ValidE r ∧ Walk r.n l := by
  unfold walkedE at h
  split at h
  · rename_i h0; exact absurd h h0
  · rename_i h0
    split at h
    · rename_i h1; exact ⟨faultT_zero.1 (by omega), isWalk_iff.1 h1⟩
    · cases h
theorem lateV_bad {r : Errand} {l : List Int} (h : walkedE r l ≠ 0) : lateV r l = (0, walkedE r l) := by unfold lateV; rw [if_pos h]
theorem lateV_none {r : Errand} {l : List Int} (h : walkedE r l = 0) (h2 : lateR r l < 0) : lateV r l = (0, 7) := by
  have : lateN r l = l.length := by
    unfold lateR at h2
    split at h2
    · assumption
    · omega
  unfold lateV; rw [if_neg (by omega), if_pos this]
theorem lateV_some {r : Errand} {l : List Int} (h : walkedE r l = 0) (h2 : ¬ lateR r l < 0) : lateV r l = (lateR r l, 0) := by
  unfold lateR at h2 ⊢
  split at h2
  · omega
  · rename_i h3; unfold lateV; rw [if_neg (by omega), if_neg h3, if_neg h3]
theorem comesTo_get {r : Errand} {l : List Int} {n k : Nat} (h : k < n) : (comesTo r l n).getD k default = ⟨minuteAt r (leastE r) l (k + 1), minuteAt r (greatestE r) l (k + 1)⟩ := by
  simp [comesTo, List.getD_eq_getElem?_getD, h]
end Go.Proofs.YtdjkokpbeaapoaaGreat
