/- Plain law: bounds of an answer in all truths; verdicts, looks. -/
import Derived.Test.YtbmohbeocnfefaaP7
namespace Go.Proofs.Ytbmohbeocnfefaa
open Go Go.Eng Go.RowKit

theorem le_loQ {g : List Int → Int} {all : List (List Int)} {c : Int} : ∀ k, c ≤ loQ g all k ↔ c ≤ g (all.getD 0 []) ∧ ∀ i, i < k → c ≤ g (all.getD i [])
  | 0 => by simp [loQ]
  | k + 1 => by
    simp only [loQ]
    rw [Int.le_min, le_loQ k]
    constructor
    · rintro ⟨⟨h1, h2⟩, h3⟩
      refine ⟨h1, fun i hi => ?_⟩
      rcases Nat.lt_succ_iff_lt_or_eq.1 hi with h | rfl
      · exact h2 i h
      · exact h3
    · rintro ⟨h1, h2⟩
      exact ⟨⟨h1, fun i hi => h2 i (by omega)⟩, h2 k (by omega)⟩
theorem hiQ_le {g : List Int → Int} {all : List (List Int)} {c : Int} : ∀ k, hiQ g all k ≤ c ↔ g (all.getD 0 []) ≤ c ∧ ∀ i, i < k → g (all.getD i []) ≤ c
  | 0 => by simp [hiQ]
  | k + 1 => by
    simp only [hiQ]
    rw [Int.max_le, hiQ_le k]
    constructor
    · rintro ⟨⟨h1, h2⟩, h3⟩
      refine ⟨h1, fun i hi => ?_⟩
      rcases Nat.lt_succ_iff_lt_or_eq.1 hi with h | rfl
      · exact h2 i h
      · exact h3
    · rintro ⟨h1, h2⟩
      exact ⟨⟨h1, fun i hi => h2 i (by omega)⟩, h2 k (by omega)⟩
/-- The bounds, of all. -/
def loA (g : List Int → Int) (all : List (List Int)) : Int := loQ g all all.length
def hiA (g : List Int → Int) (all : List (List Int)) : Int := hiQ g all all.length
theorem le_loA {g : List Int → Int} {all : List (List Int)} {c : Int} (h0 : all ≠ []) : c ≤ loA g all ↔ ∀ l ∈ all, c ≤ g l := by
  have hp := List.length_pos_iff.2 h0
  unfold loA
  rw [le_loQ, forall_getD (d := [])]
  exact ⟨fun h => h.2, fun h => ⟨h 0 hp, h⟩⟩
theorem hiA_le {g : List Int → Int} {all : List (List Int)} {c : Int} (h0 : all ≠ []) : hiA g all ≤ c ↔ ∀ l ∈ all, g l ≤ c := by
  have hp := List.length_pos_iff.2 h0
  unfold hiA
  rw [hiQ_le, forall_getD (d := [])]
  exact ⟨fun h => h.2, fun h => ⟨h 0 hp, h⟩⟩
end Go.Proofs.Ytbmohbeocnfefaa
