/- Plain law: what must wait. -/
import Derived.Test.YtdjkokpbeaapoaaGreatT83
namespace Go.Proofs.YtdjkokpbeaapoaaGreat
open Go Go.Eng Go.RowKit

theorem mem_piecesB {ms : List Move} (hinc : (ms.map (·.piece)).Pairwise (· < ·)) {q : Nat → Bool} {i : Nat} (hi : i < ms.length) : (ms.getD i default).piece ∈ piecesB ms q ↔ q i = true := by
  unfold piecesB
  rw [piecesTo_filter, List.mem_map]
  constructor
  · rintro ⟨j, hj, e⟩
    obtain ⟨h1, h2⟩ := List.mem_filter.1 hj
    have h1 := List.mem_range.1 h1
    have : j = i := by
      have hg : ∀ k (hk : k < ms.length), (ms.map (·.piece))[k]'(by simpa using hk) = (ms.getD k default).piece := fun k hk => by simp [List.getD_eq_getElem?_getD, List.getElem?_eq_getElem hk]
      rcases Nat.lt_trichotomy j i with h | h | h
      · have := List.pairwise_iff_getElem.1 hinc j i (by simpa using h1) (by simpa using hi) h
        rw [hg j h1, hg i hi] at this; omega
      · exact h
      · have := List.pairwise_iff_getElem.1 hinc i j (by simpa using hi) (by simpa using h1) h
        rw [hg j h1, hg i hi] at this; omega
    rw [← this]; exact h2
  · intro h
    exact ⟨i, List.mem_filter.2 ⟨List.mem_range.2 hi, h⟩, rfl⟩
/-- Of the pieces of moves those that are not brought back. -/
def stay (ms : List Move) (b : List Int) (k : Nat) : List Int := ((ms.map (·.piece)).take k).filter fun p => !decide (p ∈ b)
end Go.Proofs.YtdjkokpbeaapoaaGreat
