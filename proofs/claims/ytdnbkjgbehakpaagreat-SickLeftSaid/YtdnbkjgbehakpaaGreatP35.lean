/- Chapter 6: some of the signs. -/
import Derived.Test.YtdnbkjgbehakpaaGreatP33
namespace Go.Proofs.YtdnbkjgbehakpaaGreat
open Go Go.Eng Go.RowKit

/-- Some of the signs, by bits. -/
def someTo6 (ss : List Sign) (w : Nat) : Nat → List Sign
  | 0 => []
  | k + 1 => if w.testBit k = true then someTo6 ss w k ++ [ss.getD k default] else someTo6 ss w k
def someL (ss : List Sign) (w : Nat) : List Sign := someTo6 ss w ss.length
theorem someTo6_len (ss : List Sign) (w : Nat) : ∀ k, (someTo6 ss w k).length ≤ k
  | 0 => Nat.le_refl _
  | k + 1 => by
    have := someTo6_len ss w k
    simp only [someTo6]
    split
    · rw [List.length_append]; simp; omega
    · omega
theorem mem_someTo6 {ss : List Sign} {w : Nat} {t : Sign} : ∀ {k : Nat}, t ∈ someTo6 ss w k ↔ ∃ i, i < k ∧ w.testBit i = true ∧ ss.getD i default = t
  | 0 => by simp [someTo6]
  | k + 1 => by
    simp only [someTo6]
    split
    · rename_i h
      rw [List.mem_append, List.mem_singleton, mem_someTo6]
      constructor
      · rintro (⟨i, h1, h2, h3⟩ | rfl)
        · exact ⟨i, by omega, h2, h3⟩
        · exact ⟨k, by omega, h, rfl⟩
      · rintro ⟨i, h1, h2, h3⟩
        by_cases e : i = k
        · subst e; exact .inr h3.symm
        · exact .inl ⟨i, by omega, h2, h3⟩
    · rename_i h
      rw [mem_someTo6]
      constructor
      · rintro ⟨i, h1, h2, h3⟩; exact ⟨i, by omega, h2, h3⟩
      · rintro ⟨i, h1, h2, h3⟩
        by_cases e : i = k
        · subst e; exact absurd h2 h
        · exact ⟨i, by omega, h2, h3⟩
def sgn (t : Sign) (s : Nat) : Bool := decide (s.testBit t.thing.toNat = t.carries)
theorem right_all {ss : List Sign} {s : Nat} : rightBut6 ss s [] = true ↔ ∀ t ∈ ss, sgn t s = true := by
  rw [rightNil_iff6]
  constructor
  · intro h t ht
    obtain ⟨i, hi, e⟩ := List.mem_iff_getElem.1 ht
    have := h i hi
    unfold signS at this
    have e2 : ss.getD i default = t := by rw [List.getD_eq_getElem?_getD, List.getElem?_eq_getElem hi]; exact e
    rw [e2] at this; exact this
  · intro h i hi
    have : ss.getD i default ∈ ss := by rw [List.getD_eq_getElem?_getD, List.getElem?_eq_getElem hi]; exact List.getElem_mem hi
    exact h _ this
theorem poss_ask {h : House} : possible6 h [] = true ↔ ask6 h ≠ [] := by
  rw [possible_iff6]
  constructor
  · rintro ⟨c, h1, h2⟩ e
    have : c ∈ ask6 h := List.mem_filter.2 ⟨h1, h2⟩
    rw [e] at this; cases this
  · intro hne
    obtain ⟨c, hc⟩ := List.exists_mem_of_ne_nil _ hne
    exact ⟨c, (List.mem_filter.1 hc).1, (List.mem_filter.1 hc).2⟩
theorem withSigns_someV {h : House} (hV : ValidH h) (w : Nat) : ValidH (withSigns h (someL h.signs w)) := by
  have h1 := someTo6_len h.signs w h.signs.length
  have h5 := hV.signN
  refine withSigns_valid hV (by unfold someL; omega) fun i hi => ?_
  have hm : (someL h.signs w).getD i default ∈ someL h.signs w := by rw [List.getD_eq_getElem?_getD, List.getElem?_eq_getElem hi]; exact List.getElem_mem hi
  obtain ⟨j, hj, _, e⟩ := mem_someTo6.1 hm
  rw [← e]
  exact hV.sign j hj
end Go.Proofs.YtdnbkjgbehakpaaGreat
