/- Chapter 6: some of the signs. -/
import Derived.Test.YtdnbkjgbehakpaaGreatP33
namespace Go.Proofs.YtdnbkjgbehakpaaGreat
open Go Go.Eng Go.RowKit

theorem fstNo_spec6 {p : Nat → Bool} : ∀ n, (∀ i, i < fstNo p n → p i = true) ∧ (fstNo p n < n → p (fstNo p n) = false)
  | 0 => ⟨fun i hi => absurd hi (Nat.not_lt_zero _), fun h => absurd h (Nat.not_lt_zero _)⟩
  | n + 1 => by
    have ih := fstNo_spec6 (p := p) n
    have hle := fstNo_le p n
    simp only [fstNo]
    by_cases h : fstNo p n < n
    · rw [if_pos h]
      exact ⟨ih.1, fun _ => ih.2 h⟩
    · rw [if_neg h]
      have e : fstNo p n = n := by omega
      rw [e] at ih
      by_cases hp : p n = true
      · rw [if_pos hp]
        refine ⟨fun i hi => ?_, fun h => absurd h (by omega)⟩
        rcases Nat.lt_succ_iff_lt_or_eq.1 hi with h1 | rfl
        · exact ih.1 i h1
        · exact hp
      · rw [if_neg hp]
        exact ⟨ih.1, fun _ => by simpa using hp⟩
/-- Some of the signs, by bits. -/
def someTo6 (ss : List Sign) (w : Nat) : Nat → List Sign
  | 0 => []
  | k + 1 => if w.testBit k = true then someTo6 ss w k ++ [ss.getD k default] else someTo6 ss w k
def someL (ss : List Sign) (w : Nat) : List Sign := someTo6 ss w ss.length
theorem someTo6_len (ss : List Sign) (w : Nat) : ∀ k, (someTo6 ss w k).length ≤ k
  | 0 => Nat.le_refl _
  | k + 1 => by
    have := someTo6_len ss w k
    simp only [someTo6]
    split
    · rw [List.length_append]; simp; omega
    · omega
theorem mem_someTo6 {ss : List Sign} {w : Nat} {t : Sign} : ∀ {k : Nat}, t ∈ someTo6 ss w k ↔ ∃ i, i < k ∧ w.testBit i = true ∧ ss.getD i default = t
  | 0 => by simp [someTo6]
  | k + 1 => by
    simp only [someTo6]
    split
    · rename_i h
      rw [List.mem_append, List.mem_singleton, mem_someTo6]
      constructor
      · rintro (⟨i, h1, h2, h3⟩ | rfl)
        · exact ⟨i, by omega, h2, h3⟩
        · exact ⟨k, by omega, h, rfl⟩
      · rintro ⟨i, h1, h2, h3⟩
        by_cases e : i = k
        · subst e; exact .inr h3.symm
        · exact .inl ⟨i, by omega, h2, h3⟩
    · rename_i h
      rw [mem_someTo6]
      constructor
      · rintro ⟨i, h1, h2, h3⟩; exact ⟨i, by omega, h2, h3⟩
      · rintro ⟨i, h1, h2, h3⟩
        by_cases e : i = k
        · subst e; exact absurd h2 h
        · exact ⟨i, by omega, h2, h3⟩
theorem someTo6_full {ss : List Sign} {w : Nat} : ∀ {k : Nat}, k ≤ ss.length → (∀ i, i < k → w.testBit i = true) → someTo6 ss w k = ss.take k
  | 0, _, _ => by simp [someTo6]
  | k + 1, hk, h => by
    simp only [someTo6]
    rw [if_pos (h k (by omega)), someTo6_full (by omega) (fun i hi => h i (by omega)), take_succ_getD (d := default) (by omega)]
theorem someTo6_stop {ss : List Sign} {w n : Nat} : ∀ {k : Nat}, n ≤ k → (∀ i, n ≤ i → w.testBit i = false) → someTo6 ss w k = someTo6 ss w n
  | 0, hk, _ => by have : n = 0 := by omega
                   subst this; rfl
  | k + 1, hk, h => by
    by_cases e : n = k + 1
    · rw [e]
    · simp only [someTo6]
      rw [h k (by omega), if_neg (by simp)]
      exact someTo6_stop (by omega) h
theorem someL_take {ss : List Sign} {n : Nat} (hn : n ≤ ss.length) : someL ss (2 ^ n - 1) = ss.take n := by
  unfold someL
  rw [someTo6_stop hn (fun i hi => by rw [Nat.testBit_two_pow_sub_one]; simpa using hi)]
  exact someTo6_full hn fun i hi => by rw [Nat.testBit_two_pow_sub_one]; simpa using hi
def sgn (t : Sign) (s : Nat) : Bool := decide (s.testBit t.thing.toNat = t.carries)
theorem right_all {ss : List Sign} {s : Nat} : rightBut6 ss s [] = true ↔ ∀ t ∈ ss, sgn t s = true := by
  rw [rightNil_iff6]
  constructor
  · intro h t ht
    obtain ⟨i, hi, e⟩ := List.mem_iff_getElem.1 ht
    have := h i hi
    unfold signS at this
    have e2 : ss.getD i default = t := by rw [List.getD_eq_getElem?_getD, List.getElem?_eq_getElem hi]; exact e
    rw [e2] at this; exact this
  · intro h i hi
    have : ss.getD i default ∈ ss := by rw [List.getD_eq_getElem?_getD, List.getElem?_eq_getElem hi]; exact List.getElem_mem hi
    exact h _ this
theorem poss_ask {h : House} : possible6 h [] = true ↔ ask6 h ≠ [] := by
  rw [possible_iff6]
  constructor
  · rintro ⟨c, h1, h2⟩ e
    have : c ∈ ask6 h := List.mem_filter.2 ⟨h1, h2⟩
    rw [e] at this; cases this
  · intro hne
    obtain ⟨c, hc⟩ := List.exists_mem_of_ne_nil _ hne
    exact ⟨c, (List.mem_filter.1 hc).1, (List.mem_filter.1 hc).2⟩
theorem withSigns_self (h : House) : withSigns h h.signs = h := rfl
theorem withSigns_someV {h : House} (hV : ValidH h) (w : Nat) : ValidH (withSigns h (someL h.signs w)) := by
  have h1 := someTo6_len h.signs w h.signs.length
  have h5 := hV.signN
  refine withSigns_valid hV (by unfold someL; omega) fun i hi => ?_
  have hm : (someL h.signs w).getD i default ∈ someL h.signs w := by rw [List.getD_eq_getElem?_getD, List.getElem?_eq_getElem hi]; exact List.getElem_mem hi
  obtain ⟨j, hj, _, e⟩ := mem_someTo6.1 hm
  rw [← e]
  exact hV.sign j hj
/-- The signs before the first wrong one are right in some course. -/
theorem first_ask {h : House} (hV : ValidH h) {n : Nat} (hn : n ≤ h.signs.length) (hall : ∀ k, k < n → firstQ6 h k = true) : ask6 (withSigns h (h.signs.take n)) ≠ [] := by
  by_cases h0 : n = 0
  · subst h0
    obtain ⟨c, hc⟩ := List.exists_mem_of_ne_nil _ (scenes_some hV)
    refine List.ne_nil_of_mem (a := c) (List.mem_filter.2 ⟨hc, right_all.2 fun t ht => ?_⟩)
    have : t ∈ h.signs.take 0 := ht
    rw [List.take_zero] at this; cases this
  · have := hall (n - 1) (by omega)
    unfold firstQ6 at this
    rw [show n - 1 + 1 = n by omega] at this
    exact poss_ask.1 this
end Go.Proofs.YtdnbkjgbehakpaaGreat
