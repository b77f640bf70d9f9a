/- Plain law: what the program answers is what the reference answers. -/
import Derived.Test.YtbmohbeocnfefaaP1
import Derived.Test.YtbmohbeocnfefaaT22
namespace Go.Proofs.Ytbmohbeocnfefaa
open Go Go.Eng Go.RowKit

theorem cntQ_pos {trs : List (List Int)} {i k : Nat} (hl : ∀ l ∈ trs, i < l.length) : 0 < cntQ trs i k ↔ ∃ l ∈ trs, l.getD i 0 = k := by
  unfold cntQ
  rw [List.countP_pos_iff]
  constructor
  · rintro ⟨l, h1, h2⟩
    simp only [decide_eq_true_eq] at h2
    exact ⟨l, h1, by have := h2.2.2; rwa [Int.toNat_natCast] at this⟩
  · rintro ⟨l, h1, h2⟩
    refine ⟨l, h1, ?_⟩
    simp only [decide_eq_true_eq, Int.toNat_natCast]
    exact ⟨by omega, by have := hl l h1; omega, h2⟩
theorem whoseIn_iff {all : List (List Int)} {p w : Nat} : whoseIn all p w = true ↔ ∃ l ∈ all, l.getD p 0 = w := by
  unfold whoseIn
  rw [ex_iff]
  constructor
  · rintro ⟨i, hi, h⟩
    refine ⟨all.getD i [], ?_, of_decide_eq_true h⟩
    rw [List.getD_eq_getElem?_getD, List.getElem?_eq_getElem hi]; exact List.getElem_mem hi
  · rintro ⟨l, hl, h⟩
    obtain ⟨i, hi, rfl⟩ := List.mem_iff_getElem.1 hl
    exact ⟨i, hi, by simp [List.getD_eq_getElem?_getD, List.getElem?_eq_getElem hi] at h ⊢; exact h⟩
theorem ask_lens {t : Table} {l : List Int} (h : l ∈ ask t) : l.length = t.pieces.length := (areOwners_iff.1 (ask_are h)).1
theorem whoP_eq {t : Table} {i : Nat} (hi : i < t.pieces.length) : whoP t i = whose t (ask t) i := by
  unfold whoP whose
  refine sel_congr fun k _ => ?_
  have hl : ∀ l ∈ ask t, i < l.length := fun l h => by rw [ask_lens h]; exact hi
  rw [Bool.eq_iff_iff, whoseIn_iff, ← cntQ_pos hl]
  exact decide_eq_true_iff
end Go.Proofs.Ytbmohbeocnfefaa
