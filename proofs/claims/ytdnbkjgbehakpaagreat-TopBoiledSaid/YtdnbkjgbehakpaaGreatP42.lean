/- Chapters 3 and 6: who is harmed, and what is found out. -/
import Derived.Test.YtdnbkjgbehakpaaGreatP37
import Derived.Test.YtdnbkjgbehakpaaGreatT51
namespace Go.Proofs.YtdnbkjgbehakpaaGreat
open Go Go.Eng Go.RowKit

def withTable (h : House) (x : Table) : House := ⟨x, h.sick, h.others, h.last, h.touches, h.boiled, h.signs⟩
theorem fewer_closer {h : House} {x : Table} (hF : Fewer h.table x) : Closer (withTable h x) h := by
  have hth : (withTable h x).th = h.th := by unfold House.th House.things House.np withTable; rw [hF.pieces]
  have hlast : ∀ c more, lastN (withTable h x) c more = lastN h c more := fun c more => by unfold lastN; rw [hth]; rfl
  refine ⟨fun c hc => ?_, hlast, hF.pieces, rfl, hth, by show x.women.length = _; rw [hF.women]⟩
  obtain ⟨h1, h2⟩ := List.mem_filter.1 hc
  rw [hlast] at h2
  obtain ⟨k1, k2, k3⟩ := mem_scenes.1 h1
  exact List.mem_filter.2 ⟨mem_scenes.2 ⟨hF.ask k1, k2, k3⟩, h2⟩
theorem harmed_who {h : House} (hne : ask6 h ≠ []) {y : Int} (hy : y ∈ whose6 h) : y ∉ h.sick ∧ ∃ p, p < h.np ∧ (carry6 h).getD p 0 ≠ 2 ∧ y ∈ whoP h.table p := by
  obtain ⟨w, _, rfl, c, hc, e⟩ := (mem_whose6 hne).1 hy
  obtain ⟨hs, i, hi, hb, ho⟩ := harmB_iff.1 e
  refine ⟨hs, i, hi, ?_, ?_⟩
  · intro h2
    by_cases hth : i < h.th
    · rw [carry6_get hth, verdict_two hne] at h2
      have := h2 c hc
      unfold carryF at this
      rw [hb] at this; cases this
    · rw [List.getD_eq_getElem?_getD, List.getElem?_eq_none (by rw [carry6_len]; omega)] at h2
      cases h2
  · rw [← ho]
    exact who_mem6 (mem_scenes.1 (List.mem_filter.1 hc).1).owners hi
end Go.Proofs.YtdnbkjgbehakpaaGreat
