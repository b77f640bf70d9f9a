/- Chapter 6: signs that are right in a course; who is harmed. -/
import Derived.Test.YtdnbkjgbehakpaaGreatP39
import Derived.Test.YtdnbkjgbehakpaaGreatT126
namespace Go.Proofs.YtdnbkjgbehakpaaGreat
open Go Go.Eng Go.RowKit

/-- Is a woman harmed, as the reference looks? -/
def harmR (h : House) (c : Course) (s : Nat) (w : Int) : Bool := !decide (w ∈ h.sick) && ex c.owners.length fun i => decide (c.owners.getD i 0 = w) && s.testBit i
def safeR (h : House) (c : Course) (s : Nat) : Bool := !ex h.table.women.length fun w => harmR h c s (w : Int)
theorem harmR_eq {h : House} {c : Course} {s : Nat} {w : Int} (hl : c.owners.length = h.np) : harmR h c s w = harmB h c s w := by
  rw [Bool.eq_iff_iff, harmB_iff]
  unfold harmR
  rw [Bool.and_eq_true, Bool.not_eq_true', decide_eq_false_iff_not, ex_iff, hl]
  simp only [Bool.and_eq_true, decide_eq_true_eq]
  constructor
  · rintro ⟨h1, i, hi, e1, e2⟩; exact ⟨h1, i, hi, e2, e1⟩
  · rintro ⟨h1, i, hi, e1, e2⟩; exact ⟨h1, i, hi, e2, e1⟩
theorem owner_woman {h : House} {c : Course} (hc : c ∈ scenes h) {i : Nat} (hi : i < h.np) : ∃ w : Nat, w < h.table.women.length ∧ c.owners.getD i 0 = (w : Int) := by
  have hask := (mem_scenes.1 hc).owners
  have hla := areOwners_iff.1 (ask_are hask)
  obtain ⟨w, hw1, _, e1⟩ := mem_sel.1 (hla.2 i (by rw [hla.1]; exact hi))
  exact ⟨w, hw1, e1⟩
theorem safeR_eq {h : House} {c : Course} {s : Nat} (hc : c ∈ scenes h) : safeR h c s = safeB h c s := by
  rw [Bool.eq_iff_iff, safeB_iff]
  unfold safeR
  rw [Bool.not_eq_true', ex_no]
  constructor
  · intro hn i hi hb
    refine Classical.byContradiction fun hs => ?_
    obtain ⟨w, hw, e⟩ := owner_woman hc hi
    have := hn w hw
    rw [harmR_eq (scene_len hc), harmB_iff.2 ⟨by rw [← e]; exact hs, i, hi, hb, e⟩] at this
    cases this
  · intro hs w hw
    rw [harmR_eq (scene_len hc), ← Bool.not_eq_true, harmB_iff]
    rintro ⟨h1, i, hi, hb, e⟩
    exact h1 (e ▸ hs i hi hb)
/-- Signs that are right in a course. -/
def SignsOf (h : House) (c : Course) (ss : List Sign) : Prop := ss.length ≤ 5 ∧ ∀ t ∈ ss, 0 ≤ t.thing ∧ t.thing < h.things ∧ t.carries = (lastN h c []).testBit t.thing.toNat
section
variable {h : House} {c : Course} {ss : List Sign} (hV : ValidH h) (hc : c ∈ scenes h) (hS : SignsOf h c ss)
include hV hS
end
end Go.Proofs.YtdnbkjgbehakpaaGreat
