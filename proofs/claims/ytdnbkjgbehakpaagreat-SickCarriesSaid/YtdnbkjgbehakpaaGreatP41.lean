/- Chapter 6: signs that are right in a course; who is harmed. -/
import Derived.Test.YtdnbkjgbehakpaaGreatP39
import Derived.Test.YtdnbkjgbehakpaaGreatT126
namespace Go.Proofs.YtdnbkjgbehakpaaGreat
open Go Go.Eng Go.RowKit

/-- Is a woman harmed, as the reference looks? -/
def harmR (h : House) (c : Course) (s : Nat) (w : Int) : Bool := !decide (w ∈ h.sick) && ex c.owners.length fun i => decide (c.owners.getD i 0 = w) && s.testBit i
theorem harmR_eq {h : House} {c : Course} {s : Nat} {w : Int} (hl : c.owners.length = h.np) : harmR h c s w = harmB h c s w := by
  rw [Bool.eq_iff_iff, harmB_iff]
  unfold harmR
  rw [Bool.and_eq_true, Bool.not_eq_true', decide_eq_false_iff_not, ex_iff, hl]
  simp only [Bool.and_eq_true, decide_eq_true_eq]
  constructor
  · rintro ⟨h1, i, hi, e1, e2⟩; exact ⟨h1, i, hi, e2, e1⟩
  · rintro ⟨h1, i, hi, e1, e2⟩; exact ⟨h1, i, hi, e2, e1⟩
/-- Signs that are right in a course. -/
def SignsOf (h : House) (c : Course) (ss : List Sign) : Prop := ss.length ≤ 5 ∧ ∀ t ∈ ss, 0 ≤ t.thing ∧ t.thing < h.things ∧ t.carries = (lastN h c []).testBit t.thing.toNat
section
variable {h : House} {c : Course} {ss : List Sign} (hV : ValidH h) (hc : c ∈ scenes h) (hS : SignsOf h c ss)
include hV hS
end
end Go.Proofs.YtdnbkjgbehakpaaGreat
