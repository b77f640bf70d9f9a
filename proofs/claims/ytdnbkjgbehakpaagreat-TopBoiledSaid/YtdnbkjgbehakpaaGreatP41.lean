/- Chapter 6: signs that are right in a course; who is harmed. -/
import Derived.Test.YtdnbkjgbehakpaaGreatP39
import Derived.Test.YtdnbkjgbehakpaaGreatT126
namespace Go.Proofs.YtdnbkjgbehakpaaGreat
open Go Go.Eng Go.RowKit

/-- Signs that are right in a course. -/
def SignsOf (h : House) (c : Course) (ss : List Sign) : Prop := ss.length ≤ 5 ∧ ∀ t ∈ ss, 0 ≤ t.thing ∧ t.thing < h.things ∧ t.carries = (lastN h c []).testBit t.thing.toNat
section
variable {h : House} {c : Course} {ss : List Sign} (hV : ValidH h) (hc : c ∈ scenes h) (hS : SignsOf h c ss)
include hV hS
end
end Go.Proofs.YtdnbkjgbehakpaaGreat
