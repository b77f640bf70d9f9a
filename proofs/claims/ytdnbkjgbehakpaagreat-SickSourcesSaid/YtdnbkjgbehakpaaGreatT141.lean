/- The statement SickSicker: its contract. -/
import Derived.Test.YtdnbkjgbehakpaaGreatP37
import Derived.Test.YtdnbkjgbehakpaaGreatE19
import Derived.Test.YtdnbkjgbehakpaaGreatT134
namespace Go.Proofs.YtdnbkjgbehakpaaGreat
open Go Go.Eng Go.RowKit

theorem withSick_sm {r : House} (hs : SmH r) {l : List Int} (hl : l.length ≤ 20) : SmH (withSick r l) := ⟨hs.table, hl, hs.touches, hs.boiled, Nat.zero_le _⟩
theorem ask6E_sick {r : House} (hV : ValidH r) {l : List Int} (hl : risingB l r.table.women.length = true) : ask6E (withSick r l) true = 0 := by
  rw [ask6E_with (withSick_valid hV hl), ask_noSigns, if_neg (scenes_some hV)]
end Go.Proofs.YtdnbkjgbehakpaaGreat
