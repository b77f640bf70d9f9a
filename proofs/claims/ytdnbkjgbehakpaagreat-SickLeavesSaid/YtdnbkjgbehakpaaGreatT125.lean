/- The program's functions of chapter 6: ProveBoil, ProveOrder. -/
import Derived.Test.YtdnbkjgbehakpaaGreatT124
namespace Go.Proofs.YtdnbkjgbehakpaaGreat
open Go Go.Eng Go.RowKit

theorem ask6E_congr {r : House} {p q : Bool} (h : ValidH r → p = q) : ask6E r p = ask6E r q := by
  by_cases hf : fault6 r = 0
  · rw [h (fault6_zero.1 hf)]
  · unfold ask6E; rw [if_pos hf, if_pos hf]
end Go.Proofs.YtdnbkjgbehakpaaGreat
