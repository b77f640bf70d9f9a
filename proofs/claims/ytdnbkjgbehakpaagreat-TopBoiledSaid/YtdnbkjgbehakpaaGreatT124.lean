/- The program's functions of chapter 6: Order. -/
import Derived.Test.YtdnbkjgbehakpaaGreatT122
namespace Go.Proofs.YtdnbkjgbehakpaaGreat
open Go Go.Eng Go.RowKit

theorem isHour_iff {r : House} {n : Int} : isHour r n = true ↔ 0 ≤ n ∧ n ≤ r.last := by unfold isHour; simp
end Go.Proofs.YtdnbkjgbehakpaaGreat
