/- The statement BundleLeft: its contract. -/
import Derived.Test.YtbmohbeocnfefaaT39
namespace Go.Proofs.Ytbmohbeocnfefaa
open Go Go.Eng Go.RowKit

theorem left_small {t : Table} (hV : Valid t) : ∃ l, leaveAll t = some l ∧ Inc t.women.length 0 l ∧ Small t l := by
  have hS := leave03_small hV
  refine ⟨_, leave_eq hV, ?_, hS⟩
  obtain ⟨k, hk, e⟩ := hS.set
  rw [← e]
  exact bits_inc (by have := hV.women; omega) hk
end Go.Proofs.Ytbmohbeocnfefaa
