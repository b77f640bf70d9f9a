/- The statement BundleTruth: its contract. -/
import Derived.Test.YtbmohbeocnfefaaT49
import Derived.Test.YtbmohbeocnfefaaT44
import Derived.Test.YtbmohbeocnfefaaT41
namespace Go.Proofs.Ytbmohbeocnfefaa
open Go Go.Eng Go.RowKit

theorem cnt_mono {n n' : Nat} {p q : Nat → Bool} (hn : n ≤ n') (h : ∀ i, i < n → p i = true → q i = true) : cnt n p ≤ cnt n' q := by
  unfold cnt
  refine Nat.le_trans (List.countP_mono_left fun i hi hp => h i (List.mem_range.1 hi) hp) (List.Sublist.countP_le (List.range_sublist.2 hn))
end Go.Proofs.Ytbmohbeocnfefaa
