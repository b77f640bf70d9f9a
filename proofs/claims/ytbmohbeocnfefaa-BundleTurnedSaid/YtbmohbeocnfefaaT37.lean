/- The statement BundleOwn: its contract. -/
import Derived.Test.YtbmohbeocnfefaaT35
import Derived.Test.YtbmohbeocnfefaaP8
namespace Go.Proofs.Ytbmohbeocnfefaa
open Go Go.Eng Go.RowKit

abbrev aN (t : Table) : List Int → Int := fun l => ((astray t l).length : Int)
theorem askE_ne {t : Table} (h : askE t = 0) : ask t ≠ [] := fun e => by
  unfold askE at h
  rw [if_pos e] at h
  split at h
  · cases h
  · rename_i hf; exact hf h
theorem askE_valid {t : Table} (hV : Valid t) (h : askE t ≠ 0) : askE t = 11 ∧ ask t = [] := by
  unfold askE at h ⊢
  rw [if_pos (fault_zero.2 hV)] at h ⊢
  split at h
  · rename_i e; rw [if_pos e]; exact ⟨rfl, e⟩
  · exact absurd rfl h
end Go.Proofs.Ytbmohbeocnfefaa
