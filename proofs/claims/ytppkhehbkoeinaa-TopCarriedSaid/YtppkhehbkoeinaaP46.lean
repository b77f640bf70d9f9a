/- Plain law: an errand with another table of as many women. -/
import Derived.Test.YtppkhehbkoeinaaP28
import Derived.Test.YtppkhehbkoeinaaT70
namespace Go.Proofs.Ytppkhehbkoeinaa
open Go Go.Eng Go.RowKit

def reTab (r : Errand) (t : Table) : Errand := ⟨t, r.home, r.streets, r.start, r.calls⟩
section
variable {r : Errand} {t : Table} (hw : t.women.length = r.table.women.length)
include hw
theorem re_valid (hV : ValidE r) (ht : Valid t) (hs : truths t ≠ []) : ValidE (reTab r t) :=
  ⟨ht, hs, by show t.women.length ≤ 4; rw [hw]; exact hV.women, hV.calls, hV.homeLen.trans hw.symm, by show r.streets.length = t.women.length * (t.women.length + 1) / 2; rw [hw]; exact hV.streetsLen, hV.start, hV.home, hV.street⟩
end
end Go.Proofs.Ytppkhehbkoeinaa
