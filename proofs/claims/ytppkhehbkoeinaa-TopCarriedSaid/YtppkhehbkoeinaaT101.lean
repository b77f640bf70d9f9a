/- The statement ErrandBack: its contract. -/
import Derived.Test.YtppkhehbkoeinaaP26
import Derived.Test.YtppkhehbkoeinaaT93
namespace Go.Proofs.Ytppkhehbkoeinaa
open Go Go.Eng Go.RowKit

theorem moves_get' {ms : List Move} {i : Nat} (h : i < ms.length) : ms.getD i default ∈ ms := by
  rw [List.getD_eq_getElem?_getD, List.getElem?_eq_getElem h]; exact List.getElem_mem h
end Go.Proofs.Ytppkhehbkoeinaa
