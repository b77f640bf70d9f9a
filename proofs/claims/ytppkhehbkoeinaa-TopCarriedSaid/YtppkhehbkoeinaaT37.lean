/- The statement BundleOwn: its contract. -/
import Derived.Test.YtppkhehbkoeinaaT35
import Derived.Test.YtppkhehbkoeinaaP8
namespace Go.Proofs.Ytppkhehbkoeinaa
open Go Go.Eng Go.RowKit

abbrev aN (t : Table) : List Int → Int := fun l => ((astray t l).length : Int)
theorem whoTo_get {t : Table} {i : Nat} (hi : i < t.pieces.length) : (whoTo t t.pieces.length).getD i [] = whoP t i := by simp [whoTo, List.getD_eq_getElem?_getD, hi]
theorem whoTo_len (t : Table) (k : Nat) : (whoTo t k).length = k := by simp [whoTo]
end Go.Proofs.Ytppkhehbkoeinaa
