/- The statement BundleLies: its contract. -/
import Derived.Test.YtbmohbeocnfefaaT42
import Derived.Test.YtbmohbeocnfefaaT38
namespace Go.Proofs.Ytbmohbeocnfefaa
open Go Go.Eng Go.RowKit

theorem astrayT_at {h : Mem} {v : Value} {t : Table} {lo hi : Int} (hv : IsTable h v t) (hs : Sm t) (hE : askE t = 0) (h1 : loQ (aN t) (ask t) (ask t).length = lo) (h2 : hiQ (aN t) (ask t) (ask t).length = hi) : FnV Try.prog 10 #[v] h (.tuple #[.agg #[vi lo, vi hi], vi 0]) := by
  subst h1 h2
  have := astrayT_any hv hs
  rwa [if_pos hE] at this
end Go.Proofs.Ytbmohbeocnfefaa
