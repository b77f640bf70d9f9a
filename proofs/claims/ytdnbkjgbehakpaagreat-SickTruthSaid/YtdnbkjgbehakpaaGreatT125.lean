/- The program's functions of chapter 6: ProveBoil, ProveOrder. -/
import Derived.Test.YtdnbkjgbehakpaaGreatT124
namespace Go.Proofs.YtdnbkjgbehakpaaGreat
open Go Go.Eng Go.RowKit

def ordB (r : House) (x : List Int) : Bool := !ex x.length fun i => !isThing r (x.getD i 0)
end Go.Proofs.YtdnbkjgbehakpaaGreat
