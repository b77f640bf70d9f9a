/- The plain law of chapter 3, on: tables that differ in their counts. -/
import Derived.Test.YtbmohbeocnfefaaT36
import Derived.Test.YtbmohbeocnfefaaP9
namespace Go.Proofs.Ytbmohbeocnfefaa
open Go Go.Eng Go.RowKit

/-- Tables with the same marks. -/
structure Same (t x : Table) : Prop where
  women : x.women.length = t.women.length
  pieces : x.pieces.length = t.pieces.length
  mark : ∀ i, i < t.women.length → (x.women.getD i default).mark = (t.women.getD i default).mark
  marks : ∀ i, (x.pieces.getD i default).marks = (t.pieces.getD i default).marks
theorem Same.of {t x : Table} (h : Same t x) (p : Nat) : womenOf x p = womenOf t p := by
  unfold womenOf
  rw [h.women]
  refine sel_congr fun i hi => ?_
  rw [h.mark i hi, h.marks p]
theorem Same.tails {t x : Table} (h : Same t x) : ∀ r, tails x r = tails t r
  | 0 => rfl
  | r + 1 => by simp only [Go.Proofs.Ytbmohbeocnfefaa.tails]; rw [h.pieces, h.of, h.tails r]
theorem Same.all {t x : Table} (h : Same t x) : allOwners x = allOwners t := by unfold allOwners; rw [h.pieces, h.tails]
theorem Same.manyTo {t x : Table} (h : Same t x) (k : Nat) : manyTo x k = manyTo t k := by
  unfold Go.Proofs.Ytbmohbeocnfefaa.manyTo
  simp only [h.of]
theorem Same.many {t x : Table} (h : Same t x) : many x = many t := by unfold Go.Proofs.Ytbmohbeocnfefaa.many; rw [h.pieces, h.manyTo]
end Go.Proofs.Ytbmohbeocnfefaa
