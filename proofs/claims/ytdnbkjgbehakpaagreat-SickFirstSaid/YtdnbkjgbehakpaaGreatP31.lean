/- Chapter 6: how the program looks for the smallest sets and the shortest orders. -/
import Derived.Test.YtdnbkjgbehakpaaGreatP30
import Derived.Test.YtdnbkjgbehakpaaGreatP9
namespace Go.Proofs.YtdnbkjgbehakpaaGreat
open Go Go.Eng Go.RowKit

/-- The first set of so many numbers more, from one on, that will do. -/
def setR (ok : List Int → Bool) (W : Nat) : Nat → List Int → Nat → Option (List Int)
  | 0, out, _ => if ok out = true then some out else none
  | m + 1, out, s => fsome (fun i => setR ok W m (out ++ [(i : Int)]) (i + 1)) s (W - m - s)
def setAll (ok : List Int → Bool) (W : Nat) : Option (List Int) := fsome (fun m => setR ok W m [] 0) 0 (W + 1)
/-- The least of the increasing lists that will do. -/
structure LeastS (ok : List Int → Bool) (W : Nat) (c : List Int) : Prop where
  inc : Inc W 0 c
  is : ok c = true
  no : ∀ d, Inc W 0 d → ok d = true → shorter d c = false
/-! ### Orders -/
def seqR (ok : List Int → Bool) (W : Nat) : Nat → List Int → Option (List Int)
  | 0, out => if ok out = true then some out else none
  | m + 1, out => fsome (fun i => seqR ok W m (out ++ [(i : Int)])) 0 W
def seqAll (ok : List Int → Bool) (W n : Nat) : Option (List Int) := fsome (fun m => seqR ok W m []) 0 n
/-- Numbers below W. -/
def Below (W : Nat) (l : List Int) : Prop := ∀ x ∈ l, 0 ≤ x ∧ x < W
/-- The least of the lists that will do, of at most so many. -/
structure LeastO (ok : List Int → Bool) (W n : Nat) (c : List Int) : Prop where
  len : c.length < n
  below : Below W c
  is : ok c = true
  no : ∀ d, d.length < n → Below W d → ok d = true → shorter d c = false
end Go.Proofs.YtdnbkjgbehakpaaGreat
