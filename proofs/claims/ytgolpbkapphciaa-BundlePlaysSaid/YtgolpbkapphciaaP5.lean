/- Plain law: how the program looks for the smallest set. -/
import Derived.Test.YtgolpbkapphciaaP4
namespace Go.Proofs.Ytgolpbkapphciaa
open Go Go.Eng Go.RowKit

/-- The first that is found, of n numbers from s on. -/
def fsome {α : Type} (f : Nat → Option α) : Nat → Nat → Option α
  | _, 0 => none
  | s, n + 1 => match f s with
    | some x => some x
    | none => fsome f (s + 1) n
theorem fsome_none {α : Type} {f : Nat → Option α} : ∀ {n s : Nat}, (∀ i, s ≤ i → i < s + n → f i = none) → fsome f s n = none
  | 0, _, _ => rfl
  | n + 1, s, h => by
    simp only [fsome, h s (Nat.le_refl _) (by omega)]
    exact fsome_none fun i h1 h2 => h i (by omega) (by omega)
theorem fsome_hit {α : Type} {f : Nat → Option α} {x : α} : ∀ {n s i : Nat}, s ≤ i → i < s + n → (∀ j, s ≤ j → j < i → f j = none) → f i = some x → fsome f s n = some x
  | 0, s, i, h1, h2, _, _ => by omega
  | n + 1, s, i, h1, h2, h3, h4 => by
    simp only [fsome]
    by_cases e : s = i
    · subst e; simp [h4]
    · rw [h3 s (Nat.le_refl _) (by omega)]
      exact fsome_hit (by omega) (by omega) (fun j k1 k2 => h3 j (by omega) k2) h4
/-- The first set of so many numbers more, from one on, without which all counts can be right. -/
def leaveR (t : Table) : Nat → List Int → Nat → Option (List Int)
  | 0, out, _ => if possibleB t out = true then some out else none
  | m + 1, out, s => fsome (fun i => leaveR t m (out ++ [(i : Int)]) (i + 1)) s (t.women.length - m - s)
def leaveAll (t : Table) : Option (List Int) := fsome (fun m => leaveR t m [] 0) 0 (t.women.length + 1)
end Go.Proofs.Ytgolpbkapphciaa
