/- One turn in a region that draws its order. -/
import Derived.Test.YtbmohbeocnfefaaEngineB
namespace Go.Proofs.Ytbmohbeocnfefaa
open Go Go.Eng Go.RowKit

/-- One turn. -/
inductive Ph1 (α : Type)
  | a
  | b (x : α)
def Ph1.num {α : Type} : Ph1 α → Nat
  | .a => 0
  | .b _ => 1
@[reducible] def Ph1.sel {α σ : Type} (u : σ) (v : α → σ) : Ph1 α → σ
  | .a => u
  | .b x => v x
theorem Ph1.all {α : Type} {Q : Ph1 α → Prop} (h1 : Q .a) (h2 : ∀ x, Q (.b x)) : ∀ g, Q g
  | .a => h1
  | .b x => h2 x
theorem Ph1.le {α : Type} : ∀ g : Ph1 α, g.num ≤ 1
  | .a => Nat.le_of_ble_eq_true rfl
  | .b _ => Nat.le_of_ble_eq_true rfl
end Go.Proofs.Ytbmohbeocnfefaa
