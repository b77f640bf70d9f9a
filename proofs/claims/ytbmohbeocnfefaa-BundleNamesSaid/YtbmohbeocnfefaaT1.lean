/- The reference's functions of chapter 3: their contracts. -/
import Derived.Test.YtbmohbeocnfefaaTypes
import Derived.Test.YtbmohbeocnfefaaP1
namespace Go.Proofs.Ytbmohbeocnfefaa
open Go Go.Eng Go.RowKit

def IsWomen (m : Mem) (v : Value) (ws : List Woman) : Prop := IsArr m 3 v ws.length (fun i j => match j with
  | 0 => .int .i64 (ws.getD i default).mark
  | 1 => .int .i64 (ws.getD i default).lo
  | _ => .int .i64 (ws.getD i default).hi)
/-- The pieces, whose marks are the slices f. -/
def IsPieces (m : Mem) (v : Value) (f : Nat → Value) (ps : List Piece) : Prop := IsArr m 2 v ps.length (fun i j => match j with
  | 0 => f i
  | _ => .int .i64 (ps.getD i default).bundle)
def IsMarks (m : Mem) (f : Nat → Value) (ps : List Piece) : Prop := ∀ i, i < ps.length → IsInts m (f i) (ps.getD i default).marks
def IsTable (m : Mem) (v : Value) (t : Table) : Prop := ∃ wv pv f, v = .agg #[wv, pv, .int .i64 t.wrong] ∧ IsWomen m wv t.women ∧ IsPieces m pv f t.pieces ∧ IsMarks m f t.pieces
theorem IsWomen.le {m m' : Mem} {v : Value} {xs : List Woman} (h : IsWomen m v xs) (hm : MLe m m') : IsWomen m' v xs := IsArr.le h hm
theorem IsPieces.le {m m' : Mem} {v : Value} {f : Nat → Value} {xs : List Piece} (h : IsPieces m v f xs) (hm : MLe m m') : IsPieces m' v f xs := IsArr.le h hm
theorem IsMarks.le {m m' : Mem} {f : Nat → Value} {xs : List Piece} (h : IsMarks m f xs) (hm : MLe m m') : IsMarks m' f xs := fun i hi => (h i hi).le hm
theorem IsTable.le {m m' : Mem} {v : Value} {t : Table} (h : IsTable m v t) (hm : MLe m m') : IsTable m' v t := by
  obtain ⟨wv, pv, f, e, h1, h2, h3⟩ := h
  exact ⟨wv, pv, f, e, h1.le hm, h2.le hm, h3.le hm⟩
theorem IsWomen.bd {m : Mem} {v : Value} {xs : List Woman} (h : IsWomen m v xs) : xs.length ≤ 9223372036854775807 := by have := IsArr.len h; unfold maxLen at this; omega
theorem IsPieces.bd {m : Mem} {v : Value} {f : Nat → Value} {xs : List Piece} (h : IsPieces m v f xs) : xs.length ≤ 9223372036854775807 := by have := IsArr.len h; unfold maxLen at this; omega

theorem sub_yes {T : TypeId} {v : Value} {k : Nat} {q : Nat → Bool} {μ : List Res} (h : q k = true) : List.Sublist (ir T v (sel (k + 1) q) :: μ) (ir T v (sel k q ++ [(k : Int)]) :: μ) := by rw [sel_yes h]; exact .refl _
theorem sub_no {T : TypeId} {v : Value} {k : Nat} {q : Nat → Bool} {μ : List Res} (h : q k = false) : List.Sublist (ir T v (sel (k + 1) q) :: μ) (ir T v (sel k q) :: μ) := by rw [sel_no h]; exact .refl _

/-- Tables that are no greater than is ever looked at. -/
def Sm (t : Table) : Prop := t.women.length ≤ 50 ∧ t.pieces.length ≤ 50 ∧ ∀ i, i < t.pieces.length → (t.pieces.getD i default).marks.length ≤ 50

end Go.Proofs.Ytbmohbeocnfefaa

/- The reference's functions of chapter 3, on: their contracts. -/
namespace Go.Proofs.Ytbmohbeocnfefaa
open Go Go.Eng Go.RowKit

end Go.Proofs.Ytbmohbeocnfefaa

/- The reference's functions of chapter 3, on: their contracts. -/
namespace Go.Proofs.Ytbmohbeocnfefaa
open Go Go.Eng Go.RowKit

end Go.Proofs.Ytbmohbeocnfefaa

/- The reference's functions of chapter 3, on: their contracts. -/
namespace Go.Proofs.Ytbmohbeocnfefaa
open Go Go.Eng Go.RowKit

end Go.Proofs.Ytbmohbeocnfefaa

/- The reference's functions of chapter 3, on: their contracts. -/
namespace Go.Proofs.Ytbmohbeocnfefaa
open Go Go.Eng Go.RowKit

end Go.Proofs.Ytbmohbeocnfefaa

/- The reference's functions of chapter 3, on: their contracts. -/
namespace Go.Proofs.Ytbmohbeocnfefaa
open Go Go.Eng Go.RowKit

end Go.Proofs.Ytbmohbeocnfefaa
