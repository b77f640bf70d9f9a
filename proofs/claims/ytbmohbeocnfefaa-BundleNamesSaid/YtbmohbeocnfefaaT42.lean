/- Tables of one's own: rows of pieces. -/
import Derived.Test.YtbmohbeocnfefaaP10
import Derived.Test.YtbmohbeocnfefaaT37
namespace Go.Proofs.Ytbmohbeocnfefaa
open Go Go.Eng Go.RowKit

theorem getD_set {α : Type} (l : List α) (p i : Nat) (a d : α) : (l.set p a).getD i d = if i = p ∧ p < l.length then a else l.getD i d := by
  rw [List.getD_eq_getElem?_getD, List.getD_eq_getElem?_getD, List.getElem?_set]
  by_cases h : p = i
  · subst h
    by_cases h2 : p < l.length
    · simp [h2]
    · simp [h2]
  · rw [if_neg h, if_neg (fun hh => h hh.1.symm)]
/-- The values of the pieces' marks. -/
def fsOf (f : Nat → Value) (ps : List Piece) : List Value := (List.range ps.length).map f
theorem fsOf_len (f : Nat → Value) (ps : List Piece) : (fsOf f ps).length = ps.length := by simp [fsOf]
theorem fsOf_get {f : Nat → Value} {ps : List Piece} {i : Nat} (hi : i < ps.length) : (fsOf f ps).getD i undef = f i := by simp [fsOf, List.getD_eq_getElem?_getD, hi]
theorem pcs_len {fs : List Value} {ps : List Piece} (h : fs.length = ps.length) : (pcs fs ps).length = ps.length := by simp [pcs, h]
theorem pcs_get {fs : List Value} {ps : List Piece} (h : fs.length = ps.length) {i : Nat} (hi : i < ps.length) : (pcs fs ps).getD i undef = pv2 (fs.getD i undef) (ps.getD i default) := by
  have h1 : i < fs.length := by omega
  simp [pcs, List.getD_eq_getElem?_getD, List.getElem?_zipWith, List.getElem?_eq_getElem hi, List.getElem?_eq_getElem h1]
theorem pcs_size (fs : List Value) (ps : List Piece) : ∀ u ∈ pcs fs ps, u.cells.size = 2 := by
  intro u hu
  obtain ⟨j, hj, rfl⟩ := List.mem_iff_getElem.1 hu
  simp [pcs, pv2, Value.cells]
theorem IsPieces.toCells {m : Mem} {v : Value} {f : Nat → Value} {ps : List Piece} (h : IsPieces m v f ps) : IsCells m 2 v ps.length (flatv (pcs (fsOf f ps) ps)) := by
  refine ⟨by rw [flatv_len (k := 2) (pcs_size _ _), pcs_len (fsOf_len f ps)], IsArr.congr h fun i j hi hj => ?_⟩
  rw [flat_at (k := 2) (by omega) (pcs_size _ _) (by rw [pcs_len (fsOf_len f ps)]; exact hi) hj, pcs_get (fsOf_len f ps) hi, fsOf_get hi]
  match j, hj with
  | 0, _ => rfl
  | 1, _ => rfl
/-- A piece in another bundle. -/
def setB (ps : List Piece) (p : Nat) (b : Int) : List Piece := ps.set p ⟨(ps.getD p default).marks, b⟩
/-! ### A piece in another bundle: the plain law -/
def lies (t : Table) (p : Nat) (b : Int) : Table := ⟨t.women, setB t.pieces p b, t.wrong⟩
end Go.Proofs.Ytbmohbeocnfefaa
