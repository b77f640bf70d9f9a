/- Tables of one's own: rows of pieces. -/
import Derived.Test.YtppkhehbkoeinaaP10
import Derived.Test.YtppkhehbkoeinaaT37
namespace Go.Proofs.Ytppkhehbkoeinaa
open Go Go.Eng Go.RowKit

theorem getD_set {α : Type} (l : List α) (p i : Nat) (a d : α) : (l.set p a).getD i d = if i = p ∧ p < l.length then a else l.getD i d := by
  rw [List.getD_eq_getElem?_getD, List.getD_eq_getElem?_getD, List.getElem?_set]
  by_cases h : p = i
  · subst h
    by_cases h2 : p < l.length
    · simp [h2]
    · simp [h2]
  · rw [if_neg h, if_neg (fun hh => h hh.1.symm)]
/-- The values of the pieces' marks. -/
def fsOf (f : Nat → Value) (ps : List Piece) : List Value := (List.range ps.length).map f
theorem fsOf_len (f : Nat → Value) (ps : List Piece) : (fsOf f ps).length = ps.length := by simp [fsOf]
theorem fsOf_get {f : Nat → Value} {ps : List Piece} {i : Nat} (hi : i < ps.length) : (fsOf f ps).getD i undef = f i := by simp [fsOf, List.getD_eq_getElem?_getD, hi]
theorem pcs_len {fs : List Value} {ps : List Piece} (h : fs.length = ps.length) : (pcs fs ps).length = ps.length := by simp [pcs, h]
theorem pcs_get {fs : List Value} {ps : List Piece} (h : fs.length = ps.length) {i : Nat} (hi : i < ps.length) : (pcs fs ps).getD i undef = pv2 (fs.getD i undef) (ps.getD i default) := by
  have h1 : i < fs.length := by omega
  simp [pcs, List.getD_eq_getElem?_getD, List.getElem?_zipWith, List.getElem?_eq_getElem hi, List.getElem?_eq_getElem h1]
theorem pcs_size (fs : List Value) (ps : List Piece) : ∀ u ∈ pcs fs ps, u.cells.size = 2 := by
  intro u hu
  obtain ⟨j, hj, rfl⟩ := List.mem_iff_getElem.1 hu
  simp [pcs, pv2, Value.cells]
theorem fsOf_all {m : Mem} {f : Nat → Value} {ps : List Piece} (h : IsMarks m f ps) : AllInts m (fsOf f ps) (ps.map (·.marks)) := by
  refine ⟨by rw [fsOf_len, List.length_map], fun i hi => ?_⟩
  rw [List.length_map] at hi
  rw [fsOf_get hi]
  have := h i hi
  rwa [show (ps.map (·.marks)).getD i [] = (ps.getD i default).marks by simp [List.getD_eq_getElem?_getD, List.getElem?_eq_getElem hi]]
theorem IsPieces.toCells {m : Mem} {v : Value} {f : Nat → Value} {ps : List Piece} (h : IsPieces m v f ps) : IsCells m 2 v ps.length (flatv (pcs (fsOf f ps) ps)) := by
  refine ⟨by rw [flatv_len (k := 2) (pcs_size _ _), pcs_len (fsOf_len f ps)], IsArr.congr h fun i j hi hj => ?_⟩
  rw [flat_at (k := 2) (by omega) (pcs_size _ _) (by rw [pcs_len (fsOf_len f ps)]; exact hi) hj, pcs_get (fsOf_len f ps) hi, fsOf_get hi]
  match j, hj with
  | 0, _ => rfl
  | 1, _ => rfl
/-- A piece in another bundle. -/
def setB (ps : List Piece) (p : Nat) (b : Int) : List Piece := ps.set p ⟨(ps.getD p default).marks, b⟩
theorem setB_get (ps : List Piece) (p i : Nat) (b : Int) : (setB ps p b).getD i default = if i = p ∧ p < ps.length then ⟨(ps.getD p default).marks, b⟩ else ps.getD i default := getD_set ..
/-! ### A piece in another bundle: the plain law -/
def lies (t : Table) (p : Nat) (b : Int) : Table := ⟨t.women, setB t.pieces p b, t.wrong⟩
theorem cnt_near {p q : Nat → Bool} {j : Nat} (h : ∀ i, i ≠ j → p i = q i) : ∀ n, cnt n p ≤ cnt n q + (if j < n then 1 else 0)
  | 0 => by simp [cnt]
  | n + 1 => by
    have ih := cnt_near h n
    have e : cnt (n + 1) p = cnt n p + if p n then 1 else 0 := by cases hp : p n <;> simp [cnt_yes, cnt_no, hp]
    have e2 : cnt (n + 1) q = cnt n q + if q n then 1 else 0 := by cases hp : q n <;> simp [cnt_yes, cnt_no, hp]
    rw [e, e2]
    by_cases hj : n = j
    · subst hj
      rw [if_neg (Nat.lt_irrefl _)] at ih
      rw [if_pos (Nat.lt_succ_self n)]
      split <;> split <;> omega
    · rw [h n hj]
      have : (if j < n then 1 else 0 : Nat) = if j < n + 1 then 1 else 0 := by
        by_cases h1 : j < n
        · rw [if_pos h1, if_pos (by omega)]
        · rw [if_neg h1, if_neg (by omega)]
      omega
theorem lies_near (t : Table) (p : Nat) (b : Int) (l : List Int) : aN (lies t p b) l ≤ aN t l + 1 ∧ aN t l ≤ aN (lies t p b) l + 1 := by
  have key : ∀ i, i ≠ p → (!decide (((lies t p b).pieces.getD i default).bundle = l.getD i 0)) = !decide ((t.pieces.getD i default).bundle = l.getD i 0) := fun i hi => by
    show (!decide (((setB t.pieces p b).getD i default).bundle = l.getD i 0)) = _
    rw [setB_get, if_neg (fun h => hi h.1)]
  have h1 := cnt_near (n := l.length) (j := p) key
  have h2 := cnt_near (n := l.length) (j := p) (fun i hi => (key i hi).symm)
  unfold aN astray
  rw [sel_length, sel_length]
  have h3 : (if p < l.length then 1 else 0 : Nat) ≤ 1 := by split <;> omega
  omega
end Go.Proofs.Ytppkhehbkoeinaa
