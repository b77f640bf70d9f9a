/- Tables of one's own: rows of pieces. -/
import Derived.Test.YtbmohbeocnfefaaP10
import Derived.Test.YtbmohbeocnfefaaT37
namespace Go.Proofs.Ytbmohbeocnfefaa
open Go Go.Eng Go.RowKit

theorem getD_set {α : Type} (l : List α) (p i : Nat) (a d : α) : (l.set p a).getD i d = if i = p ∧ p < l.length then a else l.getD i d := by
  rw [List.getD_eq_getElem?_getD, List.getD_eq_getElem?_getD, List.getElem?_set]
  by_cases h : p = i
  · subst h
    by_cases h2 : p < l.length
    · simp [h2]
    · simp [h2]
  · rw [if_neg h, if_neg (fun hh => h hh.1.symm)]
/-- The values of the pieces' marks. -/
def fsOf (f : Nat → Value) (ps : List Piece) : List Value := (List.range ps.length).map f
theorem fsOf_len (f : Nat → Value) (ps : List Piece) : (fsOf f ps).length = ps.length := by simp [fsOf]
theorem fsOf_get {f : Nat → Value} {ps : List Piece} {i : Nat} (hi : i < ps.length) : (fsOf f ps).getD i undef = f i := by simp [fsOf, List.getD_eq_getElem?_getD, hi]
theorem pcs_len {fs : List Value} {ps : List Piece} (h : fs.length = ps.length) : (pcs fs ps).length = ps.length := by simp [pcs, h]
theorem pcs_get {fs : List Value} {ps : List Piece} (h : fs.length = ps.length) {i : Nat} (hi : i < ps.length) : (pcs fs ps).getD i undef = pv2 (fs.getD i undef) (ps.getD i default) := by
  have h1 : i < fs.length := by omega
  simp [pcs, List.getD_eq_getElem?_getD, List.getElem?_zipWith, List.getElem?_eq_getElem hi, List.getElem?_eq_getElem h1]
theorem pcs_size (fs : List Value) (ps : List Piece) : ∀ u ∈ pcs fs ps, u.cells.size = 2 := by
  intro u hu
  obtain ⟨j, hj, rfl⟩ := List.mem_iff_getElem.1 hu
  simp [pcs, pv2, Value.cells]
theorem pcs_one {m : Mem} {fs : List Value} {ps : List Piece} {ms : List (List Int)} (h : AllInts m fs ms) : ∀ u ∈ pcs fs ps, ∀ x ∈ u.cells.toList, x.oneCell' = true := by
  intro u hu
  obtain ⟨j, hj, rfl⟩ := List.mem_iff_getElem.1 hu
  simp [pcs, pv2, Value.cells, Value.oneCell']
  exact h.one _ (List.getElem_mem _)
theorem fsOf_all {m : Mem} {f : Nat → Value} {ps : List Piece} (h : IsMarks m f ps) : AllInts m (fsOf f ps) (ps.map (·.marks)) := by
  refine ⟨by rw [fsOf_len, List.length_map], fun i hi => ?_⟩
  rw [List.length_map] at hi
  rw [fsOf_get hi]
  have := h i hi
  rwa [show (ps.map (·.marks)).getD i [] = (ps.getD i default).marks by simp [List.getD_eq_getElem?_getD, List.getElem?_eq_getElem hi]]
theorem IsPieces.toCells {m : Mem} {v : Value} {f : Nat → Value} {ps : List Piece} (h : IsPieces m v f ps) : IsCells m 2 v ps.length (flatv (pcs (fsOf f ps) ps)) := by
  refine ⟨by rw [flatv_len (k := 2) (pcs_size _ _), pcs_len (fsOf_len f ps)], IsArr.congr h fun i j hi hj => ?_⟩
  rw [flat_at (k := 2) (by omega) (pcs_size _ _) (by rw [pcs_len (fsOf_len f ps)]; exact hi) hj, pcs_get (fsOf_len f ps) hi, fsOf_get hi]
  match j, hj with
  | 0, _ => rfl
  | 1, _ => rfl
/-- A piece in another bundle. -/
def setB (ps : List Piece) (p : Nat) (b : Int) : List Piece := ps.set p ⟨(ps.getD p default).marks, b⟩
theorem setB_len (ps : List Piece) (p : Nat) (b : Int) : (setB ps p b).length = ps.length := by simp [setB]
theorem setB_get (ps : List Piece) (p i : Nat) (b : Int) : (setB ps p b).getD i default = if i = p ∧ p < ps.length then ⟨(ps.getD p default).marks, b⟩ else ps.getD i default := getD_set ..
theorem setB_marks (ps : List Piece) (p i : Nat) (b : Int) : ((setB ps p b).getD i default).marks = (ps.getD i default).marks := by
  rw [setB_get]
  split
  · rename_i h; rw [h.1]
  · rfl
theorem setB_store {fs : List Value} {ps : List Piece} (hf : fs.length = ps.length) {p : Nat} (hp : p < ps.length) (b : Int) :
    (flatv (pcs fs ps)).take (p * 2 + 1) ++ ((vi b).cells.toList ++ (flatv (pcs fs ps)).drop (p * 2 + 1 + 1)) = flatv (pcs fs (setB ps p b)) := by
  have hfp : p < fs.length := by omega
  have e1 : fs = fs.take p ++ fs.getD p undef :: fs.drop (p + 1) := by
    rw [List.getD_eq_getElem?_getD, List.getElem?_eq_getElem hfp]; simp
  have e2 : ps = ps.take p ++ ps.getD p default :: ps.drop (p + 1) := by
    rw [List.getD_eq_getElem?_getD, List.getElem?_eq_getElem hp]; simp
  have e3 : setB ps p b = ps.take p ++ ⟨(ps.getD p default).marks, b⟩ :: ps.drop (p + 1) := by
    unfold setB; rw [List.set_eq_take_append_cons_drop, if_pos hp]
  have hl1 : (fs.take p).length = p := by rw [List.length_take]; omega
  have hl2 : (ps.take p).length = p := by rw [List.length_take]; omega
  have hl3 : (pcs (fs.take p) (ps.take p)).length = p := by rw [pcs_len (by rw [hl1, hl2]), hl2]
  have hz : ∀ (q : Piece), pcs fs (ps.take p ++ q :: ps.drop (p + 1)) = pcs (fs.take p) (ps.take p) ++ pv2 (fs.getD p undef) q :: pcs (fs.drop (p + 1)) (ps.drop (p + 1)) := fun q => by
    conv => lhs; rw [e1]
    unfold pcs
    rw [List.zipWith_append (by rw [hl1, hl2])]
    rfl
  have hA : pcs fs ps = pcs (fs.take p) (ps.take p) ++ pv2 (fs.getD p undef) (ps.getD p default) :: pcs (fs.drop (p + 1)) (ps.drop (p + 1)) := by
    rw [← hz, ← e2]
  rw [e3, hz, hA, flatv_append, flatv_append]
  have hf2 : (flatv (pcs (fs.take p) (ps.take p))).length = p * 2 := by rw [flatv_len (k := 2) (pcs_size _ _), hl3]
  have e4 : ∀ (x : Piece), flatv (pv2 (fs.getD p undef) x :: pcs (fs.drop (p + 1)) (ps.drop (p + 1))) = [fs.getD p undef, vi x.bundle] ++ flatv (pcs (fs.drop (p + 1)) (ps.drop (p + 1))) := fun x => rfl
  rw [e4, e4]
  generalize flatv (pcs (fs.take p) (ps.take p)) = A at hf2 ⊢
  generalize flatv (pcs (fs.drop (p + 1)) (ps.drop (p + 1))) = B
  rw [List.take_append, List.take_of_length_le (by omega), hf2, show p * 2 + 1 - p * 2 = 1 by omega, List.drop_append, List.drop_of_length_le (by omega), hf2, show p * 2 + 1 + 1 - p * 2 = 2 by omega]
  simp [Value.cells]
/-! ### A piece in another bundle: the plain law -/
def lies (t : Table) (p : Nat) (b : Int) : Table := ⟨t.women, setB t.pieces p b, t.wrong⟩
end Go.Proofs.Ytbmohbeocnfefaa
