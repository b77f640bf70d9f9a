/- Tables of one's own: rows of pieces. -/
import Derived.Test.YtppkhehbkoeinaaP10
import Derived.Test.YtppkhehbkoeinaaT37
namespace Go.Proofs.Ytppkhehbkoeinaa
open Go Go.Eng Go.RowKit

theorem getD_set {α : Type} (l : List α) (p i : Nat) (a d : α) : (l.set p a).getD i d = if i = p ∧ p < l.length then a else l.getD i d := by
  rw [List.getD_eq_getElem?_getD, List.getD_eq_getElem?_getD, List.getElem?_set]
  by_cases h : p = i
  · subst h
    by_cases h2 : p < l.length
    · simp [h2]
    · simp [h2]
  · rw [if_neg h, if_neg (fun hh => h hh.1.symm)]
/-- The values of the pieces' marks. -/
def fsOf (f : Nat → Value) (ps : List Piece) : List Value := (List.range ps.length).map f
theorem fsOf_len (f : Nat → Value) (ps : List Piece) : (fsOf f ps).length = ps.length := by simp [fsOf]
theorem fsOf_get {f : Nat → Value} {ps : List Piece} {i : Nat} (hi : i < ps.length) : (fsOf f ps).getD i undef = f i := by simp [fsOf, List.getD_eq_getElem?_getD, hi]
theorem pcs_len {fs : List Value} {ps : List Piece} (h : fs.length = ps.length) : (pcs fs ps).length = ps.length := by simp [pcs, h]
theorem pcs_get {fs : List Value} {ps : List Piece} (h : fs.length = ps.length) {i : Nat} (hi : i < ps.length) : (pcs fs ps).getD i undef = pv2 (fs.getD i undef) (ps.getD i default) := by
  have h1 : i < fs.length := by omega
  simp [pcs, List.getD_eq_getElem?_getD, List.getElem?_zipWith, List.getElem?_eq_getElem hi, List.getElem?_eq_getElem h1]
theorem pcs_size (fs : List Value) (ps : List Piece) : ∀ u ∈ pcs fs ps, u.cells.size = 2 := by
  intro u hu
  obtain ⟨j, hj, rfl⟩ := List.mem_iff_getElem.1 hu
  simp [pcs, pv2, Value.cells]
theorem pcs_one {m : Mem} {fs : List Value} {ps : List Piece} {ms : List (List Int)} (h : AllInts m fs ms) : ∀ u ∈ pcs fs ps, ∀ x ∈ u.cells.toList, x.oneCell' = true := by
  intro u hu
  obtain ⟨j, hj, rfl⟩ := List.mem_iff_getElem.1 hu
  simp [pcs, pv2, Value.cells, Value.oneCell']
  exact h.one _ (List.getElem_mem _)
theorem fsOf_all {m : Mem} {f : Nat → Value} {ps : List Piece} (h : IsMarks m f ps) : AllInts m (fsOf f ps) (ps.map (·.marks)) := by
  refine ⟨by rw [fsOf_len, List.length_map], fun i hi => ?_⟩
  rw [List.length_map] at hi
  rw [fsOf_get hi]
  have := h i hi
  rwa [show (ps.map (·.marks)).getD i [] = (ps.getD i default).marks by simp [List.getD_eq_getElem?_getD, List.getElem?_eq_getElem hi]]
theorem IsPieces.toCells {m : Mem} {v : Value} {f : Nat → Value} {ps : List Piece} (h : IsPieces m v f ps) : IsCells m 2 v ps.length (flatv (pcs (fsOf f ps) ps)) := by
  refine ⟨by rw [flatv_len (k := 2) (pcs_size _ _), pcs_len (fsOf_len f ps)], IsArr.congr h fun i j hi hj => ?_⟩
  rw [flat_at (k := 2) (by omega) (pcs_size _ _) (by rw [pcs_len (fsOf_len f ps)]; exact hi) hj, pcs_get (fsOf_len f ps) hi, fsOf_get hi]
  match j, hj with
  | 0, _ => rfl
  | 1, _ => rfl
/-- A piece in another bundle. -/
def setB (ps : List Piece) (p : Nat) (b : Int) : List Piece := ps.set p ⟨(ps.getD p default).marks, b⟩
theorem setB_len (ps : List Piece) (p : Nat) (b : Int) : (setB ps p b).length = ps.length := by simp [setB]
theorem setB_get (ps : List Piece) (p i : Nat) (b : Int) : (setB ps p b).getD i default = if i = p ∧ p < ps.length then ⟨(ps.getD p default).marks, b⟩ else ps.getD i default := getD_set ..
theorem setB_marks (ps : List Piece) (p i : Nat) (b : Int) : ((setB ps p b).getD i default).marks = (ps.getD i default).marks := by
  rw [setB_get]
  split
  · rename_i h; rw [h.1]
  · rfl
theorem setB_map (ps : List Piece) (p : Nat) (b : Int) : (setB ps p b).map (·.marks) = ps.map (·.marks) := by
  apply List.ext_getElem
  · simp [setB]
  intro i h1 h2
  have hi : i < ps.length := by simpa using h2
  have := setB_marks ps p i b
  rw [List.getD_eq_getElem?_getD, List.getElem?_eq_getElem (by rw [setB_len]; exact hi), List.getD_eq_getElem?_getD, List.getElem?_eq_getElem hi] at this
  simpa using this
theorem setB_store {fs : List Value} {ps : List Piece} (hf : fs.length = ps.length) {p : Nat} (hp : p < ps.length) (b : Int) :
    (flatv (pcs fs ps)).take (p * 2 + 1) ++ ((vi b).cells.toList ++ (flatv (pcs fs ps)).drop (p * 2 + 1 + 1)) = flatv (pcs fs (setB ps p b)) := by
  have hfp : p < fs.length := by omega
  have e1 : fs = fs.take p ++ fs.getD p undef :: fs.drop (p + 1) := by
    rw [List.getD_eq_getElem?_getD, List.getElem?_eq_getElem hfp]; simp
  have e2 : ps = ps.take p ++ ps.getD p default :: ps.drop (p + 1) := by
    rw [List.getD_eq_getElem?_getD, List.getElem?_eq_getElem hp]; simp
  have e3 : setB ps p b = ps.take p ++ ⟨(ps.getD p default).marks, b⟩ :: ps.drop (p + 1) := by
    unfold setB; rw [List.set_eq_take_append_cons_drop, if_pos hp]
  have hl1 : (fs.take p).length = p := by rw [List.length_take]; omega
  have hl2 : (ps.take p).length = p := by rw [List.length_take]; omega
  have hl3 : (pcs (fs.take p) (ps.take p)).length = p := by rw [pcs_len (by rw [hl1, hl2]), hl2]
  have hz : ∀ (q : Piece), pcs fs (ps.take p ++ q :: ps.drop (p + 1)) = pcs (fs.take p) (ps.take p) ++ pv2 (fs.getD p undef) q :: pcs (fs.drop (p + 1)) (ps.drop (p + 1)) := fun q => by
    conv => lhs; rw [e1]
    unfold pcs
    rw [List.zipWith_append (by rw [hl1, hl2])]
    rfl
  have hA : pcs fs ps = pcs (fs.take p) (ps.take p) ++ pv2 (fs.getD p undef) (ps.getD p default) :: pcs (fs.drop (p + 1)) (ps.drop (p + 1)) := by
    rw [← hz, ← e2]
  rw [e3, hz, hA, flatv_append, flatv_append]
  have hf2 : (flatv (pcs (fs.take p) (ps.take p))).length = p * 2 := by rw [flatv_len (k := 2) (pcs_size _ _), hl3]
  have e4 : ∀ (x : Piece), flatv (pv2 (fs.getD p undef) x :: pcs (fs.drop (p + 1)) (ps.drop (p + 1))) = [fs.getD p undef, vi x.bundle] ++ flatv (pcs (fs.drop (p + 1)) (ps.drop (p + 1))) := fun x => rfl
  rw [e4, e4]
  generalize flatv (pcs (fs.take p) (ps.take p)) = A at hf2 ⊢
  generalize flatv (pcs (fs.drop (p + 1)) (ps.drop (p + 1))) = B
  rw [List.take_append, List.take_of_length_le (by omega), hf2, show p * 2 + 1 - p * 2 = 1 by omega, List.drop_append, List.drop_of_length_le (by omega), hf2, show p * 2 + 1 + 1 - p * 2 = 2 by omega]
  simp [Value.cells]
/-- A table of one's own, as it is read. -/
theorem own_table {h m : Mem} {wv pv : Value} {t : Table} {f : Nat → Value} {ps : List Piece} (hle : MLe h m) (hl : ps.length = t.pieces.length) (hm : ps.map (·.marks) = t.pieces.map (·.marks)) (hW : IsWomen m wv t.women) (hM : IsMarks h f t.pieces)
    (hp : IsPieces m pv (fun i => (fsOf f t.pieces).getD i undef) ps) {n : Int} : IsTable m (.agg #[wv, pv, vi n]) ⟨t.women, ps, n⟩ := by
  refine ⟨wv, pv, _, rfl, hW, hp, fun i hi => ?_⟩
  have hi' : i < t.pieces.length := by rw [← hl]; exact hi
  have := hM i hi'
  show IsInts m ((fsOf f t.pieces).getD i undef) (ps.getD i default).marks
  rw [fsOf_get hi']
  have e : (ps.getD i default).marks = (t.pieces.getD i default).marks := by
    have h1 := congrArg (fun l => l.getD i []) hm
    simpa [List.getD_eq_getElem?_getD, List.getElem?_eq_getElem hi, List.getElem?_eq_getElem hi'] using h1
  rw [e]
  exact this.le hle
/-! ### A piece in another bundle: the plain law -/
def lies (t : Table) (p : Nat) (b : Int) : Table := ⟨t.women, setB t.pieces p b, t.wrong⟩
theorem lies_same (t : Table) (p : Nat) (b : Int) : Same t (lies t p b) := ⟨rfl, setB_len _ _ _, fun _ _ => rfl, fun _ => setB_marks _ _ _ _⟩
theorem lies_valid {t : Table} (hV : Valid t) {p : Nat} {b : Int} (hb : 0 ≤ b ∧ b < t.women.length) : Valid (lies t p b) := by
  have hS := lies_same t p b
  refine ⟨hV.women, by rw [hS.pieces]; exact hV.pieces, hV.wrong, hV.woman, fun i hi => ?_, by rw [hS.many]; exact hV.many⟩
  rw [hS.pieces] at hi
  have h1 := hV.piece i hi
  unfold pieceBad at h1 ⊢
  rw [hS.marks, hS.of]
  simp only [Bool.or_eq_false_iff] at h1 ⊢
  refine ⟨⟨h1.1.1, ?_⟩, h1.2⟩
  show (!decide (0 ≤ ((setB t.pieces p b).getD i default).bundle ∧ ((setB t.pieces p b).getD i default).bundle ≤ (t.women.length : Int) - 1)) = false
  rw [setB_get]
  split
  · rw [Bool.not_eq_false']; exact decide_eq_true ⟨hb.1, by show b ≤ _; omega⟩
  · exact h1.1.2
theorem lies_ask (t : Table) (p : Nat) (b : Int) : ask (lies t p b) = ask t := by
  unfold ask
  rw [(lies_same t p b).all]
  rfl
theorem cnt_near {p q : Nat → Bool} {j : Nat} (h : ∀ i, i ≠ j → p i = q i) : ∀ n, cnt n p ≤ cnt n q + (if j < n then 1 else 0)
  | 0 => by simp [cnt]
  | n + 1 => by
    have ih := cnt_near h n
    have e : cnt (n + 1) p = cnt n p + if p n then 1 else 0 := by cases hp : p n <;> simp [cnt_yes, cnt_no, hp]
    have e2 : cnt (n + 1) q = cnt n q + if q n then 1 else 0 := by cases hp : q n <;> simp [cnt_yes, cnt_no, hp]
    rw [e, e2]
    by_cases hj : n = j
    · subst hj
      rw [if_neg (Nat.lt_irrefl _)] at ih
      rw [if_pos (Nat.lt_succ_self n)]
      split <;> split <;> omega
    · rw [h n hj]
      have : (if j < n then 1 else 0 : Nat) = if j < n + 1 then 1 else 0 := by
        by_cases h1 : j < n
        · rw [if_pos h1, if_pos (by omega)]
        · rw [if_neg h1, if_neg (by omega)]
      omega
theorem lies_near (t : Table) (p : Nat) (b : Int) (l : List Int) : aN (lies t p b) l ≤ aN t l + 1 ∧ aN t l ≤ aN (lies t p b) l + 1 := by
  have key : ∀ i, i ≠ p → (!decide (((lies t p b).pieces.getD i default).bundle = l.getD i 0)) = !decide ((t.pieces.getD i default).bundle = l.getD i 0) := fun i hi => by
    show (!decide (((setB t.pieces p b).getD i default).bundle = l.getD i 0)) = _
    rw [setB_get, if_neg (fun h => hi h.1)]
  have h1 := cnt_near (n := l.length) (j := p) key
  have h2 := cnt_near (n := l.length) (j := p) (fun i hi => (key i hi).symm)
  unfold aN astray
  rw [sel_length, sel_length]
  have h3 : (if p < l.length then 1 else 0 : Nat) ≤ 1 := by split <;> omega
  omega
end Go.Proofs.Ytppkhehbkoeinaa
