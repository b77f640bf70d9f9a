/- Marks that can be read in fewer ways: the plain law. -/
import Derived.Test.YtppkhehbkoeinaaT42
import Derived.Test.YtppkhehbkoeinaaT43
namespace Go.Proofs.Ytppkhehbkoeinaa
open Go Go.Eng Go.RowKit

structure Fewer (t x : Table) : Prop where
  women : x.women = t.women
  wrong : x.wrong = t.wrong
  pieces : x.pieces.length = t.pieces.length
  bundle : ∀ i, (x.pieces.getD i default).bundle = (t.pieces.getD i default).bundle
  sub : ∀ i w, w ∈ womenOf x i → w ∈ womenOf t i
theorem Fewer.tails {t x : Table} (h : Fewer t x) : ∀ r l, l ∈ tails x r → l ∈ tails t r
  | 0, _, hl => hl
  | r + 1, l, hl => by
    obtain ⟨w, hw, h2⟩ := List.mem_flatMap.1 hl
    obtain ⟨l', h3, rfl⟩ := List.mem_map.1 h2
    rw [h.pieces] at hw
    exact List.mem_flatMap.2 ⟨w, h.sub _ _ hw, List.mem_map.2 ⟨l', h.tails r l' h3, rfl⟩⟩
theorem Fewer.truth {t x : Table} (h : Fewer t x) (l : List Int) : isTruthP x l = isTruthP t l := by
  unfold isTruthP wrongP rightP
  rw [h.women, h.wrong]
theorem Fewer.ask {t x : Table} (h : Fewer t x) {l : List Int} (hl : l ∈ ask x) : l ∈ Go.Proofs.Ytppkhehbkoeinaa.ask t := by
  obtain ⟨h1, h2⟩ := List.mem_filter.1 hl
  unfold allOwners at h1
  rw [h.pieces] at h1
  exact List.mem_filter.2 ⟨h.tails _ _ h1, by rw [← h.truth]; exact h2⟩
theorem Fewer.ne {t x : Table} (h : Fewer t x) (h0 : Go.Proofs.Ytppkhehbkoeinaa.ask x ≠ []) : Go.Proofs.Ytppkhehbkoeinaa.ask t ≠ [] := by
  obtain ⟨l, hl⟩ := List.exists_mem_of_ne_nil _ h0
  exact fun e => by have := h.ask hl; rw [e] at this; cases this
theorem Fewer.aN {t x : Table} (h : Fewer t x) (l : List Int) : aN x l = Go.Proofs.Ytppkhehbkoeinaa.aN t l := by
  unfold Go.Proofs.Ytppkhehbkoeinaa.aN astray
  rw [sel_congr fun i _ => by rw [h.bundle i]]
theorem Fewer.lo {t x : Table} (h : Fewer t x) (h0 : Go.Proofs.Ytppkhehbkoeinaa.ask x ≠ []) : loQ (Go.Proofs.Ytppkhehbkoeinaa.aN t) (Go.Proofs.Ytppkhehbkoeinaa.ask t) (Go.Proofs.Ytppkhehbkoeinaa.ask t).length ≤ loQ (Go.Proofs.Ytppkhehbkoeinaa.aN x) (Go.Proofs.Ytppkhehbkoeinaa.ask x) (Go.Proofs.Ytppkhehbkoeinaa.ask x).length := by
  refine (le_loA (g := Go.Proofs.Ytppkhehbkoeinaa.aN x) h0).2 fun l hl => ?_
  rw [h.aN]
  exact (le_loA (g := Go.Proofs.Ytppkhehbkoeinaa.aN t) (c := loQ (Go.Proofs.Ytppkhehbkoeinaa.aN t) (Go.Proofs.Ytppkhehbkoeinaa.ask t) (Go.Proofs.Ytppkhehbkoeinaa.ask t).length) (h.ne h0)).1 (Int.le_refl _) l (h.ask hl)
theorem Fewer.hi {t x : Table} (h : Fewer t x) (h0 : Go.Proofs.Ytppkhehbkoeinaa.ask x ≠ []) : hiQ (Go.Proofs.Ytppkhehbkoeinaa.aN x) (Go.Proofs.Ytppkhehbkoeinaa.ask x) (Go.Proofs.Ytppkhehbkoeinaa.ask x).length ≤ hiQ (Go.Proofs.Ytppkhehbkoeinaa.aN t) (Go.Proofs.Ytppkhehbkoeinaa.ask t) (Go.Proofs.Ytppkhehbkoeinaa.ask t).length := by
  refine (hiA_le (g := Go.Proofs.Ytppkhehbkoeinaa.aN x) h0).2 fun l hl => ?_
  rw [h.aN]
  exact (hiA_le (g := Go.Proofs.Ytppkhehbkoeinaa.aN t) (c := hiQ (Go.Proofs.Ytppkhehbkoeinaa.aN t) (Go.Proofs.Ytppkhehbkoeinaa.ask t) (Go.Proofs.Ytppkhehbkoeinaa.ask t).length) (h.ne h0)).1 (Int.le_refl _) l (h.ask hl)
theorem Fewer.miss {t x : Table} (h : Fewer t x) (l : List Int) (w : Int) : doesMiss x l w = doesMiss t l w := by
  unfold doesMiss
  simp only [h.bundle]
theorem Fewer.kept {t x : Table} (h : Fewer t x) (h0 : Go.Proofs.Ytppkhehbkoeinaa.ask x ≠ []) : keptB (missTo t t.women.length) (missTo x x.women.length) = true := by
  have hl1 : (missTo t t.women.length).length = t.women.length := by simp [missTo]
  have hl2 : (missTo x x.women.length).length = t.women.length := by simp [missTo, h.women]
  unfold keptB
  refine decide_eq_true ⟨fun i hi _ => ?_, by rw [hl1, hl2]⟩
  rw [hl1] at hi
  rw [missTo_get hi, missTo_get (by rw [h.women]; exact hi), missV_eq i h0, missV_eq i (h.ne h0)]
  unfold misses
  have hpos : 0 < (Go.Proofs.Ytppkhehbkoeinaa.ask x).length := List.length_pos_iff.2 h0
  by_cases h1 : missing t (Go.Proofs.Ytppkhehbkoeinaa.ask t) i = (Go.Proofs.Ytppkhehbkoeinaa.ask t).length
  · have h2 : missing x (Go.Proofs.Ytppkhehbkoeinaa.ask x) i = (Go.Proofs.Ytppkhehbkoeinaa.ask x).length := missing_all.2 fun l hl => by rw [h.miss]; exact missing_all.1 h1 l (h.ask hl)
    rw [if_pos h1, if_pos h2]; exact .inr rfl
  · by_cases h3 : missing t (Go.Proofs.Ytppkhehbkoeinaa.ask t) i = 0
    · have h2 : missing x (Go.Proofs.Ytppkhehbkoeinaa.ask x) i = 0 := missing_none.2 fun l hl => by rw [h.miss]; exact missing_none.1 h3 l (h.ask hl)
      rw [if_neg h1, if_pos h3, if_neg (by omega), if_pos h2]; exact .inr rfl
    · rw [if_neg h1, if_neg h3]; exact .inl rfl
/-- Other marks of a piece. -/
def setM (ps : List Piece) (p : Nat) (ms : List Int) : List Piece := ps.set p ⟨ms, (ps.getD p default).bundle⟩
theorem setM_len (ps : List Piece) (p : Nat) (ms : List Int) : (setM ps p ms).length = ps.length := by simp [setM]
theorem setM_get (ps : List Piece) (p i : Nat) (ms : List Int) : (setM ps p ms).getD i default = if i = p ∧ p < ps.length then ⟨ms, (ps.getD p default).bundle⟩ else ps.getD i default := getD_set ..
theorem setM_fewer {t : Table} {p : Nat} (_ : p < t.pieces.length) {ms : List Int} (hs : ∀ y ∈ ms, y ∈ (t.pieces.getD p default).marks) : Fewer t ⟨t.women, setM t.pieces p ms, t.wrong⟩ := by
  refine ⟨rfl, rfl, setM_len _ _ _, fun i => ?_, fun i w hw => ?_⟩
  · show ((setM t.pieces p ms).getD i default).bundle = _
    rw [setM_get]
    split
    · rename_i h; rw [h.1]
    · rfl
  · obtain ⟨j, h1, h2, e⟩ := mem_sel.1 hw
    refine mem_sel.2 ⟨j, h1, ?_, e⟩
    have h2 := of_decide_eq_true h2
    refine decide_eq_true ?_
    have h3 : (t.women.getD j default).mark ∈ ((setM t.pieces p ms).getD i default).marks := h2
    rw [setM_get] at h3
    split at h3
    · rename_i h; rw [h.1]; exact hs _ h3
    · exact h3
theorem setM_store {fs : List Value} {ps : List Piece} (hf : fs.length = ps.length) {p : Nat} (hp : p < ps.length) (v : Value) (hv : v.cells = #[v]) (ms : List Int) :
    (flatv (pcs fs ps)).take (p * 2 + 0) ++ (v.cells.toList ++ (flatv (pcs fs ps)).drop (p * 2 + 0 + 1)) = flatv (pcs (fs.set p v) (setM ps p ms)) := by
  have hfp : p < fs.length := by omega
  have e1 : fs = fs.take p ++ fs.getD p undef :: fs.drop (p + 1) := by
    rw [List.getD_eq_getElem?_getD, List.getElem?_eq_getElem hfp]; simp
  have e2 : ps = ps.take p ++ ps.getD p default :: ps.drop (p + 1) := by
    rw [List.getD_eq_getElem?_getD, List.getElem?_eq_getElem hp]; simp
  have e3 : setM ps p ms = ps.take p ++ ⟨ms, (ps.getD p default).bundle⟩ :: ps.drop (p + 1) := by
    unfold setM; rw [List.set_eq_take_append_cons_drop, if_pos hp]
  have e5 : fs.set p v = fs.take p ++ v :: fs.drop (p + 1) := by rw [List.set_eq_take_append_cons_drop, if_pos hfp]
  have hl1 : (fs.take p).length = p := by rw [List.length_take]; omega
  have hl2 : (ps.take p).length = p := by rw [List.length_take]; omega
  have hl3 : (pcs (fs.take p) (ps.take p)).length = p := by rw [pcs_len (by rw [hl1, hl2]), hl2]
  have hz : ∀ (u : Value) (q : Piece), pcs (fs.take p ++ u :: fs.drop (p + 1)) (ps.take p ++ q :: ps.drop (p + 1)) = pcs (fs.take p) (ps.take p) ++ pv2 u q :: pcs (fs.drop (p + 1)) (ps.drop (p + 1)) := fun u q => by
    unfold pcs
    rw [List.zipWith_append (by rw [hl1, hl2])]
    rfl
  have hA : pcs fs ps = pcs (fs.take p) (ps.take p) ++ pv2 (fs.getD p undef) (ps.getD p default) :: pcs (fs.drop (p + 1)) (ps.drop (p + 1)) := by
    rw [← hz, ← e1, ← e2]
  rw [e3, e5, hz, hA, flatv_append, flatv_append]
  have hf2 : (flatv (pcs (fs.take p) (ps.take p))).length = p * 2 := by rw [flatv_len (k := 2) (pcs_size _ _), hl3]
  have e4 : ∀ (u : Value) (x : Piece), flatv (pv2 u x :: pcs (fs.drop (p + 1)) (ps.drop (p + 1))) = [u, vi x.bundle] ++ flatv (pcs (fs.drop (p + 1)) (ps.drop (p + 1))) := fun u x => rfl
  rw [e4, e4]
  generalize flatv (pcs (fs.take p) (ps.take p)) = A at hf2 ⊢
  generalize flatv (pcs (fs.drop (p + 1)) (ps.drop (p + 1))) = B
  rw [List.take_append, List.take_of_length_le (by omega), hf2, show p * 2 + 0 - p * 2 = 0 by omega, List.drop_append, List.drop_of_length_le (by omega), hf2, show p * 2 + 0 + 1 - p * 2 = 1 by omega, hv]
  simp
end Go.Proofs.Ytppkhehbkoeinaa
