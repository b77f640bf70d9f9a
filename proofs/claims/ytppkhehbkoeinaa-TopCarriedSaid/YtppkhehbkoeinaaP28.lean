/- Plain law: all pieces brought back; a mark that is read well. -/
import Derived.Test.YtppkhehbkoeinaaP26
import Derived.Test.YtppkhehbkoeinaaT51
namespace Go.Proofs.Ytppkhehbkoeinaa
open Go Go.Eng Go.RowKit

/-! ### All pieces brought back -/
def allBack (t : Table) : Table := backTo t (movesOf t (fewest t (ask t))) ((movesOf t (fewest t (ask t))).map (·.piece)) (movesOf t (fewest t (ask t))).length
theorem movesOf_nil {t : Table} {x : List Int} (h : movesOf t x = []) : astray t x = [] := by
  unfold movesOf at h
  exact List.map_eq_nil_iff.1 h
structure Carried (t x : Table) : Prop where
  valid : Valid x
  ask : ask x = Go.Proofs.Ytppkhehbkoeinaa.ask t
  moves : movesOf x (fewest x (Go.Proofs.Ytppkhehbkoeinaa.ask x)) = []
theorem allBack_carried {t : Table} (hV : Valid t) (h0 : ask t ≠ []) : Carried t (allBack t) := by
  have hB := back_spec hV h0 ((movesOf t (fewest t (ask t))).map (·.piece)) _ (Nat.le_refl _)
  rw [← movesOf_len] at hB
  have hm := back_moves hV h0 ((movesOf t (fewest t (ask t))).map (·.piece))
  refine ⟨hB.valid, hB.ask, ?_⟩
  refine hm.trans ?_
  unfold leftM
  rw [List.take_length, List.filter_eq_nil_iff]
  intro m hmm
  simp only [Bool.not_eq_true, Bool.not_eq_false', decide_eq_true_eq]
  exact List.mem_map.2 ⟨m, hmm, rfl⟩
section
variable {t x : Table} (h : Carried t x) (h0 : Go.Proofs.Ytppkhehbkoeinaa.ask t ≠ [])
include h h0
theorem Carried.ne : Go.Proofs.Ytppkhehbkoeinaa.ask x ≠ [] := by rw [h.ask]; exact h0
omit h0 in
theorem Carried.astray : astray x (fewest x (Go.Proofs.Ytppkhehbkoeinaa.ask x)) = [] := movesOf_nil h.moves
theorem Carried.lo : loQ (aN x) (Go.Proofs.Ytppkhehbkoeinaa.ask x) (Go.Proofs.Ytppkhehbkoeinaa.ask x).length = 0 := by
  rw [← fewest_lo (h.ne h0)]
  show ((Go.Proofs.Ytppkhehbkoeinaa.astray x (fewest x (Go.Proofs.Ytppkhehbkoeinaa.ask x))).length : Int) = 0
  rw [h.astray]; rfl
theorem Carried.miss (k : Nat) : missV x k ≠ 1 := by
  have hne := h.ne h0
  rw [missV_eq k hne]
  unfold misses
  split
  · rename_i hm
    have := missing_all.1 hm _ (fewest_mem hne)
    unfold doesMiss at this
    obtain ⟨i, hi, e⟩ := ex_iff.1 this
    simp only [Bool.and_eq_true, decide_eq_true_eq, Bool.not_eq_true', decide_eq_false_iff_not] at e
    have hin : (i : Int) ∈ Go.Proofs.Ytppkhehbkoeinaa.astray x (fewest x (Go.Proofs.Ytppkhehbkoeinaa.ask x)) := mem_sel.2 ⟨i, hi, by rw [e.1]; simpa using e.2, rfl⟩
    rw [h.astray] at hin; cases hin
  · split
    · simp
    · simp
omit h0 in
theorem Carried.who (hw : x.women.length = t.women.length) (k : Nat) : whoTo x k = whoTo t k := by
  unfold whoTo whoP whoQ
  rw [h.ask, hw]
end
/-! ### A mark that is read well -/
structure Read (t x : Table) : Prop where
  fewer : Fewer t x
  valid : Valid x
  ask : ask x ≠ []
  fewest : fewest x (Go.Proofs.Ytppkhehbkoeinaa.ask x) = Go.Proofs.Ytppkhehbkoeinaa.fewest t (Go.Proofs.Ytppkhehbkoeinaa.ask t)
theorem Read.moves {t x : Table} (h : Read t x) : movesOf x (Go.Proofs.Ytppkhehbkoeinaa.fewest x (Go.Proofs.Ytppkhehbkoeinaa.ask x)) = movesOf t (Go.Proofs.Ytppkhehbkoeinaa.fewest t (Go.Proofs.Ytppkhehbkoeinaa.ask t)) := by
  rw [h.fewest]
  unfold movesOf
  have : astray x (Go.Proofs.Ytppkhehbkoeinaa.fewest t (Go.Proofs.Ytppkhehbkoeinaa.ask t)) = astray t (Go.Proofs.Ytppkhehbkoeinaa.fewest t (Go.Proofs.Ytppkhehbkoeinaa.ask t)) := by
    unfold astray
    exact sel_congr fun i _ => by rw [h.fewer.bundle i]
  rw [this]
  exact List.map_congr_left fun i _ => by rw [h.fewer.bundle]
end Go.Proofs.Ytppkhehbkoeinaa
