/- Plain law: all pieces brought back; a mark that is read well. -/
import Derived.Test.YtppkhehbkoeinaaP26
import Derived.Test.YtppkhehbkoeinaaT51
namespace Go.Proofs.Ytppkhehbkoeinaa
open Go Go.Eng Go.RowKit

/-! ### All pieces brought back -/
theorem movesOf_nil {t : Table} {x : List Int} (h : movesOf t x = []) : astray t x = [] := by
  unfold movesOf at h
  exact List.map_eq_nil_iff.1 h
structure Carried (t x : Table) : Prop where
  valid : Valid x
  ask : ask x = Go.Proofs.Ytppkhehbkoeinaa.ask t
  moves : movesOf x (fewest x (Go.Proofs.Ytppkhehbkoeinaa.ask x)) = []
section
variable {t x : Table} (h : Carried t x) (h0 : Go.Proofs.Ytppkhehbkoeinaa.ask t ≠ [])
include h h0
theorem Carried.ne : Go.Proofs.Ytppkhehbkoeinaa.ask x ≠ [] := by rw [h.ask]; exact h0
omit h0 in
theorem Carried.astray : astray x (fewest x (Go.Proofs.Ytppkhehbkoeinaa.ask x)) = [] := movesOf_nil h.moves
theorem Carried.lo : loQ (aN x) (Go.Proofs.Ytppkhehbkoeinaa.ask x) (Go.Proofs.Ytppkhehbkoeinaa.ask x).length = 0 := by
  rw [← fewest_lo (h.ne h0)]
  show ((Go.Proofs.Ytppkhehbkoeinaa.astray x (fewest x (Go.Proofs.Ytppkhehbkoeinaa.ask x))).length : Int) = 0
  rw [h.astray]; rfl
theorem Carried.miss (k : Nat) : missV x k ≠ 1 := by
  have hne := h.ne h0
  rw [missV_eq k hne]
  unfold misses
  split
  · rename_i hm
    have := missing_all.1 hm _ (fewest_mem hne)
    unfold doesMiss at this
    obtain ⟨i, hi, e⟩ := ex_iff.1 this
    simp only [Bool.and_eq_true, decide_eq_true_eq, Bool.not_eq_true', decide_eq_false_iff_not] at e
    have hin : (i : Int) ∈ Go.Proofs.Ytppkhehbkoeinaa.astray x (fewest x (Go.Proofs.Ytppkhehbkoeinaa.ask x)) := mem_sel.2 ⟨i, hi, by rw [e.1]; simpa using e.2, rfl⟩
    rw [h.astray] at hin; cases hin
  · split
    · simp
    · simp
omit h0 in
end
/-! ### A mark that is read well -/
def readT (t : Table) (k : Nat) : Table := ⟨t.women, setM t.pieces k [(t.women.getD ((fewest t (ask t)).getD k 0).toNat default).mark], t.wrong⟩
structure Read (t x : Table) : Prop where
  fewer : Fewer t x
  valid : Valid x
  ask : ask x ≠ []
  fewest : fewest x (Go.Proofs.Ytppkhehbkoeinaa.ask x) = Go.Proofs.Ytppkhehbkoeinaa.fewest t (Go.Proofs.Ytppkhehbkoeinaa.ask t)
theorem tails_in {t : Table} : ∀ {r : Nat} {l : List Int}, r ≤ t.pieces.length → l.length = r → (∀ i, i < r → l.getD i 0 ∈ womenOf t (t.pieces.length - r + i)) → l ∈ tails t r
  | 0, l, _, h, _ => by
    rw [List.length_eq_zero_iff.1 h]; exact .head _
  | r + 1, [], _, h, _ => by cases h
  | r + 1, a :: l, hr, h, hm => by
    refine List.mem_flatMap.2 ⟨a, by have := hm 0 (by omega); simpa using this, List.mem_map.2 ⟨l, tails_in (by omega) (by simpa using h) (fun i hi => ?_), rfl⟩⟩
    have := hm (i + 1) (by omega)
    rw [List.getD_cons_succ] at this
    rwa [show t.pieces.length - (r + 1) + (i + 1) = t.pieces.length - r + i by omega] at this
theorem in_owners {t : Table} {l : List Int} (h : areOwners t l = true) : l ∈ allOwners t := by
  obtain ⟨h1, h2⟩ := areOwners_iff.1 h
  exact tails_in (Nat.le_refl _) h1 fun i hi => by rw [Nat.sub_self, Nat.zero_add]; exact h2 i (by omega)
theorem read_read {t : Table} (hV : Valid t) (h0 : ask t ≠ []) {k : Nat} (hk : k < t.pieces.length) : Read t (readT t k) := by
  have hF := fewest_mem h0
  have hown := areOwners_iff.1 (ask_are hF)
  have hFl : (fewest t (ask t)).length = t.pieces.length := hown.1
  obtain ⟨w, hw, hmk, ew⟩ := mem_sel.1 (hown.2 k (by omega))
  have hmk := of_decide_eq_true hmk
  have ew' : ((fewest t (ask t)).getD k 0).toNat = w := by omega
  have hfw : Fewer t (readT t k) := setM_fewer hk (by intro y hy; rw [List.mem_singleton.1 hy, ew']; exact hmk)
  have hpos : 0 < t.pieces.length := by omega
  have hwom : ∀ i, i < t.pieces.length → (fewest t (ask t)).getD i 0 ∈ womenOf (readT t k) i := fun i hi => by
    obtain ⟨j, hj, hm, ej⟩ := mem_sel.1 (hown.2 i (by omega))
    refine mem_sel.2 ⟨j, hj, ?_, ej⟩
    show decide ((t.women.getD j default).mark ∈ ((setM t.pieces k _).getD i default).marks) = true
    rw [setM_get]
    split
    · rename_i h
      refine decide_eq_true ?_
      have : j = ((fewest t (ask t)).getD k 0).toNat := by rw [← h.1, ej]; simp
      rw [this]; exact .head _
    · exact hm
  have hx : fewest t (ask t) ∈ ask (readT t k) := by
    refine List.mem_filter.2 ⟨in_owners (areOwners_iff.2 ⟨by rw [hfw.pieces]; exact hFl, fun i hi => hwom i (by omega)⟩), ?_⟩
    rw [hfw.truth]
    exact (List.mem_filter.1 hF).2
  have hne : ask (readT t k) ≠ [] := List.ne_nil_of_mem hx
  have hmany : many (readT t k) ≤ many t := by
    have key : ∀ n, n ≤ t.pieces.length → manyTo (readT t k) n ≤ manyTo t n := fun n => by
      induction n with
      | zero => intro _; exact Int.le_refl _
      | succ n ih =>
        intro hn
        have h1 := ih (by omega)
        have h2 := manyTo_pos (readT t k) n
        have h3 : (womenOf (readT t k) n).length ≤ (womenOf t n).length := by
          unfold womenOf
          refine Nat.le_trans (Nat.le_of_eq (sel_length _ _)) (Nat.le_trans ?_ (Nat.le_of_eq (sel_length _ _).symm))
          refine List.countP_mono_left fun j hj hp => ?_
          have := hfw.sub n (j : Int) (mem_sel.2 ⟨j, List.mem_range.1 hj, hp, rfl⟩)
          obtain ⟨i, _, h5, e⟩ := mem_sel.1 this
          have : i = j := by omega
          subst this; exact h5
        rw [manyTo_succ, manyTo_succ]
        have h4 : manyTo (readT t k) n * ((womenOf (readT t k) n).length : Int) ≤ manyTo t n * ((womenOf t n).length : Int) := Int.mul_le_mul h1 (by omega) (by omega) (by have := manyTo_pos t n; omega)
        omega
    have := key t.pieces.length (Nat.le_refl _)
    unfold many
    rw [hfw.pieces]; exact this
  have hVx : Valid (readT t k) := by
    refine ⟨hV.women, by rw [hfw.pieces]; exact hV.pieces, hV.wrong, hV.woman, fun i hi => ?_, by have := hV.many; omega⟩
    rw [hfw.pieces] at hi
    have h1 := hV.piece i hi
    have hwi := hwom i hi
    unfold pieceBad at h1 ⊢
    show (_ || !decide (0 ≤ ((setM t.pieces k _).getD i default).bundle ∧ ((setM t.pieces k _).getD i default).bundle ≤ (t.women.length : Int) - 1) || _) = false
    have hbu : ((setM t.pieces k [(t.women.getD ((fewest t (ask t)).getD k 0).toNat default).mark]).getD i default).bundle = (t.pieces.getD i default).bundle := hfw.bundle i
    rw [hbu]
    simp only [Bool.or_eq_false_iff] at h1 ⊢
    refine ⟨⟨?_, h1.1.2⟩, ?_⟩
    · have hms : ((readT t k).pieces.getD i default).marks = if i = k then [(t.women.getD ((fewest t (ask t)).getD k 0).toNat default).mark] else (t.pieces.getD i default).marks := by
        show ((setM t.pieces k _).getD i default).marks = _
        rw [setM_get]
        by_cases e : i = k
        · rw [if_pos ⟨e, hk⟩, if_pos e]
        · rw [if_neg (fun h => e h.1), if_neg e]
      rw [hms]
      split
      · rename_i e
        subst e
        rw [ew']
        have hwd := hV.woman w hw
        unfold womanBad at hwd
        simp only [Bool.or_eq_false_iff, Bool.not_eq_false', decide_eq_true_eq] at hwd
        rw [ex_no]
        intro j hj
        have : j = 0 := by simpa using hj
        subst this
        unfold markBad
        simp only [List.getD_cons_zero, Nat.lt_irrefl, decide_false, Bool.false_and, Bool.or_false, Bool.not_eq_false', decide_eq_true_eq]
        exact hwd.1.1.1
      · exact h1.1.1
    · refine decide_eq_false fun h => ?_
      have : (womenOf (readT t k) i).length = 0 := by simpa using h
      have := List.length_eq_zero_iff.1 this
      rw [this] at hwi; cases hwi
  refine ⟨hfw, hVx, hne, ?_⟩
  have hG := fewest_mem hne
  have hGt := hfw.ask hG
  have le1 : aN t (fewest t (ask t)) ≤ aN t (fewest (readT t k) (ask (readT t k))) := by
    rw [fewest_lo h0]
    exact (le_loA (g := aN t) (c := loQ (aN t) (ask t) (ask t).length) h0).1 (Int.le_refl _) _ hGt
  have le2 : aN (readT t k) (fewest (readT t k) (ask (readT t k))) ≤ aN (readT t k) (fewest t (ask t)) := by
    rw [fewest_lo hne]
    exact (le_loA (g := aN (readT t k)) (c := loQ (aN (readT t k)) (ask (readT t k)) (ask (readT t k)).length) hne).1 (Int.le_refl _) _ hx
  have le2' := le2
  rw [hfw.aN, hfw.aN] at le2'
  have b1 := fewest_first h0 hGt (Int.le_antisymm le2' le1)
  have b2 := fewest_first hne hx (by rw [hfw.aN, hfw.aN]; exact Int.le_antisymm le1 le2')
  refine Classical.byContradiction fun hne2 => ?_
  rcases before_total hne2 with h | h
  · rw [h] at b1; cases b1
  · rw [h] at b2; cases b2
theorem Read.moves {t x : Table} (h : Read t x) : movesOf x (Go.Proofs.Ytppkhehbkoeinaa.fewest x (Go.Proofs.Ytppkhehbkoeinaa.ask x)) = movesOf t (Go.Proofs.Ytppkhehbkoeinaa.fewest t (Go.Proofs.Ytppkhehbkoeinaa.ask t)) := by
  rw [h.fewest]
  unfold movesOf
  have : astray x (Go.Proofs.Ytppkhehbkoeinaa.fewest t (Go.Proofs.Ytppkhehbkoeinaa.ask t)) = astray t (Go.Proofs.Ytppkhehbkoeinaa.fewest t (Go.Proofs.Ytppkhehbkoeinaa.ask t)) := by
    unfold astray
    exact sel_congr fun i _ => by rw [h.fewer.bundle i]
  rw [this]
  exact List.map_congr_left fun i _ => by rw [h.fewer.bundle]
end Go.Proofs.Ytppkhehbkoeinaa
