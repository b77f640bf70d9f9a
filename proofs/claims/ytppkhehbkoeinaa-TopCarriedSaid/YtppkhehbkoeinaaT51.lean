/- Marks that can be read in fewer ways: the plain law. -/
import Derived.Test.YtppkhehbkoeinaaT42
import Derived.Test.YtppkhehbkoeinaaT43
namespace Go.Proofs.Ytppkhehbkoeinaa
open Go Go.Eng Go.RowKit

structure Fewer (t x : Table) : Prop where
  women : x.women = t.women
  wrong : x.wrong = t.wrong
  pieces : x.pieces.length = t.pieces.length
  bundle : ∀ i, (x.pieces.getD i default).bundle = (t.pieces.getD i default).bundle
  sub : ∀ i w, w ∈ womenOf x i → w ∈ womenOf t i
theorem Fewer.tails {t x : Table} (h : Fewer t x) : ∀ r l, l ∈ tails x r → l ∈ tails t r
  | 0, _, hl => hl
  | r + 1, l, hl => by
    obtain ⟨w, hw, h2⟩ := List.mem_flatMap.1 hl
    obtain ⟨l', h3, rfl⟩ := List.mem_map.1 h2
    rw [h.pieces] at hw
    exact List.mem_flatMap.2 ⟨w, h.sub _ _ hw, List.mem_map.2 ⟨l', h.tails r l' h3, rfl⟩⟩
theorem Fewer.truth {t x : Table} (h : Fewer t x) (l : List Int) : isTruthP x l = isTruthP t l := by
  unfold isTruthP wrongP rightP
  rw [h.women, h.wrong]
theorem Fewer.ask {t x : Table} (h : Fewer t x) {l : List Int} (hl : l ∈ ask x) : l ∈ Go.Proofs.Ytppkhehbkoeinaa.ask t := by
  obtain ⟨h1, h2⟩ := List.mem_filter.1 hl
  unfold allOwners at h1
  rw [h.pieces] at h1
  exact List.mem_filter.2 ⟨h.tails _ _ h1, by rw [← h.truth]; exact h2⟩
theorem Fewer.ne {t x : Table} (h : Fewer t x) (h0 : Go.Proofs.Ytppkhehbkoeinaa.ask x ≠ []) : Go.Proofs.Ytppkhehbkoeinaa.ask t ≠ [] := by
  obtain ⟨l, hl⟩ := List.exists_mem_of_ne_nil _ h0
  exact fun e => by have := h.ask hl; rw [e] at this; cases this
theorem Fewer.who {t x : Table} (h : Fewer t x) : subsB (whoTo x x.pieces.length) (whoTo t t.pieces.length) = true := by
  unfold subsB
  refine decide_eq_true ⟨by rw [whoTo_len, whoTo_len, h.pieces], fun i hi => ?_⟩
  rw [whoTo_len] at hi
  have hi' : i < t.pieces.length := by rw [← h.pieces]; exact hi
  rw [whoTo_get hi, whoTo_get hi']
  refine decide_eq_true fun y hy => ?_
  rw [whoP_eq hi] at hy
  rw [whoP_eq hi']
  obtain ⟨w, h1, h2, rfl⟩ := mem_sel.1 hy
  obtain ⟨l, hl, e⟩ := whoseIn_iff.1 h2
  exact mem_sel.2 ⟨w, by rw [← h.women]; exact h1, whoseIn_iff.2 ⟨l, h.ask hl, e⟩, rfl⟩
theorem Fewer.aN {t x : Table} (h : Fewer t x) (l : List Int) : aN x l = Go.Proofs.Ytppkhehbkoeinaa.aN t l := by
  unfold Go.Proofs.Ytppkhehbkoeinaa.aN astray
  rw [sel_congr fun i _ => by rw [h.bundle i]]
theorem Fewer.lo {t x : Table} (h : Fewer t x) (h0 : Go.Proofs.Ytppkhehbkoeinaa.ask x ≠ []) : loQ (Go.Proofs.Ytppkhehbkoeinaa.aN t) (Go.Proofs.Ytppkhehbkoeinaa.ask t) (Go.Proofs.Ytppkhehbkoeinaa.ask t).length ≤ loQ (Go.Proofs.Ytppkhehbkoeinaa.aN x) (Go.Proofs.Ytppkhehbkoeinaa.ask x) (Go.Proofs.Ytppkhehbkoeinaa.ask x).length := by
  refine (le_loA (g := Go.Proofs.Ytppkhehbkoeinaa.aN x) h0).2 fun l hl => ?_
  rw [h.aN]
  exact (le_loA (g := Go.Proofs.Ytppkhehbkoeinaa.aN t) (c := loQ (Go.Proofs.Ytppkhehbkoeinaa.aN t) (Go.Proofs.Ytppkhehbkoeinaa.ask t) (Go.Proofs.Ytppkhehbkoeinaa.ask t).length) (h.ne h0)).1 (Int.le_refl _) l (h.ask hl)
theorem Fewer.hi {t x : Table} (h : Fewer t x) (h0 : Go.Proofs.Ytppkhehbkoeinaa.ask x ≠ []) : hiQ (Go.Proofs.Ytppkhehbkoeinaa.aN x) (Go.Proofs.Ytppkhehbkoeinaa.ask x) (Go.Proofs.Ytppkhehbkoeinaa.ask x).length ≤ hiQ (Go.Proofs.Ytppkhehbkoeinaa.aN t) (Go.Proofs.Ytppkhehbkoeinaa.ask t) (Go.Proofs.Ytppkhehbkoeinaa.ask t).length := by
  refine (hiA_le (g := Go.Proofs.Ytppkhehbkoeinaa.aN x) h0).2 fun l hl => ?_
  rw [h.aN]
  exact (hiA_le (g := Go.Proofs.Ytppkhehbkoeinaa.aN t) (c := hiQ (Go.Proofs.Ytppkhehbkoeinaa.aN t) (Go.Proofs.Ytppkhehbkoeinaa.ask t) (Go.Proofs.Ytppkhehbkoeinaa.ask t).length) (h.ne h0)).1 (Int.le_refl _) l (h.ask hl)
theorem Fewer.miss {t x : Table} (h : Fewer t x) (l : List Int) (w : Int) : doesMiss x l w = doesMiss t l w := by
  unfold doesMiss
  simp only [h.bundle]
theorem Fewer.kept {t x : Table} (h : Fewer t x) (h0 : Go.Proofs.Ytppkhehbkoeinaa.ask x ≠ []) : keptB (missTo t t.women.length) (missTo x x.women.length) = true := by
  have hl1 : (missTo t t.women.length).length = t.women.length := by simp [missTo]
  have hl2 : (missTo x x.women.length).length = t.women.length := by simp [missTo, h.women]
  unfold keptB
  refine decide_eq_true ⟨fun i hi _ => ?_, by rw [hl1, hl2]⟩
  rw [hl1] at hi
  rw [missTo_get hi, missTo_get (by rw [h.women]; exact hi), missV_eq i h0, missV_eq i (h.ne h0)]
  unfold misses
  have hpos : 0 < (Go.Proofs.Ytppkhehbkoeinaa.ask x).length := List.length_pos_iff.2 h0
  by_cases h1 : missing t (Go.Proofs.Ytppkhehbkoeinaa.ask t) i = (Go.Proofs.Ytppkhehbkoeinaa.ask t).length
  · have h2 : missing x (Go.Proofs.Ytppkhehbkoeinaa.ask x) i = (Go.Proofs.Ytppkhehbkoeinaa.ask x).length := missing_all.2 fun l hl => by rw [h.miss]; exact missing_all.1 h1 l (h.ask hl)
    rw [if_pos h1, if_pos h2]; exact .inr rfl
  · by_cases h3 : missing t (Go.Proofs.Ytppkhehbkoeinaa.ask t) i = 0
    · have h2 : missing x (Go.Proofs.Ytppkhehbkoeinaa.ask x) i = 0 := missing_none.2 fun l hl => by rw [h.miss]; exact missing_none.1 h3 l (h.ask hl)
      rw [if_neg h1, if_pos h3, if_neg (by omega), if_pos h2]; exact .inr rfl
    · rw [if_neg h1, if_neg h3]; exact .inl rfl
end Go.Proofs.Ytppkhehbkoeinaa
