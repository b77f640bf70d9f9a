/- Plain law: bounds of an answer in all truths; verdicts, looks. -/
import Derived.Test.YtppkhehbkoeinaaP7
namespace Go.Proofs.Ytppkhehbkoeinaa
open Go Go.Eng Go.RowKit

theorem le_loQ {g : List Int → Int} {all : List (List Int)} {c : Int} : ∀ k, c ≤ loQ g all k ↔ c ≤ g (all.getD 0 []) ∧ ∀ i, i < k → c ≤ g (all.getD i [])
  | 0 => by simp [loQ]
  | k + 1 => by
    simp only [loQ]
    rw [Int.le_min, le_loQ k]
    constructor
    · rintro ⟨⟨h1, h2⟩, h3⟩
      refine ⟨h1, fun i hi => ?_⟩
      rcases Nat.lt_succ_iff_lt_or_eq.1 hi with h | rfl
      · exact h2 i h
      · exact h3
    · rintro ⟨h1, h2⟩
      exact ⟨⟨h1, fun i hi => h2 i (by omega)⟩, h2 k (by omega)⟩
theorem hiQ_le {g : List Int → Int} {all : List (List Int)} {c : Int} : ∀ k, hiQ g all k ≤ c ↔ g (all.getD 0 []) ≤ c ∧ ∀ i, i < k → g (all.getD i []) ≤ c
  | 0 => by simp [hiQ]
  | k + 1 => by
    simp only [hiQ]
    rw [Int.max_le, hiQ_le k]
    constructor
    · rintro ⟨⟨h1, h2⟩, h3⟩
      refine ⟨h1, fun i hi => ?_⟩
      rcases Nat.lt_succ_iff_lt_or_eq.1 hi with h | rfl
      · exact h2 i h
      · exact h3
    · rintro ⟨h1, h2⟩
      exact ⟨⟨h1, fun i hi => h2 i (by omega)⟩, h2 k (by omega)⟩
/-- The bounds, of all. -/
def loA (g : List Int → Int) (all : List (List Int)) : Int := loQ g all all.length
def hiA (g : List Int → Int) (all : List (List Int)) : Int := hiQ g all all.length
theorem le_loA {g : List Int → Int} {all : List (List Int)} {c : Int} (h0 : all ≠ []) : c ≤ loA g all ↔ ∀ l ∈ all, c ≤ g l := by
  have hp := List.length_pos_iff.2 h0
  unfold loA
  rw [le_loQ, forall_getD (d := [])]
  exact ⟨fun h => h.2, fun h => ⟨h 0 hp, h⟩⟩
theorem hiA_le {g : List Int → Int} {all : List (List Int)} {c : Int} (h0 : all ≠ []) : hiA g all ≤ c ↔ ∀ l ∈ all, g l ≤ c := by
  have hp := List.length_pos_iff.2 h0
  unfold hiA
  rw [hiQ_le, forall_getD (d := [])]
  exact ⟨fun h => h.2, fun h => ⟨h 0 hp, h⟩⟩
theorem loA_mem {g : List Int → Int} {all : List (List Int)} (h0 : all ≠ []) : ∃ l ∈ all, g l = loA g all := by
  have h1 : ¬ loA g all + 1 ≤ loA g all := by omega
  rw [le_loA h0] at h1
  have h2 := (le_loA (g := g) (c := loA g all) h0).1 (Int.le_refl _)
  obtain ⟨l, h3⟩ := Classical.not_forall.1 h1
  obtain ⟨hl, h4⟩ := Classical.not_imp.1 h3
  have := h2 l hl
  exact ⟨l, hl, by omega⟩
theorem hiA_mem {g : List Int → Int} {all : List (List Int)} (h0 : all ≠ []) : ∃ l ∈ all, g l = hiA g all := by
  have h1 : ¬ hiA g all ≤ hiA g all - 1 := by omega
  rw [hiA_le h0] at h1
  have h2 := (hiA_le (g := g) (c := hiA g all) h0).1 (Int.le_refl _)
  obtain ⟨l, h3⟩ := Classical.not_forall.1 h1
  obtain ⟨hl, h4⟩ := Classical.not_imp.1 h3
  have := h2 l hl
  exact ⟨l, hl, by omega⟩

theorem cnt_pos {n : Nat} {p : Nat → Bool} : 0 < cnt n p ↔ ∃ i, i < n ∧ p i = true := by
  unfold cnt
  rw [List.countP_pos_iff]
  simp
theorem missedN_pos {t : Table} {l : List Int} {w : Int} : 0 < missedN t l w ↔ doesMiss t l w = true := by
  unfold missedN doesMiss
  rw [cnt_pos, ex_iff]
  constructor
  · rintro ⟨j, hj, h⟩
    obtain ⟨y, hy, h1, h2⟩ := mem_sel.1 (mem_getD (xs := astray t l) hj)
    rw [h2, Int.toNat_natCast, decide_eq_true_eq] at h
    refine ⟨y, hy, ?_⟩
    simp only [Bool.not_eq_true', decide_eq_false_iff_not] at h1
    simp only [Bool.and_eq_true, decide_eq_true_eq, Bool.not_eq_true', decide_eq_false_iff_not]
    exact ⟨h, by rw [← h]; exact h1⟩
  · rintro ⟨y, hy, h⟩
    simp only [Bool.and_eq_true, decide_eq_true_eq, Bool.not_eq_true', decide_eq_false_iff_not] at h
    have hm : (y : Int) ∈ astray t l := mem_sel.2 ⟨y, hy, by simp only [Bool.not_eq_true', decide_eq_false_iff_not]; rw [h.1]; exact h.2, rfl⟩
    obtain ⟨j, hj, e⟩ := getD_of_mem hm
    exact ⟨j, hj, by rw [e, Int.toNat_natCast, decide_eq_true_eq]; exact h.1⟩
theorem missing_all {t : Table} {all : List (List Int)} {w : Int} : missing t all w = all.length ↔ ∀ l ∈ all, doesMiss t l w = true := by
  unfold missing cnt
  rw [forall_getD (d := [])]
  conv => lhs; rhs; rw [← List.length_range (n := all.length)]
  rw [List.countP_eq_length]
  simp
theorem missing_none {t : Table} {all : List (List Int)} {w : Int} : missing t all w = 0 ↔ ∀ l ∈ all, doesMiss t l w = false := by
  unfold missing cnt
  rw [forall_getD (d := []), List.countP_eq_zero]
  simp
theorem missV_eq {t : Table} (w : Nat) (h0 : ask t ≠ []) : missV t w = misses t (ask t) w := by
  unfold missV misses
  have e1 : (0 < loQ (fun l => (missedN t l w : Int)) (ask t) (ask t).length) ↔ missing t (ask t) w = (ask t).length := by
    rw [missing_all]
    have := le_loA (g := fun l => (missedN t l w : Int)) (all := ask t) (c := 1) h0
    unfold loA at this
    constructor
    · intro h l hl
      have := this.1 (by omega) l hl
      exact missedN_pos.1 (by omega)
    · intro h
      have := this.2 fun l hl => (by have := missedN_pos.2 (h l hl); omega)
      omega
  have e2 : (hiQ (fun l => (missedN t l w : Int)) (ask t) (ask t).length = 0) ↔ missing t (ask t) w = 0 := by
    rw [missing_none]
    have := hiA_le (g := fun l => (missedN t l w : Int)) (all := ask t) (c := 0) h0
    have hlo := hiA_mem (g := fun l => (missedN t l w : Int)) (all := ask t) h0
    unfold hiA at this hlo
    constructor
    · intro h l hl
      have := this.1 (by omega) l hl
      rw [Bool.eq_false_iff]
      intro hc
      have := missedN_pos.2 hc
      omega
    · intro h
      have h1 := this.2 fun l hl => (by
        have : ¬ 0 < missedN t l w := fun hc => by rw [missedN_pos, h l hl] at hc; cases hc
        omega)
      obtain ⟨l, _, h2⟩ := hlo
      omega
  by_cases h1 : missing t (ask t) w = (ask t).length
  · rw [if_pos (e1.2 h1), if_pos h1]
  · rw [if_neg (fun h => h1 (e1.1 h)), if_neg h1]
    by_cases h2 : missing t (ask t) w = 0
    · rw [if_pos (e2.2 h2), if_pos h2]
    · rw [if_neg (fun h => h2 (e2.1 h)), if_neg h2]
theorem missTo_get {t : Table} {w : Nat} (hw : w < t.women.length) : (missTo t t.women.length).getD w 0 = missV t w := by simp [missTo, List.getD_eq_getElem?_getD, hw]

end Go.Proofs.Ytppkhehbkoeinaa
