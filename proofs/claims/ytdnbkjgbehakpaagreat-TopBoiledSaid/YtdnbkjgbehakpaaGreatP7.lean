/- Plain law: what the program answers is what the reference answers. -/
import Derived.Test.YtdnbkjgbehakpaaGreatP1
import Derived.Test.YtdnbkjgbehakpaaGreatT22
namespace Go.Proofs.YtdnbkjgbehakpaaGreat
open Go Go.Eng Go.RowKit

theorem cntQ_pos {trs : List (List Int)} {i k : Nat} (hl : ∀ l ∈ trs, i < l.length) : 0 < cntQ trs i k ↔ ∃ l ∈ trs, l.getD i 0 = k := by
  unfold cntQ
  rw [List.countP_pos_iff]
  constructor
  · rintro ⟨l, h1, h2⟩
    simp only [decide_eq_true_eq] at h2
    exact ⟨l, h1, by have := h2.2.2; rwa [Int.toNat_natCast] at this⟩
  · rintro ⟨l, h1, h2⟩
    refine ⟨l, h1, ?_⟩
    simp only [decide_eq_true_eq, Int.toNat_natCast]
    exact ⟨by omega, by have := hl l h1; omega, h2⟩
theorem whoseIn_iff {all : List (List Int)} {p w : Nat} : whoseIn all p w = true ↔ ∃ l ∈ all, l.getD p 0 = w := by
  unfold whoseIn
  rw [ex_iff]
  constructor
  · rintro ⟨i, hi, h⟩
    refine ⟨all.getD i [], ?_, of_decide_eq_true h⟩
    rw [List.getD_eq_getElem?_getD, List.getElem?_eq_getElem hi]; exact List.getElem_mem hi
  · rintro ⟨l, hl, h⟩
    obtain ⟨i, hi, rfl⟩ := List.mem_iff_getElem.1 hl
    exact ⟨i, hi, by simp [List.getD_eq_getElem?_getD, List.getElem?_eq_getElem hi] at h ⊢; exact h⟩
theorem ask_lens {t : Table} {l : List Int} (h : l ∈ ask t) : l.length = t.pieces.length := (areOwners_iff.1 (ask_are h)).1
theorem whoP_eq {t : Table} {i : Nat} (hi : i < t.pieces.length) : whoP t i = whose t (ask t) i := by
  unfold whoP whose
  refine sel_congr fun k _ => ?_
  have hl : ∀ l ∈ ask t, i < l.length := fun l h => by rw [ask_lens h]; exact hi
  rw [Bool.eq_iff_iff, whoseIn_iff, ← cntQ_pos hl]
  exact decide_eq_true_iff
end Go.Proofs.YtdnbkjgbehakpaaGreat

/- Plain law: bounds of an answer in all truths; verdicts, looks. -/
namespace Go.Proofs.YtdnbkjgbehakpaaGreat
open Go Go.Eng Go.RowKit

theorem le_loQ {g : List Int → Int} {all : List (List Int)} {c : Int} : ∀ k, c ≤ loQ g all k ↔ c ≤ g (all.getD 0 []) ∧ ∀ i, i < k → c ≤ g (all.getD i [])
  | 0 => by simp [loQ]
  | k + 1 => by
    simp only [loQ]
    rw [Int.le_min, le_loQ k]
    constructor
    · rintro ⟨⟨h1, h2⟩, h3⟩
      refine ⟨h1, fun i hi => ?_⟩
      rcases Nat.lt_succ_iff_lt_or_eq.1 hi with h | rfl
      · exact h2 i h
      · exact h3
    · rintro ⟨h1, h2⟩
      exact ⟨⟨h1, fun i hi => h2 i (by omega)⟩, h2 k (by omega)⟩
theorem hiQ_le {g : List Int → Int} {all : List (List Int)} {c : Int} : ∀ k, hiQ g all k ≤ c ↔ g (all.getD 0 []) ≤ c ∧ ∀ i, i < k → g (all.getD i []) ≤ c
  | 0 => by simp [hiQ]
  | k + 1 => by
    simp only [hiQ]
    rw [Int.max_le, hiQ_le k]
    constructor
    · rintro ⟨⟨h1, h2⟩, h3⟩
      refine ⟨h1, fun i hi => ?_⟩
      rcases Nat.lt_succ_iff_lt_or_eq.1 hi with h | rfl
      · exact h2 i h
      · exact h3
    · rintro ⟨h1, h2⟩
      exact ⟨⟨h1, fun i hi => h2 i (by omega)⟩, h2 k (by omega)⟩
/-- The bounds, of all. -/
def loA (g : List Int → Int) (all : List (List Int)) : Int := loQ g all all.length
def hiA (g : List Int → Int) (all : List (List Int)) : Int := hiQ g all all.length
theorem le_loA {g : List Int → Int} {all : List (List Int)} {c : Int} (h0 : all ≠ []) : c ≤ loA g all ↔ ∀ l ∈ all, c ≤ g l := by
  have hp := List.length_pos_iff.2 h0
  unfold loA
  rw [le_loQ, forall_getD (d := [])]
  exact ⟨fun h => h.2, fun h => ⟨h 0 hp, h⟩⟩
theorem hiA_le {g : List Int → Int} {all : List (List Int)} {c : Int} (h0 : all ≠ []) : hiA g all ≤ c ↔ ∀ l ∈ all, g l ≤ c := by
  have hp := List.length_pos_iff.2 h0
  unfold hiA
  rw [hiQ_le, forall_getD (d := [])]
  exact ⟨fun h => h.2, fun h => ⟨h 0 hp, h⟩⟩
theorem hiA_mem {g : List Int → Int} {all : List (List Int)} (h0 : all ≠ []) : ∃ l ∈ all, g l = hiA g all := by
  have h1 : ¬ hiA g all ≤ hiA g all - 1 := by omega
  rw [hiA_le h0] at h1
  have h2 := (hiA_le (g := g) (c := hiA g all) h0).1 (Int.le_refl _)
  obtain ⟨l, h3⟩ := Classical.not_forall.1 h1
  obtain ⟨hl, h4⟩ := Classical.not_imp.1 h3
  have := h2 l hl
  exact ⟨l, hl, by omega⟩

theorem cnt_pos {n : Nat} {p : Nat → Bool} : 0 < cnt n p ↔ ∃ i, i < n ∧ p i = true := by
  unfold cnt
  rw [List.countP_pos_iff]
  simp
theorem missedN_pos {t : Table} {l : List Int} {w : Int} : 0 < missedN t l w ↔ doesMiss t l w = true := by
  unfold missedN doesMiss
  rw [cnt_pos, ex_iff]
  constructor
  · rintro ⟨j, hj, h⟩
    obtain ⟨y, hy, h1, h2⟩ := mem_sel.1 (mem_getD (xs := astray t l) hj)
    rw [h2, Int.toNat_natCast, decide_eq_true_eq] at h
    refine ⟨y, hy, ?_⟩
    simp only [Bool.not_eq_true', decide_eq_false_iff_not] at h1
    simp only [Bool.and_eq_true, decide_eq_true_eq, Bool.not_eq_true', decide_eq_false_iff_not]
    exact ⟨h, by rw [← h]; exact h1⟩
  · rintro ⟨y, hy, h⟩
    simp only [Bool.and_eq_true, decide_eq_true_eq, Bool.not_eq_true', decide_eq_false_iff_not] at h
    have hm : (y : Int) ∈ astray t l := mem_sel.2 ⟨y, hy, by simp only [Bool.not_eq_true', decide_eq_false_iff_not]; rw [h.1]; exact h.2, rfl⟩
    obtain ⟨j, hj, e⟩ := getD_of_mem hm
    exact ⟨j, hj, by rw [e, Int.toNat_natCast, decide_eq_true_eq]; exact h.1⟩
theorem missing_all {t : Table} {all : List (List Int)} {w : Int} : missing t all w = all.length ↔ ∀ l ∈ all, doesMiss t l w = true := by
  unfold missing cnt
  rw [forall_getD (d := [])]
  conv => lhs; rhs; rw [← List.length_range (n := all.length)]
  rw [List.countP_eq_length]
  simp
theorem missing_none {t : Table} {all : List (List Int)} {w : Int} : missing t all w = 0 ↔ ∀ l ∈ all, doesMiss t l w = false := by
  unfold missing cnt
  rw [forall_getD (d := []), List.countP_eq_zero]
  simp
theorem missV_eq {t : Table} (w : Nat) (h0 : ask t ≠ []) : missV t w = misses t (ask t) w := by
  unfold missV misses
  have e1 : (0 < loQ (fun l => (missedN t l w : Int)) (ask t) (ask t).length) ↔ missing t (ask t) w = (ask t).length := by
    rw [missing_all]
    have := le_loA (g := fun l => (missedN t l w : Int)) (all := ask t) (c := 1) h0
    unfold loA at this
    constructor
    · intro h l hl
      have := this.1 (by omega) l hl
      exact missedN_pos.1 (by omega)
    · intro h
      have := this.2 fun l hl => (by have := missedN_pos.2 (h l hl); omega)
      omega
  have e2 : (hiQ (fun l => (missedN t l w : Int)) (ask t) (ask t).length = 0) ↔ missing t (ask t) w = 0 := by
    rw [missing_none]
    have := hiA_le (g := fun l => (missedN t l w : Int)) (all := ask t) (c := 0) h0
    have hlo := hiA_mem (g := fun l => (missedN t l w : Int)) (all := ask t) h0
    unfold hiA at this hlo
    constructor
    · intro h l hl
      have := this.1 (by omega) l hl
      rw [Bool.eq_false_iff]
      intro hc
      have := missedN_pos.2 hc
      omega
    · intro h
      have h1 := this.2 fun l hl => (by
        have : ¬ 0 < missedN t l w := fun hc => by rw [missedN_pos, h l hl] at hc; cases hc
        omega)
      obtain ⟨l, _, h2⟩ := hlo
      omega
  by_cases h1 : missing t (ask t) w = (ask t).length
  · rw [if_pos (e1.2 h1), if_pos h1]
  · rw [if_neg (fun h => h1 (e1.1 h)), if_neg h1]
    by_cases h2 : missing t (ask t) w = 0
    · rw [if_pos (e2.2 h2), if_pos h2]
    · rw [if_neg (fun h => h2 (e2.1 h)), if_neg h2]
theorem missTo_get {t : Table} {w : Nat} (hw : w < t.women.length) : (missTo t t.women.length).getD w 0 = missV t w := by simp [missTo, List.getD_eq_getElem?_getD, hw]

end Go.Proofs.YtdnbkjgbehakpaaGreat

/- Plain law: the first wrong count, and the smallest set. -/
namespace Go.Proofs.YtdnbkjgbehakpaaGreat
open Go Go.Eng Go.RowKit

/-! ### Sets by bits -/
theorem mem_bits {k i : Nat} : (i : Int) ∈ bits k ↔ i < 64 ∧ k.testBit i = true := by
  unfold bits
  rw [mem_sel]
  constructor
  · rintro ⟨j, h1, h2, e⟩
    have : i = j := by omega
    subst this; exact ⟨h1, h2⟩
  · rintro ⟨h1, h2⟩; exact ⟨i, h1, h2, rfl⟩
/-! ### The smallest set -/
/-- Increasing, from one number on, below another one. -/
def Inc (W : Nat) : Int → List Int → Prop
  | _, [] => True
  | s, x :: d => s ≤ x ∧ x < W ∧ Inc W (x + 1) d
theorem Inc.len {W : Nat} : ∀ {s : Int} {d : List Int}, Inc W s d → d = [] ∨ s + d.length ≤ W
  | _, [], _ => .inl rfl
  | s, x :: d, ⟨h1, h2, h3⟩ => .inr (by
    rcases Inc.len h3 with rfl | h
    · simp; omega
    · simp only [List.length_cons]; omega)
theorem fsome_spec {α : Type} {f : Nat → Option α} : ∀ {n s : Nat}, match fsome f s n with
    | none => ∀ i, s ≤ i → i < s + n → f i = none
    | some x => ∃ i, s ≤ i ∧ i < s + n ∧ f i = some x ∧ ∀ j, s ≤ j → j < i → f j = none
  | 0, s => fun i h1 h2 => by omega
  | n + 1, s => by
    simp only [fsome]
    cases hf : f s with
    | some x => exact ⟨s, Nat.le_refl _, by omega, hf, fun j h1 h2 => by omega⟩
    | none =>
      have ih := fsome_spec (f := f) (n := n) (s := s + 1)
      dsimp only
      cases hr : fsome f (s + 1) n with
      | none =>
        rw [hr] at ih
        intro i h1 h2
        rcases Nat.eq_or_lt_of_le h1 with rfl | h3
        · exact hf
        · exact ih i h3 (by omega)
      | some x =>
        rw [hr] at ih
        obtain ⟨i, h1, h2, h3, h4⟩ := ih
        refine ⟨i, by omega, by omega, h3, fun j h5 h6 => ?_⟩
        rcases Nat.eq_or_lt_of_le h5 with rfl | h7
        · exact hf
        · exact h4 j h7 h6
/-- The bits of a set. -/
def maskOf (W : Nat) (d : List Int) : Nat := bset W fun i => decide ((i : Int) ∈ d)
theorem Inc.ge {W : Nat} : ∀ {s : Int} {d : List Int}, Inc W s d → ∀ x ∈ d, s ≤ x ∧ x < W
  | _, [], _, _, hx => by cases hx
  | s, y :: d, ⟨h1, h2, h3⟩, x, hx => by
    rcases List.mem_cons.1 hx with rfl | hx
    · exact ⟨h1, h2⟩
    · have := Inc.ge h3 x hx; omega
theorem Inc.pairwise {W : Nat} : ∀ {s : Int} {d : List Int}, Inc W s d → d.Pairwise (· < ·)
  | _, [], _ => .nil
  | _, _ :: _, ⟨_, _, h3⟩ => List.pairwise_cons.2 ⟨fun y hy => by have := h3.ge y hy; omega, h3.pairwise⟩
theorem inc_of {W : Nat} : ∀ {s : Int} {d : List Int}, d.Pairwise (· < ·) → (∀ x ∈ d, s ≤ x ∧ x < W) → Inc W s d
  | _, [], _, _ => trivial
  | s, x :: d, hp, h => by
    obtain ⟨h1, h2⟩ := List.pairwise_cons.1 hp
    exact ⟨(h x (.head _)).1, (h x (.head _)).2, inc_of h2 fun y hy => ⟨by have := h1 y hy; omega, (h y (.tail _ hy)).2⟩⟩
/-- Increasing lists with the same elements are the same. -/
theorem inc_ext : ∀ {a b : List Int}, a.Pairwise (· < ·) → b.Pairwise (· < ·) → (∀ x, x ∈ a ↔ x ∈ b) → a = b
  | [], [], _, _, _ => rfl
  | [], y :: b, _, _, h => absurd ((h y).2 (.head _)) (by simp)
  | x :: a, [], _, _, h => absurd ((h x).1 (.head _)) (by simp)
  | x :: a, y :: b, ha, hb, h => by
    obtain ⟨a1, a2⟩ := List.pairwise_cons.1 ha
    obtain ⟨b1, b2⟩ := List.pairwise_cons.1 hb
    have hxy : x = y := by
      rcases List.mem_cons.1 ((h x).1 (.head _)) with e | h1
      · exact e
      · rcases List.mem_cons.1 ((h y).2 (.head _)) with e | h2
        · exact e.symm
        · have := a1 y h2; have := b1 x h1; omega
    subst hxy
    rw [inc_ext a2 b2 fun z => ?_]
    constructor
    · intro hz
      rcases List.mem_cons.1 ((h z).1 (.tail _ hz)) with rfl | h1
      · have := a1 z hz; omega
      · exact h1
    · intro hz
      rcases List.mem_cons.1 ((h z).2 (.tail _ hz)) with rfl | h1
      · have := b1 z hz; omega
      · exact h1
/-- A list is the smallest set. -/
structure Small (t : Table) (r : List Int) : Prop where
  set : ∃ k, k ≤ full t ∧ bits k = r
  can : possibleB t r = true
  least : ∀ k, k ≤ full t → possibleB t (bits k) = true → shorter (bits k) r = false
theorem Small.unique {t : Table} {a b : List Int} (ha : Small t a) (hb : Small t b) : a = b := by
  refine Classical.byContradiction fun hne => ?_
  obtain ⟨i, hi, ei⟩ := ha.set
  obtain ⟨j, hj, ej⟩ := hb.set
  rcases shorter_total hne with h | h
  · have := hb.least i hi (by rw [ei]; exact ha.can)
    rw [ei, h] at this; cases this
  · have := ha.least j hj (by rw [ej]; exact hb.can)
    rw [ej, h] at this; cases this
end Go.Proofs.YtdnbkjgbehakpaaGreat
