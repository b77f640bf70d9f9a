/- Plain law: the first wrong count, and the smallest set. -/
import Derived.Test.YtdnbkjgbehakpaaGreatP8
import Derived.Test.YtdnbkjgbehakpaaGreatT22
namespace Go.Proofs.YtdnbkjgbehakpaaGreat
open Go Go.Eng Go.RowKit

/-! ### Sets by bits -/
theorem can_iff {ns : List Nat} {w : Nat} : can ns w = true ↔ ∃ n ∈ ns, n &&& w = w := by
  unfold can
  rw [ex_iff]
  constructor
  · rintro ⟨i, hi, h⟩
    refine ⟨ns.getD i 0, ?_, of_decide_eq_true h⟩
    rw [List.getD_eq_getElem?_getD, List.getElem?_eq_getElem hi]; exact List.getElem_mem hi
  · rintro ⟨n, hn, h⟩
    obtain ⟨i, hi, rfl⟩ := List.mem_iff_getElem.1 hn
    exact ⟨i, hi, by rw [List.getD_eq_getElem?_getD, List.getElem?_eq_getElem hi]; exact decide_eq_true h⟩
theorem and_eq_iff {x w : Nat} : x &&& w = w ↔ ∀ i, w.testBit i = true → x.testBit i = true := by
  constructor
  · intro h i hi
    have := congrArg (fun n => Nat.testBit n i) h
    simp only [Nat.testBit_and, hi, Bool.and_true] at this
    exact this
  · intro h
    apply Nat.eq_of_testBit_eq
    intro i
    rw [Nat.testBit_and]
    cases hw : w.testBit i with
    | false => simp
    | true => simp [h i hw]
theorem mem_bits {k i : Nat} : (i : Int) ∈ bits k ↔ i < 64 ∧ k.testBit i = true := by
  unfold bits
  rw [mem_sel]
  constructor
  · rintro ⟨j, h1, h2, e⟩
    have : i = j := by omega
    subst this; exact ⟨h1, h2⟩
  · rintro ⟨h1, h2⟩; exact ⟨i, h1, h2, rfl⟩
/-! ### The smallest set -/
/-- Increasing, from one number on, below another one. -/
def Inc (W : Nat) : Int → List Int → Prop
  | _, [] => True
  | s, x :: d => s ≤ x ∧ x < W ∧ Inc W (x + 1) d
theorem Inc.len {W : Nat} : ∀ {s : Int} {d : List Int}, Inc W s d → d = [] ∨ s + d.length ≤ W
  | _, [], _ => .inl rfl
  | s, x :: d, ⟨h1, h2, h3⟩ => .inr (by
    rcases Inc.len h3 with rfl | h
    · simp; omega
    · simp only [List.length_cons]; omega)
theorem fsome_spec {α : Type} {f : Nat → Option α} : ∀ {n s : Nat}, match fsome f s n with
    | none => ∀ i, s ≤ i → i < s + n → f i = none
    | some x => ∃ i, s ≤ i ∧ i < s + n ∧ f i = some x ∧ ∀ j, s ≤ j → j < i → f j = none
  | 0, s => fun i h1 h2 => by omega
  | n + 1, s => by
    simp only [fsome]
    cases hf : f s with
    | some x => exact ⟨s, Nat.le_refl _, by omega, hf, fun j h1 h2 => by omega⟩
    | none =>
      have ih := fsome_spec (f := f) (n := n) (s := s + 1)
      dsimp only
      cases hr : fsome f (s + 1) n with
      | none =>
        rw [hr] at ih
        intro i h1 h2
        rcases Nat.eq_or_lt_of_le h1 with rfl | h3
        · exact hf
        · exact ih i h3 (by omega)
      | some x =>
        rw [hr] at ih
        obtain ⟨i, h1, h2, h3, h4⟩ := ih
        refine ⟨i, by omega, by omega, h3, fun j h5 h6 => ?_⟩
        rcases Nat.eq_or_lt_of_le h5 with rfl | h7
        · exact hf
        · exact h4 j h7 h6
/-- The bits of a set. -/
def maskOf (W : Nat) (d : List Int) : Nat := bset W fun i => decide ((i : Int) ∈ d)
theorem Inc.ge {W : Nat} : ∀ {s : Int} {d : List Int}, Inc W s d → ∀ x ∈ d, s ≤ x ∧ x < W
  | _, [], _, _, hx => by cases hx
  | s, y :: d, ⟨h1, h2, h3⟩, x, hx => by
    rcases List.mem_cons.1 hx with rfl | hx
    · exact ⟨h1, h2⟩
    · have := Inc.ge h3 x hx; omega
theorem Inc.pairwise {W : Nat} : ∀ {s : Int} {d : List Int}, Inc W s d → d.Pairwise (· < ·)
  | _, [], _ => .nil
  | _, _ :: _, ⟨_, _, h3⟩ => List.pairwise_cons.2 ⟨fun y hy => by have := h3.ge y hy; omega, h3.pairwise⟩
theorem inc_of {W : Nat} : ∀ {s : Int} {d : List Int}, d.Pairwise (· < ·) → (∀ x ∈ d, s ≤ x ∧ x < W) → Inc W s d
  | _, [], _, _ => trivial
  | s, x :: d, hp, h => by
    obtain ⟨h1, h2⟩ := List.pairwise_cons.1 hp
    exact ⟨(h x (.head _)).1, (h x (.head _)).2, inc_of h2 fun y hy => ⟨by have := h1 y hy; omega, (h y (.tail _ hy)).2⟩⟩
/-- Increasing lists with the same elements are the same. -/
theorem inc_ext : ∀ {a b : List Int}, a.Pairwise (· < ·) → b.Pairwise (· < ·) → (∀ x, x ∈ a ↔ x ∈ b) → a = b
  | [], [], _, _, _ => rfl
  | [], y :: b, _, _, h => absurd ((h y).2 (.head _)) (by simp)
  | x :: a, [], _, _, h => absurd ((h x).1 (.head _)) (by simp)
  | x :: a, y :: b, ha, hb, h => by
    obtain ⟨a1, a2⟩ := List.pairwise_cons.1 ha
    obtain ⟨b1, b2⟩ := List.pairwise_cons.1 hb
    have hxy : x = y := by
      rcases List.mem_cons.1 ((h x).1 (.head _)) with e | h1
      · exact e
      · rcases List.mem_cons.1 ((h y).2 (.head _)) with e | h2
        · exact e.symm
        · have := a1 y h2; have := b1 x h1; omega
    subst hxy
    rw [inc_ext a2 b2 fun z => ?_]
    constructor
    · intro hz
      rcases List.mem_cons.1 ((h z).1 (.tail _ hz)) with rfl | h1
      · have := a1 z hz; omega
      · exact h1
    · intro hz
      rcases List.mem_cons.1 ((h z).2 (.tail _ hz)) with rfl | h1
      · have := b1 z hz; omega
      · exact h1
/-- A list is the smallest set. -/
structure Small (t : Table) (r : List Int) : Prop where
  set : ∃ k, k ≤ full t ∧ bits k = r
  can : possibleB t r = true
  least : ∀ k, k ≤ full t → possibleB t (bits k) = true → shorter (bits k) r = false
theorem Small.unique {t : Table} {a b : List Int} (ha : Small t a) (hb : Small t b) : a = b := by
  refine Classical.byContradiction fun hne => ?_
  obtain ⟨i, hi, ei⟩ := ha.set
  obtain ⟨j, hj, ej⟩ := hb.set
  rcases shorter_total hne with h | h
  · have := hb.least i hi (by rw [ei]; exact ha.can)
    rw [ei, h] at this; cases this
  · have := ha.least j hj (by rw [ej]; exact hb.can)
    rw [ej, h] at this; cases this
end Go.Proofs.YtdnbkjgbehakpaaGreat
