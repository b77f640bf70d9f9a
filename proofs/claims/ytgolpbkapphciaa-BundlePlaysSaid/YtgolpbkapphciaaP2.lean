/- Plain law: what the program computes. -/
import Derived.Test.YtgolpbkapphciaaP1
namespace Go.Proofs.Ytgolpbkapphciaa
open Go Go.Eng Go.RowKit

/-! ### The program -/
def ofMarks (t : Table) (ms : List Int) : List Int := sel t.women.length fun w => decide ((t.women.getD w default).mark ∈ ms)
def pieceBadP (t : Table) (p : Piece) : Bool :=
  ex p.marks.length (markBad p.marks) || !decide (0 ≤ p.bundle ∧ p.bundle ≤ (t.women.length : Int) - 1) || decide ((ofMarks t p.marks).length = 0)
def minTo (xs : List Int) : Nat → Int
  | 0 => xs.getD 0 0
  | k + 1 => min (minTo xs k) (xs.getD (k + 1) 0)
/-- The owners in an array of seven places. -/
def pad (l : List Int) : List Int := l ++ List.replicate (7 - l.length) 0
theorem pad_len {l : List Int} (h : l.length ≤ 7) : (pad l).length = 7 := by simp [pad]; omega
theorem pad_get {l : List Int} {i : Nat} (h : i < l.length) : (pad l).getD i 0 = l.getD i 0 := by
  simp [pad, List.getD_eq_getElem?_getD, List.getElem?_append_left h]
/-- Owners, as the program may have them. -/
structure Owns (t : Table) (l : List Int) : Prop where
  len : l.length = t.pieces.length
  seven : t.pieces.length ≤ 7
  woman : ∀ i, i < l.length → 0 ≤ l.getD i 0 ∧ l.getD i 0 < t.women.length
def ownList (t : Table) (l : List Int) : List Int := (List.range t.women.length).map fun w : Nat => ((own l w : Nat) : Int)
def wrongP (t : Table) (l : List Int) : List Int := sel t.women.length fun w => !rightP t l w
theorem areOwners_iff {t : Table} {l : List Int} : areOwners t l = true ↔ l.length = t.pieces.length ∧ ∀ i, i < l.length → l.getD i 0 ∈ womenOf t i := by simp [areOwners]
theorem owns_of {t : Table} {l : List Int} (h : areOwners t l = true) (h7 : t.pieces.length ≤ 7) : Owns t l := by
  obtain ⟨h1, h2⟩ := areOwners_iff.1 h
  refine ⟨h1, h7, fun i hi => ?_⟩
  obtain ⟨w, hw, _, e⟩ := mem_sel.1 (h2 i hi)
  omega
def manyP (t : Table) (k : Nat) : Int := min 2001 (manyTo t k)
theorem manyP_succ (t : Table) (k : Nat) : manyP t (k + 1) = min (manyP t k * (womenOf t k).length) 2001 := by
  have h := manyTo_pos t k
  unfold manyP
  rw [manyTo_succ]
  generalize hb : ((womenOf t k).length : Int) = b
  have hb0 : 0 ≤ b := by omega
  generalize manyTo t k = a at *
  rcases Int.le_total a 2001 with h1 | h1
  · rw [Int.min_eq_right h1]; omega
  · rw [Int.min_eq_left h1]
    rcases Int.lt_or_le 0 b with h2 | h2
    · have h3 : 2001 * 1 ≤ 2001 * b := Int.mul_le_mul_of_nonneg_left (by omega) (by omega)
      have h4 : 2001 * b ≤ a * b := Int.mul_le_mul_of_nonneg_right h1 hb0
      omega
    · have : b = 0 := by omega
      subst this
      simp; omega

theorem pad_at {l : List Int} {i : Nat} (h : i < l.length) : (((pad l).map vi).toArray)[0 + i]? = some (vi (l.getD i 0)) := by
  have h1 : i < (pad l).length := by simp [pad]; omega
  have := pad_get h
  rw [List.getD_eq_getElem?_getD, List.getElem?_eq_getElem h1] at this
  simp only [Nat.zero_add, List.getElem?_toArray, List.getElem?_map, List.getElem?_eq_getElem h1, Option.map_some]
  rw [← this]; rfl
def ownTo (t : Table) (l : List Int) (k : Nat) : List Int := (List.range t.women.length).map fun w : Nat => ((cnt k fun i => decide (l.getD i 0 = (w : Int)) : Nat) : Int)
theorem ownTo_zero (t : Table) (l : List Int) : ownTo t l 0 = List.replicate t.women.length 0 := by
  apply List.ext_getElem
  · simp [ownTo]
  · intro i h1 h2; simp [ownTo, cnt_zero]
theorem ownTo_get {t : Table} {l : List Int} {k x : Nat} (h : x < t.women.length) : ((ownTo t l k).map vi)[x * 1 + 0]? = some (vi ((cnt k fun i => decide (l.getD i 0 = (x : Int)) : Nat) : Int)) := by
  simp [ownTo, h, -List.getD_eq_getElem?_getD]
theorem set_take {l : List Value} {x : Nat} {u : Value} (h : x < l.length) : l.take (x * 1 + 0) ++ ([u] ++ l.drop (x * 1 + 0 + 1)) = l.set x u := by
  rw [Nat.mul_one, Nat.add_zero, List.set_eq_take_append_cons_drop, if_pos h]; rfl
theorem ownTo_step {t : Table} {l : List Int} {k x : Nat} (hx : l.getD k 0 = (x : Int)) (h : x < t.women.length) :
    ((ownTo t l k).map vi).take (x * 1 + 0) ++ ((vi (((cnt k fun i => decide (l.getD i 0 = (x : Int)) : Nat) : Int) + 1)).cells.toList ++ ((ownTo t l k).map vi).drop (x * 1 + 0 + 1)) = (ownTo t l (k + 1)).map vi := by
  refine (set_take (u := vi (((cnt k fun i => decide (l.getD i 0 = (x : Int)) : Nat) : Int) + 1)) (by simp [ownTo, h])).trans ?_
  apply List.ext_getElem
  · simp [ownTo]
  intro i h1 h2
  rw [List.getElem_set]
  have hi : i < t.women.length := by simpa [ownTo] using h2
  split
  · rename_i e
    subst e
    simp only [ownTo, List.getElem_map, List.getElem_range]
    rw [cnt_yes (decide_eq_true hx)]; rfl
  · rename_i e
    simp only [ownTo, List.getElem_map, List.getElem_range]
    rw [cnt_no (n := k) (p := fun j => decide (l.getD j 0 = (i : Int))) (decide_eq_false (by omega))]
theorem ownTo_all {t : Table} {l : List Int} : ownTo t l l.length = ownList t l := rfl
theorem pad_store {xs : List Int} {k : Nat} (h : k < xs.length) (h7 : xs.length ≤ 7) : (((pad (xs.take k)).map vi).toArray).toList.take (0 + k) ++ ((vi (xs.getD k 0)).cells.toList ++ (((pad (xs.take k)).map vi).toArray).toList.drop (0 + k + 1)) = (pad (xs.take (k + 1))).map vi := by
  have e1 : (xs.take k).length = k := by simp; omega
  have e2 : xs.take (k + 1) = xs.take k ++ [xs.getD k 0] := by
    rw [List.take_add_one, List.getElem?_eq_getElem h]
    simp [List.getD_eq_getElem?_getD, List.getElem?_eq_getElem h]
  have e3 : (xs.take (k + 1)).length = k + 1 := by simp; omega
  show ((pad (xs.take k)).map vi).take (0 + k) ++ ([vi (xs.getD k 0)] ++ ((pad (xs.take k)).map vi).drop (0 + k + 1)) = _
  unfold pad
  rw [e1, e3, e2, Nat.zero_add]
  simp only [List.map_append, List.map_cons, List.map_nil]
  have e4 : ((xs.take k).map vi).length = k := by simp; omega
  rw [List.take_append_of_le_length (by omega), List.take_of_length_le (by omega), List.drop_append, e4, List.drop_of_length_le (by omega), Nat.add_sub_cancel_left]
  have e5 : 7 - k = (7 - (k + 1)) + 1 := by omega
  rw [e5]
  simp [List.replicate_succ]

end Go.Proofs.Ytgolpbkapphciaa
