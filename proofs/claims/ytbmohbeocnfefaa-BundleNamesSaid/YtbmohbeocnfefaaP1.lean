/- Plain law: tables, and what the reference computes of them; by lists of numbers. -/
import Derived.Test.YtbmohbeocnfefaaEngine
namespace Go.Proofs.Ytbmohbeocnfefaa
open Go Go.Eng Go.RowKit

structure Woman where
  mark : Int
  lo : Int
  hi : Int
  deriving DecidableEq
structure Piece where
  marks : List Int
  bundle : Int
  deriving DecidableEq
structure Table where
  women : List Woman
  pieces : List Piece
  wrong : Int
  deriving DecidableEq
instance : Inhabited Woman := ⟨⟨0, 0, 0⟩⟩
instance : Inhabited Piece := ⟨⟨[], 0⟩⟩

/-- The numbers below n of which p holds. -/
def sel (n : Nat) (p : Nat → Bool) : List Int := ((List.range n).filter p).map Int.ofNat
theorem sel_succ (n : Nat) (p : Nat → Bool) : sel (n + 1) p = sel n p ++ if p n then [(n : Int)] else [] := by
  simp only [sel, List.range_succ, List.filter_append, List.map_append]
  cases h : p n <;> simp [h] 
theorem sel_yes {n : Nat} {p : Nat → Bool} (h : p n = true) : sel (n + 1) p = sel n p ++ [(n : Int)] := by rw [sel_succ, if_pos h]
theorem sel_no {n : Nat} {p : Nat → Bool} (h : p n = false) : sel (n + 1) p = sel n p := by rw [sel_succ, h]; simp
theorem sel_len (n : Nat) (p : Nat → Bool) : (sel n p).length ≤ n := by
  simp only [sel, List.length_map]
  exact Nat.le_trans (List.length_filter_le _ _) (by simp)
theorem sel_congr {n : Nat} {p q : Nat → Bool} (h : ∀ i, i < n → p i = q i) : sel n p = sel n q := by
  simp only [sel]
  congr 1
  exact List.filter_congr fun i hi => h i (List.mem_range.1 hi)
theorem mem_sel {n : Nat} {p : Nat → Bool} {x : Int} : x ∈ sel n p ↔ ∃ i : Nat, i < n ∧ p i = true ∧ x = i := by
  simp only [sel, List.mem_map, List.mem_filter, List.mem_range]
  constructor
  · rintro ⟨i, ⟨h1, h2⟩, rfl⟩; exact ⟨i, h1, h2, rfl⟩
  · rintro ⟨i, h1, h2, rfl⟩; exact ⟨i, ⟨h1, h2⟩, rfl⟩

/-- How many numbers below n p holds of. -/
def cnt (n : Nat) (p : Nat → Bool) : Nat := (List.range n).countP p
theorem cnt_zero (p : Nat → Bool) : cnt 0 p = 0 := rfl
theorem cnt_yes {n : Nat} {p : Nat → Bool} (h : p n = true) : cnt (n + 1) p = cnt n p + 1 := by simp [cnt, List.range_succ, List.countP_append, h]
theorem cnt_no {n : Nat} {p : Nat → Bool} (h : p n = false) : cnt (n + 1) p = cnt n p := by simp [cnt, List.range_succ, List.countP_append, h]
theorem cnt_le (n : Nat) (p : Nat → Bool) : cnt n p ≤ n := by
  simpa [cnt] using List.countP_le_length (p := p) (l := List.range n)
theorem sel_length (n : Nat) (p : Nat → Bool) : (sel n p).length = cnt n p := by simp [sel, cnt, List.countP_eq_length_filter]

theorem mem_getD {xs : List Int} {i : Nat} (h : i < xs.length) : xs.getD i 0 ∈ xs := by
  rw [List.getD_eq_getElem?_getD, List.getElem?_eq_getElem h]
  exact List.getElem_mem h
theorem getD_of_mem {xs : List Int} {x : Int} (h : x ∈ xs) : ∃ i, i < xs.length ∧ xs.getD i 0 = x := by
  obtain ⟨i, hi, rfl⟩ := List.mem_iff_getElem.1 h
  exact ⟨i, hi, by rw [List.getD_eq_getElem?_getD, List.getElem?_eq_getElem hi]; rfl⟩

/-! ### The reference -/
def womenOf (t : Table) (p : Nat) : List Int := sel t.women.length fun w => decide ((t.women.getD w default).mark ∈ (t.pieces.getD p default).marks)
def areOwners (t : Table) (l : List Int) : Bool := decide (l.length = t.pieces.length ∧ ∀ i, i < l.length → l.getD i 0 ∈ womenOf t i)
def own (l : List Int) (w : Int) : Nat := cnt l.length fun i => decide (l.getD i 0 = w)
def astray (t : Table) (l : List Int) : List Int := sel l.length fun i => !decide ((t.pieces.getD i default).bundle = l.getD i 0)
def manyTo (t : Table) (k : Nat) : Int := (List.range k).foldl (fun n i => min 3000 (n * (womenOf t i).length)) 1
def many (t : Table) : Int := manyTo t t.pieces.length
theorem manyTo_succ (t : Table) (k : Nat) : manyTo t (k + 1) = min 3000 (manyTo t k * (womenOf t k).length) := by simp [manyTo, List.range_succ, List.foldl_append]
theorem manyTo_pos (t : Table) : ∀ k, 0 ≤ manyTo t k ∧ manyTo t k ≤ 3000
  | 0 => by simp [manyTo]
  | k + 1 => by
    rw [manyTo_succ]
    have h := manyTo_pos t k
    have : 0 ≤ manyTo t k * ((womenOf t k).length : Int) := Int.mul_nonneg h.1 (by omega)
    omega

/-- The set of the numbers below n of which p holds, as bits. -/
def bset : Nat → (Nat → Bool) → Nat
  | 0, _ => 0
  | n + 1, p => if p n then bset n p ||| 2 ^ n else bset n p
def bits (b : Nat) : List Int := sel 64 (fun i => b.testBit i)
def full (t : Table) : Nat := 2 ^ t.women.length - 1
def rightP (t : Table) (l : List Int) (w : Nat) : Bool := decide ((t.women.getD w default).lo ≤ own l w ∧ (own l w : Int) ≤ (t.women.getD w default).hi)
def right (t : Table) (l : List Int) : Nat := bset t.women.length (rightP t l)
/-- x without the bits of y. -/
def without (x y : Nat) : Nat := x &&& (18446744073709551615 - y)
def isTruth (t : Table) (l : List Int) : Bool := areOwners t l && decide (((bits (without (full t) (right t l))).length : Int) ≤ t.wrong)
def nthTo (t : Table) : Nat → Nat → List Int
  | 0, _ => []
  | k + 1, n => nthTo t k (n / (womenOf t k).length) ++ [(womenOf t k).getD (n % (womenOf t k).length) 0]
def nth (t : Table) (n : Nat) : List Int := nthTo t t.pieces.length n
def truthsTo (t : Table) (k : Nat) : List (List Int) := ((List.range k).map (nth t)).filter (isTruth t)
def truths (t : Table) : List (List Int) := truthsTo t (many t).toNat
/-- Is there a number below n of which p holds? -/
def ex (n : Nat) (p : Nat → Bool) : Bool := (List.range n).any p
theorem ex_iff {n : Nat} {p : Nat → Bool} : ex n p = true ↔ ∃ i, i < n ∧ p i = true := by simp [ex]
theorem ex_no {n : Nat} {p : Nat → Bool} : ex n p = false ↔ ∀ i, i < n → p i = false := by simp [ex]
/-- The greatest of some numbers, and 0. -/
def top : Nat → (Nat → Nat) → Nat
  | 0, _ => 0
  | n + 1, f => max (top n f) (f n)
def whoseIn (all : List (List Int)) (piece w : Nat) : Bool := ex all.length fun i => decide ((all.getD i []).getD piece 0 = w)
def whose (t : Table) (all : List (List Int)) (piece : Nat) : List Int := sel t.women.length (whoseIn all piece)
def doesMiss (t : Table) (l : List Int) (w : Int) : Bool := ex l.length fun i => decide (l.getD i 0 = w) && !decide ((t.pieces.getD i default).bundle = w)
def missing (t : Table) (all : List (List Int)) (w : Int) : Nat := cnt all.length fun i => doesMiss t (all.getD i []) w
def misses (t : Table) (all : List (List Int)) (w : Int) : Int := if missing t all w = all.length then 1 else if missing t all w = 0 then 2 else 3
def leavesAt (all : List (List Int)) (piece w : Nat) : Nat := cnt all.length fun i => decide ((all.getD i []).getD piece 0 = w)
def leaves (t : Table) (all : List (List Int)) (piece : Nat) : Nat := top t.women.length (leavesAt all piece)
/-- The first of the least, among the numbers below n + 1. -/
def least (f : Nat → Nat) : Nat → Nat
  | 0 => 0
  | n + 1 => if f (n + 1) < f (least f n) then n + 1 else least f n
def can (ns : List Nat) (w : Nat) : Bool := ex ns.length fun i => decide (ns.getD i 0 &&& w = w)
/-- The first number below n of which p does not hold, or n. -/
def fstNo (p : Nat → Bool) : Nat → Nat
  | 0 => 0
  | n + 1 => if fstNo p n < n then fstNo p n else if p n then n + 1 else n
theorem fstNo_all {p : Nat → Bool} {n : Nat} (h : ∀ i, i < n → p i = true) : fstNo p n = n := by
  induction n with
  | zero => rfl
  | succ n ih =>
    simp only [fstNo]
    rw [ih (fun i hi => h i (by omega)), if_neg (Nat.lt_irrefl _), if_pos (h n (by omega))]
theorem fstNo_at {p : Nat → Bool} {k n : Nat} (hk : k < n) (h : ∀ i, i < k → p i = true) (hp : p k = false) : fstNo p n = k := by
  induction n with
  | zero => omega
  | succ n ih =>
    simp only [fstNo]
    rcases Nat.lt_succ_iff_lt_or_eq.1 hk with h1 | rfl
    · rw [ih h1, if_pos h1]
    · rw [fstNo_all h, if_neg (Nat.lt_irrefl _), if_neg (by simp [hp])]
def before : List Int → List Int → Bool
  | [], b => decide (0 < b.length)
  | _ :: _, [] => false
  | x :: a, y :: b => if x = y then before a b else decide (x < y)
def shorter (a b : List Int) : Bool := decide (a.length < b.length) || (decide (a.length = b.length) && before a b)
/-- The best of the first k of some lists, of which the first is one. -/
def bestTo (t : Table) (all : List (List Int)) : Nat → Nat
  | 0 => 0
  | k + 1 => if (astray t (all.getD k [])).length < (astray t (all.getD (bestTo t all k) [])).length then k else bestTo t all k
def fewest (t : Table) (all : List (List Int)) : List Int := all.getD (bestTo t all all.length) []
theorem bestTo_lt (t : Table) {all : List (List Int)} (h : 0 < all.length) : ∀ k, k ≤ all.length → bestTo t all k < all.length
  | 0, _ => h
  | k + 1, hk => by
    simp only [bestTo]
    split
    · omega
    · exact bestTo_lt t h k (by omega)
def womanBad (w : Woman) : Bool := !decide (0 ≤ w.mark ∧ w.mark ≤ 9) || decide (w.lo < 0) || decide (w.hi < w.lo) || decide (7 < w.hi)
def markBad (ms : List Int) (k : Nat) : Bool := !decide (0 ≤ ms.getD k 0 ∧ ms.getD k 0 ≤ 9) || (decide (0 < k) && decide (ms.getD k 0 ≤ ms.getD (k - 1) 0))
def pieceBad (t : Table) (i : Nat) : Bool :=
  ex (t.pieces.getD i default).marks.length (markBad (t.pieces.getD i default).marks) || !decide (0 ≤ (t.pieces.getD i default).bundle ∧ (t.pieces.getD i default).bundle ≤ (t.women.length : Int) - 1) || decide ((womenOf t i).length = 0)
def fault (t : Table) : Int :=
  if 5 < t.women.length ∨ 7 < t.pieces.length then 3
  else if ¬ (0 ≤ t.wrong ∧ t.wrong ≤ 5) then 1
  else if ex t.women.length (fun w => womanBad (t.women.getD w default)) = true then 1
  else if ex t.pieces.length (pieceBad t) = true then 1
  else if 2000 < many t then 3 else 0

/-- Tables that are valid. -/
structure Valid (t : Table) : Prop where
  women : t.women.length ≤ 5
  pieces : t.pieces.length ≤ 7
  wrong : 0 ≤ t.wrong ∧ t.wrong ≤ 5
  woman : ∀ i, i < t.women.length → womanBad (t.women.getD i default) = false
  piece : ∀ i, i < t.pieces.length → pieceBad t i = false
  many : many t ≤ 2000
theorem fault_zero {t : Table} : fault t = 0 ↔ Valid t := by
  unfold fault
  constructor
  · intro h
    split at h
    · cases h
    rename_i h1
    split at h
    · cases h
    rename_i h2
    split at h
    · cases h
    rename_i h3
    split at h
    · cases h
    rename_i h4
    split at h
    · cases h
    rename_i h5
    exact ⟨by omega, by omega, by omega, ex_no.1 (by simpa using h3), ex_no.1 (by simpa using h4), by omega⟩
  · intro h
    obtain ⟨h1, h2, h3, h4, h5, h6⟩ := h
    rw [if_neg (by omega), if_neg (by omega), if_neg (by rw [ex_no.2 h4]; simp), if_neg (by rw [ex_no.2 h5]; simp), if_neg (by omega)]
theorem Valid.owned {t : Table} (h : Valid t) : ∀ i, i < t.pieces.length → 0 < (womenOf t i).length := fun i hi => by
  have := h.piece i hi
  simp only [pieceBad, Bool.or_eq_false_iff, decide_eq_false_iff_not] at this
  omega
def threeT (first last wrong : Int) : Table := ⟨[⟨1, first, first⟩, ⟨1, 1, 2⟩, ⟨2, last, last⟩], [⟨[1], 0⟩, ⟨[1, 2], 0⟩, ⟨[1], 1⟩, ⟨[2], 1⟩], wrong⟩

end Go.Proofs.Ytbmohbeocnfefaa

/- Plain law: what the program computes. -/
namespace Go.Proofs.Ytbmohbeocnfefaa
open Go Go.Eng Go.RowKit

/-! ### The program -/
def ofMarks (t : Table) (ms : List Int) : List Int := sel t.women.length fun w => decide ((t.women.getD w default).mark ∈ ms)
def pieceBadP (t : Table) (p : Piece) : Bool :=
  ex p.marks.length (markBad p.marks) || !decide (0 ≤ p.bundle ∧ p.bundle ≤ (t.women.length : Int) - 1) || decide ((ofMarks t p.marks).length = 0)
def minTo (xs : List Int) : Nat → Int
  | 0 => xs.getD 0 0
  | k + 1 => min (minTo xs k) (xs.getD (k + 1) 0)
/-- The owners in an array of seven places. -/
def pad (l : List Int) : List Int := l ++ List.replicate (7 - l.length) 0
theorem pad_len {l : List Int} (h : l.length ≤ 7) : (pad l).length = 7 := by simp [pad]; omega
theorem pad_get {l : List Int} {i : Nat} (h : i < l.length) : (pad l).getD i 0 = l.getD i 0 := by
  simp [pad, List.getD_eq_getElem?_getD, List.getElem?_append_left h]
/-- Owners, as the program may have them. -/
structure Owns (t : Table) (l : List Int) : Prop where
  len : l.length = t.pieces.length
  seven : t.pieces.length ≤ 7
  woman : ∀ i, i < l.length → 0 ≤ l.getD i 0 ∧ l.getD i 0 < t.women.length
def ownList (t : Table) (l : List Int) : List Int := (List.range t.women.length).map fun w : Nat => ((own l w : Nat) : Int)
def wrongP (t : Table) (l : List Int) : List Int := sel t.women.length fun w => !rightP t l w
theorem areOwners_iff {t : Table} {l : List Int} : areOwners t l = true ↔ l.length = t.pieces.length ∧ ∀ i, i < l.length → l.getD i 0 ∈ womenOf t i := by simp [areOwners]
theorem owns_of {t : Table} {l : List Int} (h : areOwners t l = true) (h7 : t.pieces.length ≤ 7) : Owns t l := by
  obtain ⟨h1, h2⟩ := areOwners_iff.1 h
  refine ⟨h1, h7, fun i hi => ?_⟩
  obtain ⟨w, hw, _, e⟩ := mem_sel.1 (h2 i hi)
  omega
def manyP (t : Table) (k : Nat) : Int := min 2001 (manyTo t k)
theorem manyP_succ (t : Table) (k : Nat) : manyP t (k + 1) = min (manyP t k * (womenOf t k).length) 2001 := by
  have h := manyTo_pos t k
  unfold manyP
  rw [manyTo_succ]
  generalize hb : ((womenOf t k).length : Int) = b
  have hb0 : 0 ≤ b := by omega
  generalize manyTo t k = a at *
  rcases Int.le_total a 2001 with h1 | h1
  · rw [Int.min_eq_right h1]; omega
  · rw [Int.min_eq_left h1]
    rcases Int.lt_or_le 0 b with h2 | h2
    · have h3 : 2001 * 1 ≤ 2001 * b := Int.mul_le_mul_of_nonneg_left (by omega) (by omega)
      have h4 : 2001 * b ≤ a * b := Int.mul_le_mul_of_nonneg_right h1 hb0
      omega
    · have : b = 0 := by omega
      subst this
      simp; omega

theorem pad_at {l : List Int} {i : Nat} (h : i < l.length) : (((pad l).map vi).toArray)[0 + i]? = some (vi (l.getD i 0)) := by
  have h1 : i < (pad l).length := by simp [pad]; omega
  have := pad_get h
  rw [List.getD_eq_getElem?_getD, List.getElem?_eq_getElem h1] at this
  simp only [Nat.zero_add, List.getElem?_toArray, List.getElem?_map, List.getElem?_eq_getElem h1, Option.map_some]
  rw [← this]; rfl
def ownTo (t : Table) (l : List Int) (k : Nat) : List Int := (List.range t.women.length).map fun w : Nat => ((cnt k fun i => decide (l.getD i 0 = (w : Int)) : Nat) : Int)
theorem ownTo_zero (t : Table) (l : List Int) : ownTo t l 0 = List.replicate t.women.length 0 := by
  apply List.ext_getElem
  · simp [ownTo]
  · intro i h1 h2; simp [ownTo, cnt_zero]
theorem ownTo_get {t : Table} {l : List Int} {k x : Nat} (h : x < t.women.length) : ((ownTo t l k).map vi)[x * 1 + 0]? = some (vi ((cnt k fun i => decide (l.getD i 0 = (x : Int)) : Nat) : Int)) := by
  simp [ownTo, h, -List.getD_eq_getElem?_getD]
theorem set_take {l : List Value} {x : Nat} {u : Value} (h : x < l.length) : l.take (x * 1 + 0) ++ ([u] ++ l.drop (x * 1 + 0 + 1)) = l.set x u := by
  rw [Nat.mul_one, Nat.add_zero, List.set_eq_take_append_cons_drop, if_pos h]; rfl
theorem ownTo_step {t : Table} {l : List Int} {k x : Nat} (hx : l.getD k 0 = (x : Int)) (h : x < t.women.length) :
    ((ownTo t l k).map vi).take (x * 1 + 0) ++ ((vi (((cnt k fun i => decide (l.getD i 0 = (x : Int)) : Nat) : Int) + 1)).cells.toList ++ ((ownTo t l k).map vi).drop (x * 1 + 0 + 1)) = (ownTo t l (k + 1)).map vi := by
  refine (set_take (u := vi (((cnt k fun i => decide (l.getD i 0 = (x : Int)) : Nat) : Int) + 1)) (by simp [ownTo, h])).trans ?_
  apply List.ext_getElem
  · simp [ownTo]
  intro i h1 h2
  rw [List.getElem_set]
  have hi : i < t.women.length := by simpa [ownTo] using h2
  split
  · rename_i e
    subst e
    simp only [ownTo, List.getElem_map, List.getElem_range]
    rw [cnt_yes (decide_eq_true hx)]; rfl
  · rename_i e
    simp only [ownTo, List.getElem_map, List.getElem_range]
    rw [cnt_no (n := k) (p := fun j => decide (l.getD j 0 = (i : Int))) (decide_eq_false (by omega))]
theorem pad_store {xs : List Int} {k : Nat} (h : k < xs.length) (h7 : xs.length ≤ 7) : (((pad (xs.take k)).map vi).toArray).toList.take (0 + k) ++ ((vi (xs.getD k 0)).cells.toList ++ (((pad (xs.take k)).map vi).toArray).toList.drop (0 + k + 1)) = (pad (xs.take (k + 1))).map vi := by
  have e1 : (xs.take k).length = k := by simp; omega
  have e2 : xs.take (k + 1) = xs.take k ++ [xs.getD k 0] := by
    rw [List.take_add_one, List.getElem?_eq_getElem h]
    simp [List.getD_eq_getElem?_getD, List.getElem?_eq_getElem h]
  have e3 : (xs.take (k + 1)).length = k + 1 := by simp; omega
  show ((pad (xs.take k)).map vi).take (0 + k) ++ ([vi (xs.getD k 0)] ++ ((pad (xs.take k)).map vi).drop (0 + k + 1)) = _
  unfold pad
  rw [e1, e3, e2, Nat.zero_add]
  simp only [List.map_append, List.map_cons, List.map_nil]
  have e4 : ((xs.take k).map vi).length = k := by simp; omega
  rw [List.take_append_of_le_length (by omega), List.take_of_length_le (by omega), List.drop_append, e4, List.drop_of_length_le (by omega), Nat.add_sub_cancel_left]
  have e5 : 7 - k = (7 - (k + 1)) + 1 := by omega
  rw [e5]
  simp [List.replicate_succ]

end Go.Proofs.Ytbmohbeocnfefaa

/- Plain law: all owners, in lexicographic order. -/
namespace Go.Proofs.Ytbmohbeocnfefaa
open Go Go.Eng Go.RowKit

/-- The owners of the last r pieces, in lexicographic order. -/
def tails (t : Table) : Nat → List (List Int)
  | 0 => [[]]
  | r + 1 => (womenOf t (t.pieces.length - (r + 1))).flatMap fun w => (tails t r).map (w :: ·)
def allOwners (t : Table) : List (List Int) := tails t t.pieces.length
theorem flat_len {α β : Type} (l : List α) (f : α → List β) (k : Nat) (h : ∀ x ∈ l, (f x).length = k) : (l.flatMap f).length = l.length * k := by
  induction l with
  | nil => simp
  | cons x l ih => rw [List.flatMap_cons, List.length_append, ih fun y hy => h y (.tail _ hy), h x (.head _), List.length_cons, Nat.add_mul, Nat.one_mul, Nat.add_comm]
theorem flat_get {α β : Type} (l : List α) (f : α → List β) (k : Nat) (h : ∀ x ∈ l, (f x).length = k) {j i : Nat} (hj : j < l.length) (hi : i < k) : (l.flatMap f)[j * k + i]? = (f l[j])[i]? := by
  induction l generalizing j with
  | nil => simp at hj
  | cons x l ih =>
    rw [List.flatMap_cons]
    have hx := h x (.head _)
    cases j with
    | zero =>
      rw [Nat.zero_mul, Nat.zero_add, List.getElem?_append_left (by omega)]
      rfl
    | succ j =>
      have e : (j + 1) * k + i = k + (j * k + i) := by rw [Nat.add_mul, Nat.one_mul]; omega
      rw [e, List.getElem?_append_right (by omega), hx, Nat.add_sub_cancel_left]
      exact ih (fun y hy => h y (.tail _ hy)) (by simpa using hj)
theorem tails_len (t : Table) (r : Nat) : (tails t (r + 1)).length = (womenOf t (t.pieces.length - (r + 1))).length * (tails t r).length := flat_len _ _ _ fun _ _ => List.length_map ..
theorem tails_get {t : Table} {r j i : Nat} (hj : j < (womenOf t (t.pieces.length - (r + 1))).length) (hi : i < (tails t r).length) :
    (tails t (r + 1)).getD (j * (tails t r).length + i) [] = (womenOf t (t.pieces.length - (r + 1))).getD j 0 :: (tails t r).getD i [] := by
  have := flat_get (womenOf t (t.pieces.length - (r + 1))) (fun w => (tails t r).map (w :: ·)) (tails t r).length (fun _ _ => List.length_map ..) hj hi
  rw [List.getD_eq_getElem?_getD]
  show ((womenOf t (t.pieces.length - (r + 1))).flatMap fun w => (tails t r).map (w :: ·))[j * (tails t r).length + i]?.getD [] = _
  rw [this]
  simp [List.getD_eq_getElem?_getD, List.getElem?_eq_getElem hj, List.getElem?_eq_getElem hi]
theorem tails_lens {t : Table} : ∀ {r : Nat} {l : List Int}, l ∈ tails t r → l.length = r
  | 0, l, h => by simp [tails] at h; subst h; rfl
  | r + 1, l, h => by
    obtain ⟨w, _, h2⟩ := List.mem_flatMap.1 h
    obtain ⟨l', h3, rfl⟩ := List.mem_map.1 h2
    simp [tails_lens h3]
/-- The array at work: the first entries are fixed, those behind the pieces are 0. -/
def Works (t : Table) (pre q : List Int) : Prop := q.length = 7 ∧ q.take pre.length = pre ∧ q.drop t.pieces.length = List.replicate (7 - t.pieces.length) 0
theorem Works.done {t : Table} {pre q : List Int} (h : Works t pre q) (hl : pre.length = t.pieces.length) (_ : t.pieces.length ≤ 7) : q = pad pre := by
  obtain ⟨h1, h2, h3⟩ := h
  rw [← List.take_append_drop pre.length q, h2, hl, h3]
  unfold pad; rw [hl]
theorem Works.set {t : Table} {pre q : List Int} (h : Works t pre q) (hl : pre.length < t.pieces.length) (h7 : t.pieces.length ≤ 7) (w : Int) : Works t (pre ++ [w]) (q.set pre.length w) := by
  obtain ⟨h1, h2, h3⟩ := h
  refine ⟨by simpa using h1, ?_, ?_⟩
  · rw [List.length_append, List.length_cons, List.length_nil, List.take_set, List.take_add_one, h2, List.getElem?_eq_getElem (by omega)]
    simp
  · rw [List.drop_set, if_pos hl, h3]
theorem Works.back {t : Table} {pre q : List Int} {w : Int} (h : Works t (pre ++ [w]) q) : Works t pre q := by
  obtain ⟨h1, h2, h3⟩ := h
  refine ⟨h1, ?_, h3⟩
  have := congrArg (List.take pre.length) h2
  rw [List.take_take] at this
  simpa using this
theorem Works.zero {t : Table} (_ : t.pieces.length ≤ 7) : Works t [] (List.replicate 7 0) := ⟨rfl, rfl, List.drop_replicate ..⟩
theorem tails_mem {t : Table} : ∀ {r : Nat} {l : List Int}, r ≤ t.pieces.length → l ∈ tails t r → ∀ i, i < r → l.getD i 0 ∈ womenOf t (t.pieces.length - r + i)
  | 0, _, _, _, i, hi => absurd hi (Nat.not_lt_zero _)
  | r + 1, l, hr, h, i, hi => by
    obtain ⟨w, hw, h2⟩ := List.mem_flatMap.1 h
    obtain ⟨l', h3, rfl⟩ := List.mem_map.1 h2
    cases i with
    | zero => simpa using hw
    | succ i =>
      have := tails_mem (by omega) h3 i (by omega)
      have e : t.pieces.length - (r + 1) + (i + 1) = t.pieces.length - r + i := by omega
      rw [e]; simpa using this
theorem allOwners_are {t : Table} {l : List Int} (h : l ∈ allOwners t) : areOwners t l = true := by
  have h1 := tails_lens h
  refine areOwners_iff.2 ⟨h1, fun i hi => ?_⟩
  have := tails_mem (Nat.le_refl _) h i (by omega)
  simpa using this
theorem allOwners_at {t : Table} {k : Nat} (h : k < (allOwners t).length) : areOwners t ((allOwners t).getD k []) = true :=
  allOwners_are (by rw [List.getD_eq_getElem?_getD, List.getElem?_eq_getElem h]; exact List.getElem_mem h)
/-- Can all women but some have counted right, with owners? -/
def rightBut (t : Table) (out l : List Int) : Bool := !ex (wrongP t l).length fun i => !decide ((wrongP t l).getD i 0 ∈ out)
def possibleB (t : Table) (out : List Int) : Bool := ex (allOwners t).length fun k => rightBut t out ((allOwners t).getD k [])
end Go.Proofs.Ytbmohbeocnfefaa

/- Plain law: the truths that the program finds are those of the reference, in their order. -/
namespace Go.Proofs.Ytbmohbeocnfefaa
open Go Go.Eng Go.RowKit

def prodTo (t : Table) (k : Nat) : Nat := (List.range k).foldl (fun n i => n * (womenOf t i).length) 1
theorem prodTo_succ (t : Table) (k : Nat) : prodTo t (k + 1) = prodTo t k * (womenOf t k).length := by simp [prodTo, List.range_succ, List.foldl_append]
theorem manyTo_prod (t : Table) : ∀ k, manyTo t k = min 3000 (prodTo t k : Int)
  | 0 => by simp only [manyTo, prodTo, List.range_zero, List.foldl_nil]; omega
  | k + 1 => by
    rw [manyTo_succ, manyTo_prod t k, prodTo_succ]
    generalize prodTo t k = a
    generalize (womenOf t k).length = b
    rw [Int.natCast_mul]
    rcases Nat.lt_or_ge a 3000 with h | h
    · rw [Int.min_eq_right (show (a : Int) ≤ 3000 by omega)]
    · rw [Int.min_eq_left (show (3000 : Int) ≤ a by omega)]
      rcases Nat.eq_zero_or_pos b with rfl | hb
      · simp only [Int.ofNat_zero, Int.mul_zero]
      · have h1 : 3000 * 1 ≤ 3000 * (b : Int) := Int.mul_le_mul_of_nonneg_left (by omega) (by omega)
        have h2 : 3000 * (b : Int) ≤ (a : Int) * b := Int.mul_le_mul_of_nonneg_right (by omega) (by omega)
        omega
theorem tails_prod (t : Table) : ∀ r, r ≤ t.pieces.length → prodTo t (t.pieces.length - r) * (tails t r).length = prodTo t t.pieces.length
  | 0, _ => by simp [tails]
  | r + 1, hr => by
    rw [← tails_prod t r (by omega), tails_len, show t.pieces.length - r = (t.pieces.length - (r + 1)) + 1 by omega, prodTo_succ, Nat.mul_assoc]
theorem allOwners_prod (t : Table) : (allOwners t).length = prodTo t t.pieces.length := by
  have := tails_prod t t.pieces.length (Nat.le_refl _)
  simpa [allOwners, prodTo] using this
theorem allOwners_many {t : Table} (h : many t ≤ 2000) : (allOwners t).length = (many t).toNat ∧ (allOwners t).length ≤ 2000 := by
  unfold many at *
  rw [manyTo_prod] at *
  rw [allOwners_prod]
  omega
theorem map_range_getD {α : Type} (l : List α) (d : α) : (List.range l.length).map (fun i => l.getD i d) = l := by
  apply List.ext_getElem
  · simp
  · intro i h1 h2
    simp [List.getD_eq_getElem?_getD, List.getElem?_eq_getElem h2]
theorem sel_pairwise (n : Nat) (p : Nat → Bool) : (sel n p).Pairwise (· < ·) := by
  unfold sel
  rw [List.pairwise_map]
  exact (List.Pairwise.filter p List.pairwise_lt_range).imp (fun {a b} h => by show (a : Int) < b; omega)
theorem before_irrefl : ∀ l : List Int, before l l = false
  | [] => rfl
  | x :: l => by simp [before, before_irrefl l]
theorem tails_pairwise (t : Table) : ∀ r, (tails t r).Pairwise (fun a b => before a b = true)
  | 0 => by simp [tails]
  | r + 1 => by
    simp only [tails]
    rw [List.pairwise_flatMap]
    refine ⟨fun w _ => ?_, ?_⟩
    · rw [List.pairwise_map]
      exact (tails_pairwise t r).imp (fun {a b} h => by simpa [before] using h)
    · refine (sel_pairwise _ _).imp (fun {a b} hab => ?_)
      intro x hx y hy
      obtain ⟨x', _, rfl⟩ := List.mem_map.1 hx
      obtain ⟨y', _, rfl⟩ := List.mem_map.1 hy
      have : a ≠ b := by omega
      simp [before, this, hab]
theorem allOwners_pairwise (t : Table) : (allOwners t).Pairwise (fun a b => before a b = true) := tails_pairwise t _

/-! ### Wrong counts -/
def isTruthP (t : Table) (l : List Int) : Bool := decide (((wrongP t l).length : Int) ≤ t.wrong)
/-- The program's truths among the first k owners. -/
def askTo (t : Table) (k : Nat) : List (List Int) := ((allOwners t).take k).filter (isTruthP t)
def ask (t : Table) : List (List Int) := (allOwners t).filter (isTruthP t)
theorem askTo_all {t : Table} {k : Nat} (h : (allOwners t).length ≤ k) : askTo t k = ask t := by unfold askTo ask; rw [List.take_of_length_le h]
theorem take_succ_getD {α : Type} {l : List α} {k : Nat} {d : α} (h : k < l.length) : l.take (k + 1) = l.take k ++ [l.getD k d] := by
  rw [List.take_add_one, List.getElem?_eq_getElem h]
  simp [List.getD_eq_getElem?_getD, List.getElem?_eq_getElem h]
theorem askTo_yes {t : Table} {k : Nat} (hk : k < (allOwners t).length) (h : isTruthP t ((allOwners t).getD k []) = true) : askTo t (k + 1) = askTo t k ++ [(allOwners t).getD k []] := by
  unfold askTo; rw [take_succ_getD (d := []) hk, List.filter_append]; simp [h, -List.getD_eq_getElem?_getD]
theorem askTo_no {t : Table} {k : Nat} (hk : k < (allOwners t).length) (h : isTruthP t ((allOwners t).getD k []) = false) : askTo t (k + 1) = askTo t k := by
  unfold askTo; rw [take_succ_getD (d := []) hk, List.filter_append]; simp [h, -List.getD_eq_getElem?_getD]
theorem ask_mem {t : Table} {k : Nat} {l : List Int} (h : l ∈ askTo t k) : l ∈ (allOwners t).take k ∧ areOwners t l = true := by
  have := (List.mem_filter.1 h).1
  exact ⟨this, allOwners_are (List.mem_of_mem_take this)⟩
theorem askTo_fresh {t : Table} {k : Nat} (hk : k < (allOwners t).length) {l : List Int} (h : l ∈ askTo t k) : l ≠ (allOwners t).getD k [] := by
  have h1 := (ask_mem h).1
  obtain ⟨j, hj, rfl⟩ := List.mem_iff_getElem.1 h1
  simp only [List.length_take] at hj
  have hp := List.pairwise_iff_getElem.1 (allOwners_pairwise t) j k (by omega) hk (by omega)
  intro e
  rw [List.getElem_take, List.getD_eq_getElem?_getD, List.getElem?_eq_getElem hk] at e
  simp only [Option.getD_some] at e
  rw [e, before_irrefl] at hp
  cases hp
theorem askTo_len (t : Table) (k : Nat) : (askTo t k).length ≤ (allOwners t).length :=
  Nat.le_trans (List.length_filter_le _ _) (by simp; omega)
theorem ask_are {t : Table} {l : List Int} (h : l ∈ ask t) : areOwners t l = true := allOwners_are (List.mem_filter.1 h).1

/-! ### The counts of spots -/
def cntQ (trs : List (List Int)) (p w : Int) : Nat := trs.countP fun l => decide (0 ≤ p ∧ p < l.length ∧ l.getD p.toNat 0 = w)
def manyG (trs : List (List Int)) : List Int → Value
  | [p, w] => vi (cntQ trs p w)
  | _ => vi 0
theorem cntQ_le (trs : List (List Int)) (p w : Int) : cntQ trs p w ≤ trs.length := List.countP_le_length ..
theorem cntQ_snoc (trs : List (List Int)) (x : List Int) (p w : Int) : cntQ (trs ++ [x]) p w = cntQ trs p w + if 0 ≤ p ∧ p < x.length ∧ x.getD p.toNat 0 = w then 1 else 0 := by
  simp only [cntQ, List.countP_append, List.countP_cons, List.countP_nil, decide_eq_true_eq, Nat.zero_add]
theorem manyG_nil (trs : List (List Int)) (x : List Int) : manyG (trs ++ [[]]) x = manyG trs x := by
  unfold manyG
  split
  · rename_i p w
    rw [cntQ_snoc, if_neg (by simp; omega)]; rfl
  · rfl
theorem manyG_step (trs : List (List Int)) (l : List Int) {i : Nat} (hi : i < l.length) (x : List Int) :
    upd (manyG (trs ++ [l.take i])) [(i : Int), l.getD i 0] (vi ((cntQ (trs ++ [l.take i]) i (l.getD i 0) : Int) + 1)) x = manyG (trs ++ [l.take (i + 1)]) x := by
  have e : l.take (i + 1) = l.take i ++ [l.getD i 0] := take_succ_getD hi
  have hl : (l.take i).length = i := by simp; omega
  have hl1 : (l.take (i + 1)).length = i + 1 := by simp; omega
  unfold upd
  split
  · rename_i hx
    subst hx
    simp only [manyG, cntQ_snoc]
    rw [if_neg (by omega), if_pos]
    · simp
    · refine ⟨by omega, by omega, ?_⟩
      simp [e, hl, List.getD_eq_getElem?_getD]
  · rename_i hx
    unfold manyG
    split
    · rename_i p w
      rw [cntQ_snoc, cntQ_snoc]
      congr 3
      by_cases hp : 0 ≤ p ∧ p < i
      · have : (l.take (i + 1)).getD p.toNat 0 = (l.take i).getD p.toNat 0 := by
          rw [e]; simp only [List.getD_eq_getElem?_getD]; rw [List.getElem?_append_left (by omega)]
        rw [this]
        simp only [hl, hl1]
        congr 1
        simp only [eq_iff_iff]
        constructor <;> (rintro ⟨a, b, c⟩; exact ⟨a, by omega, c⟩)
      · rw [if_neg (by omega), if_neg]
        rintro ⟨a, b, c⟩
        have hpi : p = i := by omega
        subst hpi
        refine hx ?_
        rw [← c, e]
        simp [hl, List.getD_eq_getElem?_getD]
    · rfl

/-! ### Moves -/
structure Move where
  piece : Int
  fro : Int
  to : Int
  deriving DecidableEq
instance : Inhabited Move := ⟨⟨0, 0, 0⟩⟩
/-- The moves of some owners. -/
def movesOf (t : Table) (l : List Int) : List Move := (astray t l).map fun i => ⟨i, (t.pieces.getD i.toNat default).bundle, l.getD i.toNat 0⟩

/-! ### Lists in order -/
end Go.Proofs.Ytbmohbeocnfefaa

/- Plain law: how the program looks for the smallest set. -/
namespace Go.Proofs.Ytbmohbeocnfefaa
open Go Go.Eng Go.RowKit

/-- The first that is found, of n numbers from s on. -/
def fsome {α : Type} (f : Nat → Option α) : Nat → Nat → Option α
  | _, 0 => none
  | s, n + 1 => match f s with
    | some x => some x
    | none => fsome f (s + 1) n
theorem fsome_none {α : Type} {f : Nat → Option α} : ∀ {n s : Nat}, (∀ i, s ≤ i → i < s + n → f i = none) → fsome f s n = none
  | 0, _, _ => rfl
  | n + 1, s, h => by
    simp only [fsome, h s (Nat.le_refl _) (by omega)]
    exact fsome_none fun i h1 h2 => h i (by omega) (by omega)
theorem fsome_hit {α : Type} {f : Nat → Option α} {x : α} : ∀ {n s i : Nat}, s ≤ i → i < s + n → (∀ j, s ≤ j → j < i → f j = none) → f i = some x → fsome f s n = some x
  | 0, s, i, h1, h2, _, _ => by omega
  | n + 1, s, i, h1, h2, h3, h4 => by
    simp only [fsome]
    by_cases e : s = i
    · subst e; simp [h4]
    · rw [h3 s (Nat.le_refl _) (by omega)]
      exact fsome_hit (by omega) (by omega) (fun j k1 k2 => h3 j (by omega) k2) h4
/-- The first set of so many numbers more, from one on, without which all counts can be right. -/
def leaveR (t : Table) : Nat → List Int → Nat → Option (List Int)
  | 0, out, _ => if possibleB t out = true then some out else none
  | m + 1, out, s => fsome (fun i => leaveR t m (out ++ [(i : Int)]) (i + 1)) s (t.women.length - m - s)
def leaveAll (t : Table) : Option (List Int) := fsome (fun m => leaveR t m [] 0) 0 (t.women.length + 1)
end Go.Proofs.Ytbmohbeocnfefaa
