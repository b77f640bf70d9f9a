/- Plain law: tables, and what the reference computes of them; by lists of numbers. -/
import Derived.Test.YtgolpbkapphciaaEngine
namespace Go.Proofs.Ytgolpbkapphciaa
open Go Go.Eng Go.RowKit

structure Woman where
  mark : Int
  lo : Int
  hi : Int
  deriving DecidableEq
structure Piece where
  marks : List Int
  bundle : Int
  deriving DecidableEq
structure Table where
  women : List Woman
  pieces : List Piece
  wrong : Int
  deriving DecidableEq
instance : Inhabited Woman := ⟨⟨0, 0, 0⟩⟩
instance : Inhabited Piece := ⟨⟨[], 0⟩⟩

/-- The numbers below n of which p holds. -/
def sel (n : Nat) (p : Nat → Bool) : List Int := ((List.range n).filter p).map Int.ofNat
theorem sel_zero (p : Nat → Bool) : sel 0 p = [] := rfl
theorem sel_succ (n : Nat) (p : Nat → Bool) : sel (n + 1) p = sel n p ++ if p n then [(n : Int)] else [] := by
  simp only [sel, List.range_succ, List.filter_append, List.map_append]
  cases h : p n <;> simp [h] 
theorem sel_yes {n : Nat} {p : Nat → Bool} (h : p n = true) : sel (n + 1) p = sel n p ++ [(n : Int)] := by rw [sel_succ, if_pos h]
theorem sel_no {n : Nat} {p : Nat → Bool} (h : p n = false) : sel (n + 1) p = sel n p := by rw [sel_succ, h]; simp
theorem sel_len (n : Nat) (p : Nat → Bool) : (sel n p).length ≤ n := by
  simp only [sel, List.length_map]
  exact Nat.le_trans (List.length_filter_le _ _) (by simp)
theorem sel_congr {n : Nat} {p q : Nat → Bool} (h : ∀ i, i < n → p i = q i) : sel n p = sel n q := by
  simp only [sel]
  congr 1
  exact List.filter_congr fun i hi => h i (List.mem_range.1 hi)
theorem mem_sel {n : Nat} {p : Nat → Bool} {x : Int} : x ∈ sel n p ↔ ∃ i : Nat, i < n ∧ p i = true ∧ x = i := by
  simp only [sel, List.mem_map, List.mem_filter, List.mem_range]
  constructor
  · rintro ⟨i, ⟨h1, h2⟩, rfl⟩; exact ⟨i, h1, h2, rfl⟩
  · rintro ⟨i, h1, h2, rfl⟩; exact ⟨i, ⟨h1, h2⟩, rfl⟩

/-- How many numbers below n p holds of. -/
def cnt (n : Nat) (p : Nat → Bool) : Nat := (List.range n).countP p
theorem cnt_zero (p : Nat → Bool) : cnt 0 p = 0 := rfl
theorem cnt_yes {n : Nat} {p : Nat → Bool} (h : p n = true) : cnt (n + 1) p = cnt n p + 1 := by simp [cnt, List.range_succ, List.countP_append, h]
theorem cnt_no {n : Nat} {p : Nat → Bool} (h : p n = false) : cnt (n + 1) p = cnt n p := by simp [cnt, List.range_succ, List.countP_append, h]
theorem cnt_le (n : Nat) (p : Nat → Bool) : cnt n p ≤ n := by
  simpa [cnt] using List.countP_le_length (p := p) (l := List.range n)
theorem sel_length (n : Nat) (p : Nat → Bool) : (sel n p).length = cnt n p := by simp [sel, cnt, List.countP_eq_length_filter]

theorem mem_getD {xs : List Int} {i : Nat} (h : i < xs.length) : xs.getD i 0 ∈ xs := by
  rw [List.getD_eq_getElem?_getD, List.getElem?_eq_getElem h]
  exact List.getElem_mem h
theorem getD_of_mem {xs : List Int} {x : Int} (h : x ∈ xs) : ∃ i, i < xs.length ∧ xs.getD i 0 = x := by
  obtain ⟨i, hi, rfl⟩ := List.mem_iff_getElem.1 h
  exact ⟨i, hi, by rw [List.getD_eq_getElem?_getD, List.getElem?_eq_getElem hi]; rfl⟩

/-! ### The reference -/
def womenOf (t : Table) (p : Nat) : List Int := sel t.women.length fun w => decide ((t.women.getD w default).mark ∈ (t.pieces.getD p default).marks)
def areOwners (t : Table) (l : List Int) : Bool := decide (l.length = t.pieces.length ∧ ∀ i, i < l.length → l.getD i 0 ∈ womenOf t i)
def own (l : List Int) (w : Int) : Nat := cnt l.length fun i => decide (l.getD i 0 = w)
def astray (t : Table) (l : List Int) : List Int := sel l.length fun i => !decide ((t.pieces.getD i default).bundle = l.getD i 0)
def manyTo (t : Table) (k : Nat) : Int := (List.range k).foldl (fun n i => min 3000 (n * (womenOf t i).length)) 1
def many (t : Table) : Int := manyTo t t.pieces.length
theorem manyTo_succ (t : Table) (k : Nat) : manyTo t (k + 1) = min 3000 (manyTo t k * (womenOf t k).length) := by simp [manyTo, List.range_succ, List.foldl_append]
theorem manyTo_pos (t : Table) : ∀ k, 0 ≤ manyTo t k ∧ manyTo t k ≤ 3000
  | 0 => by simp [manyTo]
  | k + 1 => by
    rw [manyTo_succ]
    have h := manyTo_pos t k
    have : 0 ≤ manyTo t k * ((womenOf t k).length : Int) := Int.mul_nonneg h.1 (by omega)
    omega

theorem sel_stop {k n : Nat} {p : Nat → Bool} (hk : k ≤ n) (h : ∀ i, k ≤ i → i < n → p i = false) : sel n p = sel k p := by
  induction n with
  | zero => have : k = 0 := by omega
            subst this; rfl
  | succ n ih =>
    rcases Nat.eq_or_lt_of_le hk with rfl | hlt
    · rfl
    · rw [sel_no (h n (by omega) (by omega)), ih (by omega) (fun i h1 h2 => h i h1 (by omega))]
/-- The set of the numbers below n of which p holds, as bits. -/
def bset : Nat → (Nat → Bool) → Nat
  | 0, _ => 0
  | n + 1, p => if p n then bset n p ||| 2 ^ n else bset n p
theorem bset_lt (p : Nat → Bool) : ∀ n, bset n p < 2 ^ n
  | 0 => by simp [bset]
  | n + 1 => by
    have h := bset_lt p n
    simp only [bset]
    split
    · exact Nat.or_lt_two_pow (by rw [Nat.pow_succ]; omega) (Nat.pow_lt_pow_right (by omega) (by omega))
    · rw [Nat.pow_succ]; omega
theorem bset_bit (p : Nat → Bool) : ∀ n i, (bset n p).testBit i = (decide (i < n) && p i)
  | 0, i => by simp [bset]
  | n + 1, i => by
    simp only [bset]
    by_cases h : p n
    · rw [if_pos h, Nat.testBit_or, bset_bit p n i, Nat.testBit_two_pow]
      by_cases hi : i = n
      · subst hi; simp [h]
      · have : ¬ n = i := fun e => hi e.symm
        simp only [this, decide_false, Bool.or_false]
        congr 1
        simp only [decide_eq_decide]; omega
    · rw [if_neg h, bset_bit p n i]
      by_cases hi : i = n
      · subst hi; simp [h]
      · congr 1
        simp only [decide_eq_decide]; omega
def bits (b : Nat) : List Int := sel 64 (fun i => b.testBit i)
def full (t : Table) : Nat := 2 ^ t.women.length - 1
def rightP (t : Table) (l : List Int) (w : Nat) : Bool := decide ((t.women.getD w default).lo ≤ own l w ∧ (own l w : Int) ≤ (t.women.getD w default).hi)
def right (t : Table) (l : List Int) : Nat := bset t.women.length (rightP t l)
/-- x without the bits of y. -/
def without (x y : Nat) : Nat := x &&& (18446744073709551615 - y)
def isTruth (t : Table) (l : List Int) : Bool := areOwners t l && decide (((bits (without (full t) (right t l))).length : Int) ≤ t.wrong)
def nthTo (t : Table) : Nat → Nat → List Int
  | 0, _ => []
  | k + 1, n => nthTo t k (n / (womenOf t k).length) ++ [(womenOf t k).getD (n % (womenOf t k).length) 0]
def nth (t : Table) (n : Nat) : List Int := nthTo t t.pieces.length n
theorem nthTo_length (t : Table) : ∀ k n, (nthTo t k n).length = k
  | 0, _ => rfl
  | k + 1, n => by simp [nthTo, nthTo_length t k]
theorem nth_length (t : Table) (n : Nat) : (nth t n).length = t.pieces.length := nthTo_length t _ n
def truthsTo (t : Table) (k : Nat) : List (List Int) := ((List.range k).map (nth t)).filter (isTruth t)
def truths (t : Table) : List (List Int) := truthsTo t (many t).toNat
theorem truthsTo_yes {t : Table} {k : Nat} (h : isTruth t (nth t k) = true) : truthsTo t (k + 1) = truthsTo t k ++ [nth t k] := by simp [truthsTo, List.range_succ, h]
theorem truthsTo_no {t : Table} {k : Nat} (h : isTruth t (nth t k) = false) : truthsTo t (k + 1) = truthsTo t k := by simp [truthsTo, List.range_succ, h]
theorem truthsTo_len (t : Table) (k : Nat) : (truthsTo t k).length ≤ k := Nat.le_trans (List.length_filter_le _ _) (by simp)
theorem truths_lens {t : Table} {l : List Int} (h : l ∈ truths t) : l.length = t.pieces.length := by
  obtain ⟨n, _, rfl⟩ := List.mem_map.1 (List.mem_filter.1 h).1
  exact nth_length t n
/-- All of some lists are as long as there are pieces. -/
def Long (t : Table) (all : List (List Int)) : Prop := ∀ i, i < all.length → (all.getD i []).length = t.pieces.length
theorem truths_long (t : Table) : Long t (truths t) := fun i hi => truths_lens (by rw [List.getD_eq_getElem?_getD, List.getElem?_eq_getElem hi]; exact List.getElem_mem hi)
def allTo (t : Table) (k : Nat) : List Int := (List.range k).map fun n => (right t (nth t n) : Int)
def allR (t : Table) : List Int := allTo t (many t).toNat
theorem allTo_succ (t : Table) (k : Nat) : allTo t (k + 1) = allTo t k ++ [(right t (nth t k) : Int)] := by simp [allTo, List.range_succ]
/-- Is there a number below n of which p holds? -/
def ex (n : Nat) (p : Nat → Bool) : Bool := (List.range n).any p
theorem ex_zero (p : Nat → Bool) : ex 0 p = false := rfl
theorem ex_succ (n : Nat) (p : Nat → Bool) : ex (n + 1) p = (ex n p || p n) := by simp [ex, List.range_succ, List.any_append]
theorem ex_iff {n : Nat} {p : Nat → Bool} : ex n p = true ↔ ∃ i, i < n ∧ p i = true := by simp [ex]
theorem ex_no {n : Nat} {p : Nat → Bool} : ex n p = false ↔ ∀ i, i < n → p i = false := by simp [ex]
/-- The greatest of some numbers, and 0. -/
def top : Nat → (Nat → Nat) → Nat
  | 0, _ => 0
  | n + 1, f => max (top n f) (f n)
def whoseIn (all : List (List Int)) (piece w : Nat) : Bool := ex all.length fun i => decide ((all.getD i []).getD piece 0 = w)
def whose (t : Table) (all : List (List Int)) (piece : Nat) : List Int := sel t.women.length (whoseIn all piece)
def doesMiss (t : Table) (l : List Int) (w : Int) : Bool := ex l.length fun i => decide (l.getD i 0 = w) && !decide ((t.pieces.getD i default).bundle = w)
def missing (t : Table) (all : List (List Int)) (w : Int) : Nat := cnt all.length fun i => doesMiss t (all.getD i []) w
def misses (t : Table) (all : List (List Int)) (w : Int) : Int := if missing t all w = all.length then 1 else if missing t all w = 0 then 2 else 3
def leavesAt (all : List (List Int)) (piece w : Nat) : Nat := cnt all.length fun i => decide ((all.getD i []).getD piece 0 = w)
def leaves (t : Table) (all : List (List Int)) (piece : Nat) : Nat := top t.women.length (leavesAt all piece)
theorem top_le {f : Nat → Nat} {b : Nat} (h : ∀ i, f i ≤ b) : ∀ n, top n f ≤ b
  | 0 => Nat.zero_le _
  | n + 1 => Nat.max_le.2 ⟨top_le h n, h n⟩
/-- The first of the least, among the numbers below n + 1. -/
def least (f : Nat → Nat) : Nat → Nat
  | 0 => 0
  | n + 1 => if f (n + 1) < f (least f n) then n + 1 else least f n
def look03 (t : Table) (all : List (List Int)) : Nat × Nat := (least (leaves t all) (t.pieces.length - 1), leaves t all (least (leaves t all) (t.pieces.length - 1)))

def rights (t : Table) : List Nat := (List.range (many t).toNat).map fun n => right t (nth t n)
theorem allR_eq (t : Table) : allR t = (rights t).map Int.ofNat := by simp [allR, allTo, rights]
def can (ns : List Nat) (w : Nat) : Bool := ex ns.length fun i => decide (ns.getD i 0 &&& w = w)
/-- The first number below n of which p does not hold, or n. -/
def fstNo (p : Nat → Bool) : Nat → Nat
  | 0 => 0
  | n + 1 => if fstNo p n < n then fstNo p n else if p n then n + 1 else n
def first03 (t : Table) (ns : List Nat) : Int :=
  if fstNo (fun n => can ns (2 ^ (n + 1) - 1)) t.women.length < t.women.length then (fstNo (fun n => can ns (2 ^ (n + 1) - 1)) t.women.length : Int) else -1
theorem fstNo_all {p : Nat → Bool} {n : Nat} (h : ∀ i, i < n → p i = true) : fstNo p n = n := by
  induction n with
  | zero => rfl
  | succ n ih =>
    simp only [fstNo]
    rw [ih (fun i hi => h i (by omega)), if_neg (Nat.lt_irrefl _), if_pos (h n (by omega))]
theorem fstNo_le (p : Nat → Bool) : ∀ n, fstNo p n ≤ n
  | 0 => Nat.le_refl _
  | n + 1 => by
    have := fstNo_le p n
    simp only [fstNo]
    split <;> (try split) <;> omega
theorem fstNo_at {p : Nat → Bool} {k n : Nat} (hk : k < n) (h : ∀ i, i < k → p i = true) (hp : p k = false) : fstNo p n = k := by
  induction n with
  | zero => omega
  | succ n ih =>
    simp only [fstNo]
    rcases Nat.lt_succ_iff_lt_or_eq.1 hk with h1 | rfl
    · rw [ih h1, if_pos h1]
    · rw [fstNo_all h, if_neg (Nat.lt_irrefl _), if_neg (by simp [hp])]
def before : List Int → List Int → Bool
  | [], b => decide (0 < b.length)
  | _ :: _, [] => false
  | x :: a, y :: b => if x = y then before a b else decide (x < y)
def shorter (a b : List Int) : Bool := decide (a.length < b.length) || (decide (a.length = b.length) && before a b)
def leaveTo (t : Table) (ns : List Nat) : Nat → List Int
  | 0 => bits (full t)
  | k + 1 => if shorter (bits k) (leaveTo t ns k) && can ns (without (full t) k) then bits k else leaveTo t ns k
def leave03 (t : Table) (ns : List Nat) : List Int := leaveTo t ns (full t + 1)
theorem before_drop {a b : List Int} {k : Nat} (h1 : k < a.length) (h2 : k < b.length) (h : a.getD k 0 = b.getD k 0) : before (a.drop k) (b.drop k) = before (a.drop (k + 1)) (b.drop (k + 1)) := by
  rw [List.drop_eq_getElem_cons h1, List.drop_eq_getElem_cons h2]
  simp only [List.getD_eq_getElem?_getD, List.getElem?_eq_getElem h1, List.getElem?_eq_getElem h2, Option.getD_some] at h
  simp only [before, h, if_true]
theorem before_ne {a b : List Int} {k : Nat} (h1 : k < a.length) (h2 : k < b.length) (h : a.getD k 0 ≠ b.getD k 0) : before (a.drop k) (b.drop k) = decide (a.getD k 0 < b.getD k 0) := by
  rw [List.drop_eq_getElem_cons h1, List.drop_eq_getElem_cons h2]
  simp only [List.getD_eq_getElem?_getD, List.getElem?_eq_getElem h1, List.getElem?_eq_getElem h2, Option.getD_some] at h ⊢
  simp only [before, if_neg h]
theorem before_end {a b : List Int} {k : Nat} (h0 : k ≤ a.length) (h1 : k ≤ b.length) (h : ¬ (k < a.length ∧ k < b.length)) : before (a.drop k) (b.drop k) = decide (a.length < b.length) := by
  rcases Nat.lt_or_ge k a.length with h2 | h2
  · have h3 : k = b.length := by omega
    rw [List.drop_eq_getElem_cons h2, List.drop_of_length_le (show b.length ≤ k by omega)]
    simp only [before]
    symm; simp; omega
  · have h3 : k = a.length := by omega
    rw [h3, List.drop_length]
    simp only [before, List.length_drop]
    congr 1
    simp only [eq_iff_iff]; omega

def loB (t : Table) (all : List (List Int)) : Nat → Int
  | 0 => 99
  | k + 1 => min (loB t all k) (astray t (all.getD k [])).length
def hiB (t : Table) (all : List (List Int)) : Nat → Int
  | 0 => -1
  | k + 1 => max (hiB t all k) (astray t (all.getD k [])).length
/-- The best of the first k of some lists, of which the first is one. -/
def bestTo (t : Table) (all : List (List Int)) : Nat → Nat
  | 0 => 0
  | k + 1 => if (astray t (all.getD k [])).length < (astray t (all.getD (bestTo t all k) [])).length then k else bestTo t all k
def fewest (t : Table) (all : List (List Int)) : List Int := all.getD (bestTo t all all.length) []
theorem bestTo_lt (t : Table) {all : List (List Int)} (h : 0 < all.length) : ∀ k, k ≤ all.length → bestTo t all k < all.length
  | 0, _ => h
  | k + 1, hk => by
    simp only [bestTo]
    split
    · omega
    · exact bestTo_lt t h k (by omega)
def womanBad (w : Woman) : Bool := !decide (0 ≤ w.mark ∧ w.mark ≤ 9) || decide (w.lo < 0) || decide (w.hi < w.lo) || decide (7 < w.hi)
def markBad (ms : List Int) (k : Nat) : Bool := !decide (0 ≤ ms.getD k 0 ∧ ms.getD k 0 ≤ 9) || (decide (0 < k) && decide (ms.getD k 0 ≤ ms.getD (k - 1) 0))
def pieceBad (t : Table) (i : Nat) : Bool :=
  ex (t.pieces.getD i default).marks.length (markBad (t.pieces.getD i default).marks) || !decide (0 ≤ (t.pieces.getD i default).bundle ∧ (t.pieces.getD i default).bundle ≤ (t.women.length : Int) - 1) || decide ((womenOf t i).length = 0)
def fault (t : Table) : Int :=
  if 5 < t.women.length ∨ 7 < t.pieces.length then 3
  else if ¬ (0 ≤ t.wrong ∧ t.wrong ≤ 5) then 1
  else if ex t.women.length (fun w => womanBad (t.women.getD w default)) = true then 1
  else if ex t.pieces.length (pieceBad t) = true then 1
  else if 2000 < many t then 3 else 0

/-- Tables that are valid. -/
structure Valid (t : Table) : Prop where
  women : t.women.length ≤ 5
  pieces : t.pieces.length ≤ 7
  wrong : 0 ≤ t.wrong ∧ t.wrong ≤ 5
  woman : ∀ i, i < t.women.length → womanBad (t.women.getD i default) = false
  piece : ∀ i, i < t.pieces.length → pieceBad t i = false
  many : many t ≤ 2000
theorem fault_zero {t : Table} : fault t = 0 ↔ Valid t := by
  unfold fault
  constructor
  · intro h
    split at h
    · cases h
    rename_i h1
    split at h
    · cases h
    rename_i h2
    split at h
    · cases h
    rename_i h3
    split at h
    · cases h
    rename_i h4
    split at h
    · cases h
    rename_i h5
    exact ⟨by omega, by omega, by omega, ex_no.1 (by simpa using h3), ex_no.1 (by simpa using h4), by omega⟩
  · intro h
    obtain ⟨h1, h2, h3, h4, h5, h6⟩ := h
    rw [if_neg (by omega), if_neg (by omega), if_neg (by rw [ex_no.2 h4]; simp), if_neg (by rw [ex_no.2 h5]; simp), if_neg (by omega)]
theorem Valid.owned {t : Table} (h : Valid t) : ∀ i, i < t.pieces.length → 0 < (womenOf t i).length := fun i hi => by
  have := h.piece i hi
  simp only [pieceBad, Bool.or_eq_false_iff, decide_eq_false_iff_not] at this
  omega
def sureE (t : Table) : Int := if fault t = 0 then (if truths t = [] then 11 else 0) else fault t
def sureL (t : Table) : List (List Int) := if fault t = 0 then truths t else []
def threeT (first last wrong : Int) : Table := ⟨[⟨1, first, first⟩, ⟨1, 1, 2⟩, ⟨2, last, last⟩], [⟨[1], 0⟩, ⟨[1, 2], 0⟩, ⟨[1], 1⟩, ⟨[2], 1⟩], wrong⟩

end Go.Proofs.Ytgolpbkapphciaa
