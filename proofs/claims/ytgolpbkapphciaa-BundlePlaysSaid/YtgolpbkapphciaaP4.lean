/- Plain law: the truths that the program finds are those of the reference, in their order. -/
import Derived.Test.YtgolpbkapphciaaP3
namespace Go.Proofs.Ytgolpbkapphciaa
open Go Go.Eng Go.RowKit

def prodTo (t : Table) (k : Nat) : Nat := (List.range k).foldl (fun n i => n * (womenOf t i).length) 1
theorem prodTo_succ (t : Table) (k : Nat) : prodTo t (k + 1) = prodTo t k * (womenOf t k).length := by simp [prodTo, List.range_succ, List.foldl_append]
theorem manyTo_prod (t : Table) : ∀ k, manyTo t k = min 3000 (prodTo t k : Int)
  | 0 => by simp only [manyTo, prodTo, List.range_zero, List.foldl_nil]; omega
  | k + 1 => by
    rw [manyTo_succ, manyTo_prod t k, prodTo_succ]
    generalize prodTo t k = a
    generalize (womenOf t k).length = b
    rw [Int.natCast_mul]
    rcases Nat.lt_or_ge a 3000 with h | h
    · rw [Int.min_eq_right (show (a : Int) ≤ 3000 by omega)]
    · rw [Int.min_eq_left (show (3000 : Int) ≤ a by omega)]
      rcases Nat.eq_zero_or_pos b with rfl | hb
      · simp only [Int.ofNat_zero, Int.mul_zero]
      · have h1 : 3000 * 1 ≤ 3000 * (b : Int) := Int.mul_le_mul_of_nonneg_left (by omega) (by omega)
        have h2 : 3000 * (b : Int) ≤ (a : Int) * b := Int.mul_le_mul_of_nonneg_right (by omega) (by omega)
        omega
theorem tails_prod (t : Table) : ∀ r, r ≤ t.pieces.length → prodTo t (t.pieces.length - r) * (tails t r).length = prodTo t t.pieces.length
  | 0, _ => by simp [tails]
  | r + 1, hr => by
    rw [← tails_prod t r (by omega), tails_len, show t.pieces.length - r = (t.pieces.length - (r + 1)) + 1 by omega, prodTo_succ, Nat.mul_assoc]
theorem allOwners_prod (t : Table) : (allOwners t).length = prodTo t t.pieces.length := by
  have := tails_prod t t.pieces.length (Nat.le_refl _)
  simpa [allOwners, prodTo] using this
theorem allOwners_many {t : Table} (h : many t ≤ 2000) : (allOwners t).length = (many t).toNat ∧ (allOwners t).length ≤ 2000 := by
  unfold many at *
  rw [manyTo_prod] at *
  rw [allOwners_prod]
  omega
theorem nthTo_tails (t : Table) : ∀ r, r ≤ t.pieces.length → ∀ n, (∀ i, i < t.pieces.length → 0 < (womenOf t i).length) → n < (tails t r).length * prodTo t (t.pieces.length - r) →
    nthTo t t.pieces.length n = nthTo t (t.pieces.length - r) (n / (tails t r).length) ++ (tails t r).getD (n % (tails t r).length) []
  | 0, _, n, _, _ => by simp [tails, Nat.mod_one]
  | r + 1, hr, n, ho, hn => by
    have hl := tails_len t r
    have e : t.pieces.length - r = (t.pieces.length - (r + 1)) + 1 := by omega
    have hn' : n < (tails t r).length * prodTo t (t.pieces.length - r) := by
      rw [e, prodTo_succ]
      calc n < (tails t (r + 1)).length * prodTo t (t.pieces.length - (r + 1)) := hn
        _ = _ := by rw [hl, Nat.mul_comm (womenOf t _).length, Nat.mul_assoc, Nat.mul_comm (womenOf t _).length]
    rw [nthTo_tails t r (by omega) n ho hn', e]
    simp only [nthTo]
    have hT : 0 < (tails t r).length := by
      rcases Nat.eq_zero_or_pos (tails t r).length with h0 | h0
      · rw [h0] at hn'; simp at hn'
      · exact h0
    have hw := ho (t.pieces.length - (r + 1)) (by omega)
    have hj : n / (tails t r).length % (womenOf t (t.pieces.length - (r + 1))).length < (womenOf t (t.pieces.length - (r + 1))).length := Nat.mod_lt _ hw
    have hi : n % (tails t r).length < (tails t r).length := Nat.mod_lt _ hT
    have hg := tails_get (t := t) hj hi
    have hmod : n % (tails t (r + 1)).length = n / (tails t r).length % (womenOf t (t.pieces.length - (r + 1))).length * (tails t r).length + n % (tails t r).length := by
      rw [hl, Nat.mul_comm (womenOf t _).length, Nat.mod_mul, Nat.mul_comm, Nat.add_comm]
    rw [← hmod] at hg
    rw [hg, hl, Nat.mul_comm (womenOf t _).length, Nat.div_div_eq_div_mul, List.append_assoc]
    rfl
theorem allOwners_nth {t : Table} (ho : ∀ i, i < t.pieces.length → 0 < (womenOf t i).length) {n : Nat} (hn : n < (allOwners t).length) : (allOwners t).getD n [] = nth t n := by
  have := nthTo_tails t t.pieces.length (Nat.le_refl _) n ho (by rw [Nat.sub_self]; simpa [prodTo, allOwners] using hn)
  unfold nth
  rw [this]
  simp only [Nat.sub_self, nthTo, List.nil_append]
  show _ = (allOwners t).getD (n % (allOwners t).length) []
  rw [Nat.mod_eq_of_lt hn]
theorem map_range_getD {α : Type} (l : List α) (d : α) : (List.range l.length).map (fun i => l.getD i d) = l := by
  apply List.ext_getElem
  · simp
  · intro i h1 h2
    simp [List.getD_eq_getElem?_getD, List.getElem?_eq_getElem h2]
theorem allOwners_eq {t : Table} (h : Valid t) : allOwners t = (List.range (many t).toNat).map (nth t) := by
  rw [← (allOwners_many h.many).1]
  conv => lhs; rw [← map_range_getD (allOwners t) []]
  apply List.map_congr_left
  intro n hn
  exact allOwners_nth h.owned (List.mem_range.1 hn)

theorem sel_pairwise (n : Nat) (p : Nat → Bool) : (sel n p).Pairwise (· < ·) := by
  unfold sel
  rw [List.pairwise_map]
  exact (List.Pairwise.filter p List.pairwise_lt_range).imp (fun {a b} h => by show (a : Int) < b; omega)
theorem before_irrefl : ∀ l : List Int, before l l = false
  | [] => rfl
  | x :: l => by simp [before, before_irrefl l]
theorem tails_pairwise (t : Table) : ∀ r, (tails t r).Pairwise (fun a b => before a b = true)
  | 0 => by simp [tails]
  | r + 1 => by
    simp only [tails]
    rw [List.pairwise_flatMap]
    refine ⟨fun w _ => ?_, ?_⟩
    · rw [List.pairwise_map]
      exact (tails_pairwise t r).imp (fun {a b} h => by simpa [before] using h)
    · refine (sel_pairwise _ _).imp (fun {a b} hab => ?_)
      intro x hx y hy
      obtain ⟨x', _, rfl⟩ := List.mem_map.1 hx
      obtain ⟨y', _, rfl⟩ := List.mem_map.1 hy
      have : a ≠ b := by omega
      simp [before, this, hab]
theorem allOwners_pairwise (t : Table) : (allOwners t).Pairwise (fun a b => before a b = true) := tails_pairwise t _

/-! ### Wrong counts -/
theorem testBit_full (k i : Nat) : (2 ^ k - 1).testBit i = decide (i < k) := Nat.testBit_two_pow_sub_one k i
theorem testBit_neg {x i : Nat} (hx : x < 2 ^ 64) (hi : i < 64) : (18446744073709551615 - x).testBit i = !x.testBit i := by
  have := Nat.testBit_two_pow_sub_succ hx i
  rw [show 2 ^ 64 - (x + 1) = 18446744073709551615 - x by omega] at this
  rw [this]; simp [hi]
theorem without_bit {x y i : Nat} (hy : y < 2 ^ 64) (hi : i < 64) : (without x y).testBit i = (x.testBit i && !y.testBit i) := by
  unfold without
  rw [Nat.testBit_and, testBit_neg hy hi]
theorem right_lt {t : Table} (h : t.women.length ≤ 50) (l : List Int) : right t l < 2 ^ 64 := Nat.lt_of_lt_of_le (bset_lt _ _) (Nat.pow_le_pow_right (by omega) (by omega))
theorem bits_wrong {t : Table} (h : t.women.length ≤ 50) (l : List Int) : bits (without (full t) (right t l)) = wrongP t l := by
  have e : bits (without (full t) (right t l)) = sel 64 fun i => decide (i < t.women.length) && !rightP t l i := by
    refine sel_congr fun i hi => ?_
    rw [without_bit (right_lt h l) hi]
    unfold full right
    rw [testBit_full, bset_bit]
    by_cases h1 : i < t.women.length <;> simp [h1]
  rw [e, sel_stop (k := t.women.length) (by omega) (fun i h1 _ => by simp; omega)]
  exact sel_congr fun i hi => by simp [hi]
def isTruthP (t : Table) (l : List Int) : Bool := decide (((wrongP t l).length : Int) ≤ t.wrong)
theorem isTruth_eq {t : Table} (h : t.women.length ≤ 50) (l : List Int) : isTruth t l = (areOwners t l && isTruthP t l) := by unfold isTruth isTruthP; rw [bits_wrong h]
/-- The program's truths among the first k owners. -/
def askTo (t : Table) (k : Nat) : List (List Int) := ((allOwners t).take k).filter (isTruthP t)
def ask (t : Table) : List (List Int) := (allOwners t).filter (isTruthP t)
theorem askTo_all {t : Table} {k : Nat} (h : (allOwners t).length ≤ k) : askTo t k = ask t := by unfold askTo ask; rw [List.take_of_length_le h]
theorem take_succ_getD {α : Type} {l : List α} {k : Nat} {d : α} (h : k < l.length) : l.take (k + 1) = l.take k ++ [l.getD k d] := by
  rw [List.take_add_one, List.getElem?_eq_getElem h]
  simp [List.getD_eq_getElem?_getD, List.getElem?_eq_getElem h]
theorem askTo_yes {t : Table} {k : Nat} (hk : k < (allOwners t).length) (h : isTruthP t ((allOwners t).getD k []) = true) : askTo t (k + 1) = askTo t k ++ [(allOwners t).getD k []] := by
  unfold askTo; rw [take_succ_getD (d := []) hk, List.filter_append]; simp [h, -List.getD_eq_getElem?_getD]
theorem askTo_no {t : Table} {k : Nat} (hk : k < (allOwners t).length) (h : isTruthP t ((allOwners t).getD k []) = false) : askTo t (k + 1) = askTo t k := by
  unfold askTo; rw [take_succ_getD (d := []) hk, List.filter_append]; simp [h, -List.getD_eq_getElem?_getD]
theorem ask_mem {t : Table} {k : Nat} {l : List Int} (h : l ∈ askTo t k) : l ∈ (allOwners t).take k ∧ areOwners t l = true := by
  have := (List.mem_filter.1 h).1
  exact ⟨this, allOwners_are (List.mem_of_mem_take this)⟩
theorem askTo_fresh {t : Table} {k : Nat} (hk : k < (allOwners t).length) {l : List Int} (h : l ∈ askTo t k) : l ≠ (allOwners t).getD k [] := by
  have h1 := (ask_mem h).1
  obtain ⟨j, hj, rfl⟩ := List.mem_iff_getElem.1 h1
  simp only [List.length_take] at hj
  have hp := List.pairwise_iff_getElem.1 (allOwners_pairwise t) j k (by omega) hk (by omega)
  intro e
  rw [List.getElem_take, List.getD_eq_getElem?_getD, List.getElem?_eq_getElem hk] at e
  simp only [Option.getD_some] at e
  rw [e, before_irrefl] at hp
  cases hp
theorem askTo_len (t : Table) (k : Nat) : (askTo t k).length ≤ (allOwners t).length :=
  Nat.le_trans (List.length_filter_le _ _) (by simp; omega)
theorem ask_truths {t : Table} (h : Valid t) : ask t = truths t := by
  unfold ask truths truthsTo
  rw [← allOwners_eq h]
  refine List.filter_congr fun l hl => ?_
  rw [isTruth_eq (by have := h.women; omega), allOwners_are hl]
  simp
theorem ask_are {t : Table} {l : List Int} (h : l ∈ ask t) : areOwners t l = true := allOwners_are (List.mem_filter.1 h).1

/-! ### The counts of spots -/
def cntQ (trs : List (List Int)) (p w : Int) : Nat := trs.countP fun l => decide (0 ≤ p ∧ p < l.length ∧ l.getD p.toNat 0 = w)
def manyG (trs : List (List Int)) : List Int → Value
  | [p, w] => vi (cntQ trs p w)
  | _ => vi 0
theorem cntQ_le (trs : List (List Int)) (p w : Int) : cntQ trs p w ≤ trs.length := List.countP_le_length ..
theorem cntQ_snoc (trs : List (List Int)) (x : List Int) (p w : Int) : cntQ (trs ++ [x]) p w = cntQ trs p w + if 0 ≤ p ∧ p < x.length ∧ x.getD p.toNat 0 = w then 1 else 0 := by
  simp only [cntQ, List.countP_append, List.countP_cons, List.countP_nil, decide_eq_true_eq, Nat.zero_add]
theorem manyG_nil (trs : List (List Int)) (x : List Int) : manyG (trs ++ [[]]) x = manyG trs x := by
  unfold manyG
  split
  · rename_i p w
    rw [cntQ_snoc, if_neg (by simp; omega)]; rfl
  · rfl
theorem manyG_step (trs : List (List Int)) (l : List Int) {i : Nat} (hi : i < l.length) (x : List Int) :
    upd (manyG (trs ++ [l.take i])) [(i : Int), l.getD i 0] (vi ((cntQ (trs ++ [l.take i]) i (l.getD i 0) : Int) + 1)) x = manyG (trs ++ [l.take (i + 1)]) x := by
  have e : l.take (i + 1) = l.take i ++ [l.getD i 0] := take_succ_getD hi
  have hl : (l.take i).length = i := by simp; omega
  have hl1 : (l.take (i + 1)).length = i + 1 := by simp; omega
  unfold upd
  split
  · rename_i hx
    subst hx
    simp only [manyG, cntQ_snoc]
    rw [if_neg (by omega), if_pos]
    · simp
    · refine ⟨by omega, by omega, ?_⟩
      simp [e, hl, List.getD_eq_getElem?_getD]
  · rename_i hx
    unfold manyG
    split
    · rename_i p w
      rw [cntQ_snoc, cntQ_snoc]
      congr 3
      by_cases hp : 0 ≤ p ∧ p < i
      · have : (l.take (i + 1)).getD p.toNat 0 = (l.take i).getD p.toNat 0 := by
          rw [e]; simp only [List.getD_eq_getElem?_getD]; rw [List.getElem?_append_left (by omega)]
        rw [this]
        simp only [hl, hl1]
        congr 1
        simp only [eq_iff_iff]
        constructor <;> (rintro ⟨a, b, c⟩; exact ⟨a, by omega, c⟩)
      · rw [if_neg (by omega), if_neg]
        rintro ⟨a, b, c⟩
        have hpi : p = i := by omega
        subst hpi
        refine hx ?_
        rw [← c, e]
        simp [hl, List.getD_eq_getElem?_getD]
    · rfl
end Go.Proofs.Ytgolpbkapphciaa
