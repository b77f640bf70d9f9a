/- The plain law of chapter 3, on: tables that differ in their counts. -/
import Derived.Test.YtgolpbkapphciaaT36
import Derived.Test.YtgolpbkapphciaaP9
namespace Go.Proofs.Ytgolpbkapphciaa
open Go Go.Eng Go.RowKit

/-- Tables with the same marks. -/
structure Same (t x : Table) : Prop where
  women : x.women.length = t.women.length
  pieces : x.pieces.length = t.pieces.length
  mark : ∀ i, i < t.women.length → (x.women.getD i default).mark = (t.women.getD i default).mark
  marks : ∀ i, (x.pieces.getD i default).marks = (t.pieces.getD i default).marks
theorem Same.of {t x : Table} (h : Same t x) (p : Nat) : womenOf x p = womenOf t p := by
  unfold womenOf
  rw [h.women]
  refine sel_congr fun i hi => ?_
  rw [h.mark i hi, h.marks p]
theorem Same.tails {t x : Table} (h : Same t x) : ∀ r, tails x r = tails t r
  | 0 => rfl
  | r + 1 => by simp only [Go.Proofs.Ytgolpbkapphciaa.tails]; rw [h.pieces, h.of, h.tails r]
theorem Same.all {t x : Table} (h : Same t x) : allOwners x = allOwners t := by unfold allOwners; rw [h.pieces, h.tails]
theorem Same.manyTo {t x : Table} (h : Same t x) (k : Nat) : manyTo x k = manyTo t k := by
  unfold Go.Proofs.Ytgolpbkapphciaa.manyTo
  simp only [h.of]
theorem Same.many {t x : Table} (h : Same t x) : many x = many t := by unfold Go.Proofs.Ytgolpbkapphciaa.many; rw [h.pieces, h.manyTo]
theorem Same.bad {t x : Table} (h : Same t x) (i : Nat) (hb : (x.pieces.getD i default).bundle = (t.pieces.getD i default).bundle) : pieceBad x i = pieceBad t i := by
  unfold pieceBad; rw [h.marks, hb, h.women, h.of]
theorem own_le (l : List Int) (w : Int) : own l w ≤ l.length := by
  unfold own cnt
  exact Nat.le_trans List.countP_le_length (by simp)
theorem womanBad_iff {w : Woman} : womanBad w = false ↔ (0 ≤ w.mark ∧ w.mark ≤ 9) ∧ 0 ≤ w.lo ∧ w.lo ≤ w.hi ∧ w.hi ≤ 7 := by
  unfold womanBad
  simp only [Bool.or_eq_false_iff, Bool.not_eq_false', decide_eq_true_eq, decide_eq_false_iff_not]
  omega
theorem someT_same (t : Table) (b : Nat) : Same t (someT t b) := by
  refine ⟨someTo_len _ _ _, rfl, fun i hi => ?_, fun _ => rfl⟩
  show ((someTo t b t.women.length).getD i default).mark = _
  rw [someTo_get hi, if_pos hi]
  unfold someW; split <;> rfl
theorem someT_valid {t : Table} (hV : Valid t) (b : Nat) : Valid (someT t b) := by
  have hS := someT_same t b
  refine ⟨by rw [hS.women]; exact hV.women, hV.pieces, ⟨Int.le_refl _, by show (0 : Int) ≤ 5; omega⟩, fun i hi => ?_, fun i hi => ?_, by rw [hS.many]; exact hV.many⟩
  · rw [hS.women] at hi
    show womanBad ((someTo t b t.women.length).getD i default) = false
    rw [someTo_get hi, if_pos hi]
    have h1 := hV.woman i hi
    unfold someW
    split
    · exact h1
    · rw [womanBad_iff] at h1 ⊢
      exact ⟨h1.1, Int.le_refl _, by show (0 : Int) ≤ 7; omega, Int.le_refl _⟩
  · rw [hS.bad i rfl]; exact hV.piece i hi
theorem someT_right {t : Table} {b : Nat} {l : List Int} {w : Nat} (hw : w < t.women.length) (hl : l.length ≤ 7) : rightP (someT t b) l w = (!b.testBit w || rightP t l w) := by
  have h7 := own_le l w
  unfold rightP
  show decide (((someTo t b t.women.length).getD w default).lo ≤ _ ∧ _ ≤ ((someTo t b t.women.length).getD w default).hi) = _
  rw [someTo_get hw, if_pos hw]
  unfold someW
  split
  · rename_i h; simp [h]
  · rename_i h
    rw [show b.testBit w = false by simpa using h]
    simp only [Bool.not_false, Bool.true_or, decide_eq_true_eq]
    exact ⟨Int.natCast_nonneg _, by show (own l w : Int) ≤ 7; omega⟩
theorem zero_truth {t : Table} (h0 : t.wrong = 0) (l : List Int) : isTruthP t l = true ↔ ∀ i : Nat, i < t.women.length → rightP t l i = true := by
  unfold isTruthP
  rw [h0, decide_eq_true_eq]
  constructor
  · intro h i hi
    cases hr : rightP t l i with
    | true => rfl
    | false =>
      have hm : (i : Int) ∈ wrongP t l := mem_wrongP.2 ⟨i, hi, hr, rfl⟩
      have := List.length_pos_of_mem hm
      omega
  · intro h
    have : wrongP t l = [] := by
      cases e : wrongP t l with
      | nil => rfl
      | cons a s =>
        obtain ⟨i, hi, hr, _⟩ := mem_wrongP.1 (show a ∈ wrongP t l by rw [e]; exact .head _)
        rw [h i hi] at hr; cases hr
    rw [this]; exact Int.le_refl _
theorem askE_nil {t : Table} (hV : Valid t) : askE t = if ask t = [] then 11 else 0 := by
  unfold askE; rw [if_pos (fault_zero.2 hV)]
theorem ask_nil {t : Table} : ask t = [] ↔ ∀ l ∈ allOwners t, isTruthP t l = false := by
  unfold ask
  rw [List.filter_eq_nil_iff]
  constructor
  · intro h l hl; simpa using h l hl
  · intro h l hl; simpa using h l hl
/-- The counts of some women alone are held. -/
theorem askE_some {t : Table} (hV : Valid t) {b : Nat} {out : List Int} (ho : ∀ i : Nat, i < t.women.length → ((i : Int) ∈ out ↔ b.testBit i = false)) : askE (someT t b) = if possibleB t out = true then 0 else 11 := by
  have hS := someT_same t b
  rw [askE_nil (someT_valid hV b)]
  have key : (ask (someT t b) = []) ↔ possibleB t out = false := by
    rw [ask_nil, ← Bool.not_eq_true, possible_iff, hS.all]
    constructor
    · rintro h ⟨l, hl, hr⟩
      have h1 := h l hl
      have hl7 : l.length ≤ 7 := by rw [(areOwners_iff.1 (allOwners_are hl)).1]; exact hV.pieces
      rw [Bool.eq_false_iff] at h1
      refine h1 ((zero_truth rfl l).2 fun i hi => ?_)
      rw [hS.women] at hi
      rw [someT_right hi hl7]
      cases hb : b.testBit i with
      | false => rfl
      | true =>
        cases hrr : rightP t l i with
        | true => rfl
        | false => have := (ho i hi).1 (rightBut_iff.1 hr i hi hrr); rw [hb] at this; cases this
    · intro h l hl
      rw [Bool.eq_false_iff]
      intro hc
      have hl7 : l.length ≤ 7 := by rw [(areOwners_iff.1 (allOwners_are hl)).1]; exact hV.pieces
      refine h ⟨l, hl, rightBut_iff.2 fun i hi hr => (ho i hi).2 ?_⟩
      have := (zero_truth rfl l).1 hc i (by rw [hS.women]; exact hi)
      rw [someT_right hi hl7, hr] at this
      simpa using this
  by_cases h : possibleB t out = true
  · rw [if_pos h, if_neg (fun e => by rw [key.1 e] at h; cases h)]
  · rw [if_neg h, if_pos (key.2 (by simpa using h))]
theorem fstNo_spec {p : Nat → Bool} : ∀ n, (∀ i, i < fstNo p n → p i = true) ∧ (fstNo p n < n → p (fstNo p n) = false)
  | 0 => ⟨fun _ h => absurd h (Nat.not_lt_zero _), fun h => absurd h (Nat.not_lt_zero _)⟩
  | n + 1 => by
    have ih := fstNo_spec (p := p) n
    have hle := fstNo_le p n
    simp only [fstNo]
    split
    · rename_i h; exact ⟨ih.1, fun _ => ih.2 h⟩
    · rename_i h
      have e : fstNo p n = n := by omega
      rw [e] at ih
      split
      · rename_i hp
        refine ⟨fun i hi => ?_, fun h => absurd h (Nat.lt_irrefl _)⟩
        rcases Nat.lt_succ_iff_lt_or_eq.1 hi with h1 | rfl
        · exact ih.1 i h1
        · exact hp
      · rename_i hp; exact ⟨ih.1, fun _ => by simpa using hp⟩
theorem upto_drop_mem' {n k i : Nat} (hi : i < n) : (i : Int) ∈ (upto n).drop k ↔ k ≤ i := by
  cases k with
  | succ k => exact upto_drop_mem hi
  | zero =>
    rw [List.drop_zero]
    exact ⟨fun _ => Nat.zero_le _, fun _ => by unfold upto; exact mem_sel.2 ⟨i, hi, rfl, rfl⟩⟩
theorem askE_first {t : Table} (hV : Valid t) (n : Nat) : askE (someT t (2 ^ n - 1)) = if possibleB t ((upto t.women.length).drop n) = true then 0 else 11 :=
  askE_some hV fun i hi => by
    rw [upto_drop_mem' hi, testBit_full]
    simp
theorem first_right {t : Table} (hV : Valid t) {n : Nat} (h : ∀ i, i < n → firstQ t i = true) : possibleB t ((upto t.women.length).drop n) = true := by
  cases n with
  | succ n => exact h n (Nat.lt_succ_self n)
  | zero =>
    obtain ⟨l, hl⟩ := owners_some hV
    refine possible_iff.2 ⟨l, hl, rightBut_iff.2 fun i hi _ => ?_⟩
    exact (upto_drop_mem' hi).2 (Nat.zero_le _)
end Go.Proofs.Ytgolpbkapphciaa
