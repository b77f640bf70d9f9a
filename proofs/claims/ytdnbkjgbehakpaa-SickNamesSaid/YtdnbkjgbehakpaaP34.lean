/- Chapter 6: the chapter's examples, reckoned. -/
import Derived.Test.YtdnbkjgbehakpaaT126
namespace Go.Proofs.Ytdnbkjgbehakpaa
open Go Go.Eng Go.RowKit

/-- The house of the examples, with some of its signs. -/
def tubH (n : Nat) : House := ⟨⟨[⟨1, 2, 2⟩, ⟨1, 1, 2⟩, ⟨2, 1, 1⟩], [⟨[1], 0⟩, ⟨[1, 2], 0⟩, ⟨[1], 1⟩, ⟨[2], 1⟩], 0⟩, [2], 1, 2, [⟨3, 4, 0, 1⟩, ⟨4, 0, 0, 1⟩, ⟨0, 1, 2, 2⟩], [], [⟨0, false⟩, ⟨1, true⟩].take n⟩
def passH (a b : Int) : Course := ⟨[0, 0, 1, 2], [a, b, 2]⟩
theorem tubH_sm (n : Nat) (h : n ≤ 2) : SmH (tubH n) := ⟨⟨by simp [tubH], by simp [tubH], fun i hi => by
  have h4 : i < 4 := hi
  match i, h4 with
  | 0, _ => simp [tubH]
  | 1, _ => simp [tubH]
  | 2, _ => simp [tubH]
  | 3, _ => simp [tubH]⟩, by simp [tubH], by simp [tubH], by simp [tubH], by show (List.take n [⟨0, false⟩, ⟨1, true⟩] : List Sign).length ≤ 20; rw [List.length_take]; simp; omega⟩
theorem ex6_play : play6E (tubH 0) (passH 1 0) = 0 ∧ bits (lastN (tubH 0) (passH 1 0) []) = [3, 4] := by decide +kernel
theorem ex6_askE : ask6E (tubH 0) true = 0 ∧ ask6E (tubH 0) (isHour (tubH 0) 1) = 0 ∧ ask6E (tubH 1) (isHour (tubH 1) 1) = 0 := by decide +kernel
theorem ex6_carry : carry6 (tubH 0) = [3, 3, 2, 1, 1] := by decide +kernel
theorem ex6_whose : whose6 (tubH 0) = [0, 1] := by decide +kernel
theorem ex6_boil : boil6 (tubH 0) 1 = some [0, 3, 4] := by decide +kernel
theorem ex6_order : order6 (tubH 0) 1 = some [0, 0] := by decide +kernel
theorem ex6_none : boil6 (tubH 1) 1 = some [] := by decide +kernel
theorem ex6_first : first6V (tubH 2) = (1, 0) := by decide +kernel
theorem ex6_leave : fault6 (tubH 2) = 0 ∧ leave6 (tubH 2) = some [0] := by decide +kernel
theorem ex6_ordE : ordE (tubH 0) 1 = 0 := by
  unfold ordE
  rw [ex6_order, ex6_askE.2.1]; rfl
end Go.Proofs.Ytdnbkjgbehakpaa
