/- Chapter 6: what SickNames reckons. -/
import Derived.Test.YtdnbkjgbehakpaaP34
import Derived.Test.YtdnbkjgbehakpaaP39
namespace Go.Proofs.Ytdnbkjgbehakpaa
open Go Go.Eng Go.RowKit

def nBoiled : House := ⟨(tubH 0).table, (tubH 0).sick, (tubH 0).others, (tubH 0).last, (tubH 0).touches, [⟨3, 0⟩], (tubH 0).signs⟩
def nBoth : House := ⟨(tubH 0).table, [1, 2], (tubH 0).others, (tubH 0).last, (tubH 0).touches, [⟨3, 0⟩], (tubH 0).signs⟩
def nLate : House := ⟨(tubH 0).table, (tubH 0).sick, (tubH 0).others, (tubH 0).last, (tubH 0).touches ++ [⟨3, 2, 2, 2⟩, ⟨3, 1, 2, 2⟩], (tubH 0).boiled, (tubH 0).signs⟩
def nLast : House := ⟨(tubH 0).table, (tubH 0).sick, (tubH 0).others, 6, (tubH 0).touches, (tubH 0).boiled, (tubH 0).signs⟩
def nOthers : House := ⟨(tubH 0).table, (tubH 0).sick, 7, (tubH 0).last, (tubH 0).touches, (tubH 0).boiled, (tubH 0).signs⟩
def nTable : House := ⟨⟨[⟨1, 2, 2⟩, ⟨1, 1, 2⟩, ⟨2, 2, 2⟩], (tubH 0).table.pieces, 0⟩, (tubH 0).sick, (tubH 0).others, (tubH 0).last, (tubH 0).touches, (tubH 0).boiled, (tubH 0).signs⟩
def nWomen : House := ⟨(tubH 0).table, [3], (tubH 0).others, (tubH 0).last, (tubH 0).touches, (tubH 0).boiled, (tubH 0).signs⟩
def nTouch : House := ⟨(tubH 0).table, (tubH 0).sick, (tubH 0).others, (tubH 0).last, [⟨3, 4, 0, 3⟩, ⟨4, 0, 0, 1⟩, ⟨0, 1, 2, 2⟩], (tubH 0).boiled, (tubH 0).signs⟩
def nSelf : House := ⟨(tubH 0).table, (tubH 0).sick, (tubH 0).others, (tubH 0).last, [⟨3, 3, 0, 1⟩, ⟨4, 0, 0, 1⟩, ⟨0, 1, 2, 2⟩], (tubH 0).boiled, (tubH 0).signs⟩
def nBoil : House := ⟨(tubH 0).table, (tubH 0).sick, (tubH 0).others, (tubH 0).last, (tubH 0).touches, [⟨5, 0⟩], (tubH 0).signs⟩
def nSign : House := ⟨(tubH 1).table, (tubH 1).sick, (tubH 1).others, (tubH 1).last, (tubH 1).touches, (tubH 1).boiled, [⟨5, false⟩]⟩
def nMany : House := ⟨(tubH 0).table, (tubH 0).sick, (tubH 0).others, (tubH 0).last, List.replicate 7 ⟨0, 0, 0, 0⟩, (tubH 0).boiled, (tubH 0).signs⟩
def nNone : House := ⟨⟨[], [], 0⟩, [], 0, 0, [], [], []⟩
theorem n_sm {x : House} (h1 : x.table = (tubH 0).table) (h2 : x.sick.length ≤ 20) (h3 : x.touches.length ≤ 20) (h4 : x.boiled.length ≤ 20) (h5 : x.signs.length ≤ 20) : SmH x := ⟨by rw [h1]; exact (tubH_sm 0 (by omega)).table, h2, h3, h4, h5⟩
theorem nTable_sm : SmH nTable := ⟨⟨by simp [nTable], (tubH_sm 0 (by omega)).table.2.1, (tubH_sm 0 (by omega)).table.2.2⟩, by simp [nTable, tubH], by simp [nTable, tubH], by simp [nTable, tubH], by simp [nTable, tubH]⟩
theorem nNone_sm : SmH nNone := ⟨⟨by simp [nNone], by simp [nNone], fun i hi => absurd hi (Nat.not_lt_zero _)⟩, by simp [nNone], by simp [nNone], by simp [nNone], by simp [nNone]⟩
theorem nf_play1 : play6E (tubH 0) (passH 0 1) = 0 ∧ bits (lastN (tubH 0) (passH 0 1) []) = [0, 1, 3, 4] := by decide +kernel
theorem nf_play2 : play6E (tubH 0) (passH 1 1) = 0 ∧ bits (lastN (tubH 0) (passH 1 1) []) = [0, 1, 3, 4] := by decide +kernel
theorem nf_play3 : play6E (tubH 0) (passH 0 2) = 2 := by decide +kernel
theorem nf_boilE0 : ask6E (tubH 0) (isHour (tubH 0) 0) = 0 := by decide +kernel
theorem nf_boil0 : boil6 (tubH 0) 0 = some [3] := by decide +kernel
theorem nf_boilE2 : ask6E (tubH 0) (isHour (tubH 0) 2) = 0 := by decide +kernel
theorem nf_boil2 : boil6 (tubH 0) 2 = some [0] := by decide +kernel
theorem nf_ord0 : order6 (tubH 0) 0 = some [3] := by decide +kernel
theorem nf_ord2 : order6 (tubH 0) 2 = some [0] := by decide +kernel
theorem nf_ordE0 : ordE (tubH 0) 0 = 0 := by unfold ordE; rw [nf_ord0, nf_boilE0]; rfl
theorem nf_ordE2 : ordE (tubH 0) 2 = 0 := by unfold ordE; rw [nf_ord2, nf_boilE2]; rfl
theorem nf_carry : ask6E (tubH 1) true = 0 ∧ carry6 (tubH 1) = [2, 2, 2, 1, 1] := by decide +kernel
theorem nf_boiled : ask6E nBoiled true = 0 ∧ whose6 nBoiled = [] := by decide +kernel
theorem nf_both : ask6E nBoth true = 0 ∧ whose6 nBoth = [0] := by decide +kernel
theorem nf_first : first6V (tubH 1) = (0, 7) := by decide +kernel
theorem nf_true1 : truth6B (tubH 1) (passH 1 0) = true := by decide +kernel
theorem nf_true2 : truth6B (tubH 1) (passH 0 0) = false := by decide +kernel
theorem nf_true3 : truth6B (tubH 0) (passH 0 2) = false := by decide +kernel
theorem nf_pb1 : proveBoilB (tubH 0) 1 [0, 3, 4] 3 = true := by decide +kernel
theorem nf_pb2 : proveBoilB (tubH 0) 1 [0, 3, 4] 2 = false := by decide +kernel
theorem nf_pb3 : proveBoilB (tubH 0) 1 [3, 4] 9 = false := by decide +kernel
theorem nf_pb4 : proveBoilB (tubH 0) 1 [4, 3, 0] 9 = false := by decide +kernel
theorem nf_pb5 : proveBoilB (tubH 0) 3 [0, 1, 2, 3, 4] 9 = false := by decide +kernel
theorem nf_po1 : proveOrdB (tubH 0) 1 [0, 0] 2 = true := by decide +kernel
theorem nf_po2 : proveOrdB (tubH 0) 1 [0, 0] 1 = false := by decide +kernel
theorem nf_po3 : proveOrdB (tubH 0) 1 [0, 0, 0] 9 = false := by decide +kernel
theorem nf_po4 : proveOrdB (tubH 0) 1 [3, 4] 9 = false := by decide +kernel
theorem nf_po5 : proveOrdB (tubH 2) 0 [3] 9 = false := by decide +kernel
theorem nf_e1 : ask6E (tubH 2) (isHour (tubH 2) 3) = 2 := by decide +kernel
theorem nf_e2 : ask6E (tubH 2) (isHour (tubH 2) 2) = 11 := by decide +kernel
theorem nf_e3 : ordE (tubH 2) (-1) = 2 := by unfold ordE; rw [show ask6E (tubH 2) (isHour (tubH 2) (-1)) = 2 by decide +kernel]; rfl
theorem nf_e4 : ask6E (tubH 2) true = 11 := by decide +kernel
theorem nf_lateN : order6 nLate 2 = none := by decide +kernel
theorem nf_late : ordE nLate 2 = 10 := by unfold ordE; rw [nf_lateN, show ask6E nLate (isHour nLate 2) = 0 by decide +kernel]; rfl
theorem nf_faults : fault6 nLast = 3 ∧ fault6 nOthers = 1 ∧ fault6 nTable = 11 ∧ fault6 nWomen = 1 ∧ fault6 nTouch = 1 ∧ fault6 nSelf = 1 ∧ fault6 nBoil = 1 ∧ fault6 nSign = 1 ∧ fault6 nMany = 3 ∧ fault6 nNone = 0 := by decide +kernel
end Go.Proofs.Ytdnbkjgbehakpaa
