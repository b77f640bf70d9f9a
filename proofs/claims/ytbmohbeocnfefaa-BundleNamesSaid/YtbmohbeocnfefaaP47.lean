/- Chapter 3: what BundleNames reckons. -/
import Derived.Test.YtbmohbeocnfefaaP6
namespace Go.Proofs.Ytbmohbeocnfefaa
open Go Go.Eng Go.RowKit

def bRead : Table := ⟨(threeT 1 1 0).women, [⟨[1], 0⟩, ⟨[1], 0⟩, ⟨[1], 1⟩, ⟨[2], 1⟩], 0⟩
def bRead2 : Table := ⟨[⟨1, 1, 1⟩, ⟨1, 1, 2⟩, ⟨2, 2, 2⟩], [⟨[1], 0⟩, ⟨[1], 0⟩, ⟨[1], 1⟩, ⟨[2], 1⟩], 0⟩
def bMark : Table := ⟨[⟨10, 2, 2⟩, ⟨1, 1, 2⟩, ⟨2, 1, 1⟩], (threeT 2 1 0).pieces, 0⟩
def bReading : Table := ⟨(threeT 2 1 0).women, [⟨[1, 10], 0⟩, ⟨[1, 2], 0⟩, ⟨[1], 1⟩, ⟨[2], 1⟩], 0⟩
def bOrder : Table := ⟨(threeT 2 1 0).women, [⟨[2, 1], 0⟩, ⟨[1, 2], 0⟩, ⟨[1], 1⟩, ⟨[2], 1⟩], 0⟩
def bLost : Table := ⟨(threeT 2 1 0).women, [⟨[3], 0⟩, ⟨[1, 2], 0⟩, ⟨[1], 1⟩, ⟨[2], 1⟩], 0⟩
def bLies : Table := ⟨(threeT 2 1 0).women, [⟨[1], 3⟩, ⟨[1, 2], 0⟩, ⟨[1], 1⟩, ⟨[2], 1⟩], 0⟩
def bWomen : Table := ⟨List.replicate 6 ⟨0, 0, 0⟩, (threeT 2 1 0).pieces, 0⟩
def bPieces : Table := ⟨(threeT 2 1 0).women, List.replicate 8 ⟨[], 0⟩, 0⟩
def bMany : Table := ⟨List.replicate 3 ⟨0, 0, 0⟩, List.replicate 7 ⟨[0], 0⟩, 0⟩
def bNone : Table := ⟨[], [], 0⟩
theorem bf_read : askE bRead = 0 ∧ whoTo bRead bRead.pieces.length = [[0, 1], [0, 1], [0, 1], [2]] := by decide +kernel
theorem bf_read2 : askE bRead2 = 11 := by decide +kernel
theorem bf_first1 : firstV (threeT 4 0 0) = (0, 0) := by decide +kernel
theorem bf_leave1 : fault (threeT 2 0 0) = 0 ∧ leaveAll (threeT 2 0 0) = some [2] := by decide +kernel
theorem bf_fewest : askE (threeT 2 0 1) = 0 ∧ fewest (threeT 2 0 1) (ask (threeT 2 0 1)) = [0, 0, 1, 2] := by decide +kernel
theorem bf_leave2 : fault (threeT 2 1 0) = 0 ∧ leaveAll (threeT 2 1 0) = some [] := by decide +kernel
theorem bf_first2 : firstV (threeT 2 1 0) = (0, 7) := by decide +kernel
theorem bf_pt1 : (decide (fault (threeT 2 1 0) = 0) && (areOwners (threeT 2 1 0) [0, 1, 0, 2] && isTruthP (threeT 2 1 0) [0, 1, 0, 2])) = true := by decide +kernel
theorem bf_pt2 : (decide (fault (threeT 2 1 0) = 0) && (areOwners (threeT 2 1 0) [0, 1, 1, 2] && isTruthP (threeT 2 1 0) [0, 1, 1, 2])) = false := by decide +kernel
theorem bf_pt3 : (decide (fault (threeT 2 1 0) = 0) && (areOwners (threeT 2 1 0) [0, 2, 0, 1] && isTruthP (threeT 2 1 0) [0, 2, 0, 1])) = false := by decide +kernel
theorem bf_pt4 : (decide (fault (threeT 2 1 1) = 0) && (areOwners (threeT 2 1 1) [0, 1, 1, 2] && isTruthP (threeT 2 1 1) [0, 1, 1, 2])) = true := by decide +kernel
theorem bf_pf1 : (areOwners (threeT 2 1 0) [0, 0, 1, 2] && (isTruthP (threeT 2 1 0) [0, 0, 1, 2] && decide (((astray (threeT 2 1 0) [0, 0, 1, 2]).length : Int) ≤ 1))) = true := by decide +kernel
theorem bf_pf2 : (areOwners (threeT 2 1 0) [0, 0, 1, 2] && (isTruthP (threeT 2 1 0) [0, 0, 1, 2] && decide (((astray (threeT 2 1 0) [0, 0, 1, 2]).length : Int) ≤ 0))) = false := by decide +kernel
theorem bf_pf3 : (areOwners (threeT 2 1 0) [0, 1, 0, 2] && (isTruthP (threeT 2 1 0) [0, 1, 0, 2] && decide (((astray (threeT 2 1 0) [0, 1, 0, 2]).length : Int) ≤ 2))) = false := by decide +kernel
theorem bf_pf4 : (areOwners (threeT 2 1 0) [0, 0, 1, 2] && (isTruthP (threeT 2 1 0) [0, 0, 1, 2] && decide (((astray (threeT 2 1 0) [0, 0, 1, 2]).length : Int) ≤ -1))) = false := by decide +kernel
theorem bf_play : playE (threeT 4 1 0) [0, 0, 1] = 2 ∧ playE (threeT 4 1 0) [0, 0, 1, 1] = 2 := by decide +kernel
theorem bf_bad : askE (threeT 4 1 0) = 11 ∧ lookE (threeT 4 1 0) = 11 ∧ lookE bNone = 7 := by decide +kernel
theorem bf_faults : fault bMark = 1 ∧ fault (threeT 8 1 0) = 1 ∧ fault bReading = 1 ∧ fault bOrder = 1 ∧ fault bLost = 1 ∧ fault bLies = 1 ∧ fault (threeT 2 1 6) = 1 ∧ fault bWomen = 3 ∧ fault bPieces = 3 ∧ fault bMany = 3 ∧ fault bNone = 0 := by decide +kernel
end Go.Proofs.Ytbmohbeocnfefaa
