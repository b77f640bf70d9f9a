/- Chapter 11: what ErrandNames reckons. -/
import Derived.Test.YtppkhehbkoeinaaP25
namespace Go.Proofs.Ytppkhehbkoeinaa
open Go Go.Eng Go.RowKit

def eBad : Errand := ⟨⟨(threeE 5 640).table.women, (threeE 5 640).table.pieces, -1⟩, (threeE 5 640).home, (threeE 5 640).streets, (threeE 5 640).start, (threeE 5 640).calls⟩
def eFalse : Errand := ⟨⟨[⟨1, 3, 3⟩, ⟨2, 1, 1⟩, ⟨3, 1, 1⟩], (threeE 5 640).table.pieces, 0⟩, (threeE 5 640).home, (threeE 5 640).streets, (threeE 5 640).start, (threeE 5 640).calls⟩
def eWomen : Errand := ⟨⟨List.replicate 5 ⟨0, 0, 0⟩, [], 0⟩, (threeE 5 640).home, (threeE 5 640).streets, (threeE 5 640).start, (threeE 5 640).calls⟩
def eStreet : Errand := ⟨(threeE 5 640).table, (threeE 5 640).home, [⟨5, 61⟩, ⟨7, 7⟩, ⟨4, 4⟩, ⟨3, 5⟩, ⟨6, 8⟩, ⟨9, 9⟩], (threeE 5 640).start, (threeE 5 640).calls⟩
def eStart : Errand := ⟨(threeE 5 640).table, (threeE 5 640).home, (threeE 5 640).streets, 1440, (threeE 5 640).calls⟩
def eStreets : Errand := ⟨(threeE 5 640).table, (threeE 5 640).home, [⟨5, 6⟩, ⟨7, 7⟩, ⟨4, 4⟩, ⟨3, 5⟩, ⟨6, 8⟩], (threeE 5 640).start, (threeE 5 640).calls⟩
def eNone : Errand := ⟨⟨[], [], 0⟩, [], [], 0, 0⟩
theorem ee_sm {x : Errand} (h1 : x.table.pieces = (threeE 5 640).table.pieces) (h0 : x.table.women.length ≤ 50) (h2 : x.home.length ≤ 20) (h3 : x.streets.length ≤ 20) : SmE x := ⟨⟨h0, by rw [h1]; exact (threeE_sm 5 640).1.2.1, by rw [h1]; exact (threeE_sm 5 640).1.2.2⟩, h2, h3⟩
theorem ee_brings1 : walkedE (threeE 5 640) [1, 0] = 0 ∧ piecesB (movesR (threeE 5 640)) (fun i => brought [1, 0] ((movesR (threeE 5 640)).getD i default)) = [0] := by decide +kernel
theorem ee_brings2 : walkedE (threeE 5 640) [0, 2] = 0 ∧ piecesB (movesR (threeE 5 640)) (fun i => brought [0, 2] ((movesR (threeE 5 640)).getD i default)) = [2] := by decide +kernel
theorem ee_best : bestErr (threeE 3 640) = 10 := by decide +kernel
theorem ee_wait1 : faultT (threeE 1 640) = 0 ∧ waitV (threeE 1 640) = [0, 1, 2] := by decide +kernel
theorem ee_wait2 : faultT (threeE 5 640) = 0 ∧ waitV (threeE 5 640) = [] := by decide +kernel
theorem ee_late : lateV (threeE 5 640) [0, 1, 2, 0] = (0, 7) := by decide +kernel
theorem ee_comes : walkedE (threeE 5 640) [] = 0 ∧ comesTo (threeE 5 640) [] 0 = [] := by decide +kernel
theorem ee_pw1 : proveB (threeE 5 640) [0, 1, 2, 0] 4 = true := by decide +kernel
theorem ee_pw2 : proveB (threeE 5 640) [0, 1, 2, 0] 3 = false := by decide +kernel
theorem ee_pw3 : proveB (threeE 3 640) [0, 1, 2, 0] 9 = false := by decide +kernel
theorem ee_pw4 : proveB (threeE 5 640) [0, 1, 2] 9 = false := by decide +kernel
theorem ee_pw5 : proveB (threeE 5 621) [1, 0, 1, 2] 9 = false := by decide +kernel
theorem ee_pw6 : proveB (threeE 5 640) [0, 0, 1, 2, 0] 9 = false := by decide +kernel
theorem ee_pw7 : proveB (threeE 5 640) [0, 2, 1, 0] 4 = true := by decide +kernel
theorem ee_play1 : playE11 (threeE 5 640) [5, 7, 4, 4, 7, 8] [] = 2 := by decide +kernel
theorem ee_play2 : playE11 (threeE 5 640) [5, 7, 4, 4, 7, 9] [3] = 2 := by decide +kernel
theorem ee_comes2 : walkedE (threeE 5 640) [1, 1] = 2 := by decide +kernel
theorem ee_brings3 : walkedE (threeE 5 640) [0, 1, 0, 1, 0, 1, 0, 1] = 2 := by decide +kernel
theorem ee_late2 : lateV (threeE 5 640) [-1] = (0, 2) := by decide +kernel
theorem ee_faults : faultT eBad = 1 ∧ faultT eFalse = 11 ∧ faultT (threeE 8 640) = 3 ∧ faultT (threeE (-1) 640) = 1 ∧ faultT eWomen = 3 ∧ faultT (threeE 5 1440) = 1 ∧ faultT eStreet = 1 ∧ faultT eStart = 1 ∧ faultT eStreets = 1 ∧ faultT eNone = 0 := by decide +kernel
end Go.Proofs.Ytppkhehbkoeinaa
