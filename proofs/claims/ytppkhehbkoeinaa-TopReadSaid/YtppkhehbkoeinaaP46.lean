/- Plain law: an errand with another table of as many women. -/
import Derived.Test.YtppkhehbkoeinaaP28
import Derived.Test.YtppkhehbkoeinaaT70
namespace Go.Proofs.Ytppkhehbkoeinaa
open Go Go.Eng Go.RowKit

def reTab (r : Errand) (t : Table) : Errand := ⟨t, r.home, r.streets, r.start, r.calls⟩
section
variable {r : Errand} {t : Table} (hw : t.women.length = r.table.women.length)
include hw
theorem re_minute (tr l : List Int) : ∀ k, minuteAt (reTab r t) tr l k = minuteAt r tr l k
  | 0 => rfl
  | k + 1 => by
    simp only [minuteAt]
    rw [re_minute tr l k, show (reTab r t).n = r.n from hw]; rfl
theorem re_late (l : List Int) : lateN (reTab r t) l = lateN r l := by
  unfold lateN
  congr 1
  funext i
  unfold inTime
  rw [re_minute hw]; rfl
theorem re_sure (l : List Int) : sureB (reTab r t) l = sureB r l := by
  unfold sureB
  rw [re_late hw]; rfl
theorem re_ending (l : List Int) : endingE (reTab r t) l = endingE r l := by
  unfold endingE
  rw [re_minute hw]; rfl
theorem re_serves (ms : List Move) (l : List Int) : servesB (reTab r t) ms l = servesB r ms l := by
  unfold servesB
  rw [re_sure hw]
theorem re_bestP (ms : List Move) (all : List (List Int)) : ∀ k, bestP (reTab r t) ms all k = bestP r ms all k
  | 0 => rfl
  | k + 1 => by
    simp only [bestP]
    rw [re_bestP ms all k, re_serves hw]
    cases bestP r ms all k with
    | none => rfl
    | some b => simp only [re_ending hw]
theorem re_waitP (ms : List Move) (all : List (List Int)) : ∀ k, waitP (reTab r t) ms all k = waitP r ms all k
  | 0 => rfl
  | k + 1 => by
    simp only [waitP]
    rw [re_waitP ms all k, re_sure hw]
theorem re_all : allW (reTab r t) = allW r := by
  unfold allW
  rw [show (reTab r t).n = r.n from hw]; rfl
theorem re_best (hm : movesR (reTab r t) = movesR r) : bestV (reTab r t) = bestV r := by
  unfold bestV
  rw [re_all hw, hm, re_bestP hw]
theorem re_wait (hm : movesR (reTab r t) = movesR r) : waitV (reTab r t) = waitV r := by
  unfold waitV
  rw [re_all hw, hm, re_waitP hw]
theorem re_valid (hV : ValidE r) (ht : Valid t) (hs : truths t ≠ []) : ValidE (reTab r t) :=
  ⟨ht, hs, by show t.women.length ≤ 4; rw [hw]; exact hV.women, hV.calls, hV.homeLen.trans hw.symm, by show r.streets.length = t.women.length * (t.women.length + 1) / 2; rw [hw]; exact hV.streetsLen, hV.start, hV.home, hV.street⟩
theorem re_err (hV : ValidE r) (hV2 : ValidE (reTab r t)) (hm : movesR (reTab r t) = movesR r) : bestErr (reTab r t) = bestErr r := by
  unfold bestErr
  rw [faultT_zero.2 hV, faultT_zero.2 hV2, re_best hw hm]
end
end Go.Proofs.Ytppkhehbkoeinaa
