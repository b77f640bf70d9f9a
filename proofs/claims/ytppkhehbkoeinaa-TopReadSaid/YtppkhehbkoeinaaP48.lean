/- What TopRead needs: the errand with a mark that is read well; the closed example. -/
import Derived.Test.YtppkhehbkoeinaaP46
import Derived.Test.YtppkhehbkoeinaaP25
namespace Go.Proofs.Ytppkhehbkoeinaa
open Go Go.Eng Go.RowKit

def exK : Errand := ⟨⟨[⟨1, 1, 1⟩, ⟨2, 1, 1⟩], [⟨[1], 1⟩, ⟨[2], 0⟩], 0⟩, [⟨0, 1439⟩, ⟨0, 1439⟩], [⟨2, 3⟩, ⟨2, 3⟩, ⟨2, 3⟩], 0, 3⟩
theorem exK_sm : SmE exK := ⟨⟨by simp [exK], by simp [exK], fun i hi => by
  have h2 : i < 2 := hi
  match i, h2 with
  | 0, _ => simp [exK]
  | 1, _ => simp [exK]⟩, by simp [exK], by simp [exK]⟩
theorem exK_best : bestErr exK = 0 ∧ bestV exK = some [0, 1, 0] ∧ endingE exK [0, 1, 0] = 9 := by decide +kernel
def readE (r : Errand) (k : Nat) : Errand := reTab r (readT r.table k)
section
variable {r : Errand} (hV : ValidE r) {k : Nat} (hk : k < r.table.pieces.length)
include hV hk
omit hk in
theorem readE_ask : ask r.table ≠ [] := by rw [ask_truths hV.table]; exact hV.some
theorem readE_read : Read r.table (readT r.table k) := read_read hV.table (readE_ask hV) hk
theorem readE_valid : ValidE (readE r k) := re_valid rfl hV (readE_read hV hk).valid (by rw [← ask_truths (readE_read hV hk).valid]; exact (readE_read hV hk).ask)
theorem readE_moves : movesR (readE r k) = movesR r := by
  unfold movesR
  show movesOf (readT r.table k) (fewest (readT r.table k) (truths (readT r.table k))) = _
  rw [← ask_truths (readE_read hV hk).valid, ← ask_truths hV.table]
  exact (readE_read hV hk).moves
theorem readE_best : bestV (readE r k) = bestV r := re_best rfl (readE_moves hV hk)
theorem readE_err : bestErr (readE r k) = bestErr r := re_err rfl hV (readE_valid hV hk) (readE_moves hV hk)
theorem readE_wait : waitV (readE r k) = waitV r := re_wait rfl (readE_moves hV hk)
theorem readE_ending : (foundC (readE r k) (bestV (readE r k))).2 = (foundC r (bestV r)).2 := by
  rw [readE_best hV hk]
  cases bestV r with
  | none => rfl
  | some b => exact re_ending (t := readT r.table k) rfl b
omit hk in
theorem readE_own : areOwners r.table (fewest r.table (ask r.table)) = true := ask_are (fewest_mem (readE_ask hV))
theorem readE_w : ∃ w : Nat, w < r.table.women.length ∧ (fewest r.table (ask r.table)).getD k 0 = (w : Int) ∧ (fewest r.table (ask r.table)).length = r.table.pieces.length := by
  have h1 := areOwners_iff.1 (readE_own hV)
  obtain ⟨w, hw, _, e⟩ := mem_sel.1 (h1.2 k (by rw [h1.1]; exact hk))
  exact ⟨w, hw, e, h1.1⟩
end
theorem readE_sm {r : Errand} (hs : SmE r) {k : Nat} : SmE (readE r k) := by
  refine ⟨⟨hs.1.1, by show (setM r.table.pieces k _).length ≤ _; rw [setM_len]; exact hs.1.2.1, fun i hi => ?_⟩, hs.2, hs.3⟩
  have hi' : i < r.table.pieces.length := by
    have h1 : i < (setM r.table.pieces k [(r.table.women.getD ((fewest r.table (ask r.table)).getD k 0).toNat default).mark]).length := hi
    rwa [setM_len] at h1
  show ((setM r.table.pieces k _).getD i default).marks.length ≤ _
  rw [setM_get]
  split
  · simp
  · exact hs.1.2.2 i hi'
theorem read_marksE {h m : Mem} {u : Value} {t : Table} {f : Nat → Value} {p : Nat} {ms : List Int} (hle : MLe h m) (hM : IsMarks h f t.pieces) (hu : IsInts m u ms) :
    IsMarks m (fun i => ((fsOf f t.pieces).set p u).getD i undef) (setM t.pieces p ms) := fun i hi => by
  have hi' : i < t.pieces.length := by rw [← setM_len t.pieces p ms]; exact hi
  show IsInts m (((fsOf f t.pieces).set p u).getD i undef) ((setM t.pieces p ms).getD i default).marks
  rw [getD_set, setM_get, fsOf_len]
  split
  · exact hu
  · rw [fsOf_get hi']; exact (hM i hi').le hle
end Go.Proofs.Ytppkhehbkoeinaa
