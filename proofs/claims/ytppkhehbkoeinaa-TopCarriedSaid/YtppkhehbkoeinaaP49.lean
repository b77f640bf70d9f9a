/- What TopCarried needs: all pieces brought back in an errand; the closed example. -/
import Derived.Test.YtppkhehbkoeinaaP46
import Derived.Test.YtppkhehbkoeinaaP25
namespace Go.Proofs.Ytppkhehbkoeinaa
open Go Go.Eng Go.RowKit

def exX (a b : Int) : Errand := ⟨⟨[⟨1, 1, 1⟩, ⟨2, 1, 1⟩], [⟨[1], a⟩, ⟨[1, 2], b⟩], 0⟩, [⟨0, 1439⟩, ⟨0, 1439⟩], [⟨2, 3⟩, ⟨2, 3⟩, ⟨2, 3⟩], 0, 3⟩
theorem exX_sm (a b : Int) : SmE (exX a b) := ⟨⟨by simp [exX], by simp [exX], fun i hi => by
  have h2 : i < 2 := hi
  match i, h2 with
  | 0, _ => simp [exX]
  | 1, _ => simp [exX]⟩, by simp [exX], by simp [exX]⟩
theorem exX_best1 : bestErr (exX 1 0) = 0 ∧ bestV (exX 1 0) = some [0, 1, 0] ∧ endingE (exX 1 0) [0, 1, 0] = 9 := by decide +kernel
theorem exX_best0 : bestErr (exX 0 1) = 0 ∧ bestV (exX 0 1) = some [] ∧ endingE (exX 0 1) [] = 0 := by decide +kernel
theorem walks_first (n most : Nat) : ∃ l, walks n most = [] :: l := by
  unfold walks
  cases most with
  | zero => exact ⟨_, rfl⟩
  | succ f => exact ⟨_, rfl⟩
theorem fewest_nil (n : Nat) : fewestP n [] = 0 := by
  have h0 : canIn n [] 0 = true := canIn_iff.2 ⟨[], by obtain ⟨l, e⟩ := walks_first n 0; rw [e]; exact .head _, bringsN_full.2 fun m hm => by cases hm⟩
  unfold fewestP
  have key : ∀ k, fstNo (fun k => !canIn n [] k) (k + 1) = 0 := fun k => by
    induction k with
    | zero => simp only [fstNo]; rw [h0]; rfl
    | succ k ih => rw [fstNo, ih, if_pos (by omega)]
  exact key 6
theorem bestP_nil {r : Errand} (hV : ValidE r) {all : List (List Int)} (h0 : all.getD 0 [] = []) : ∀ k, bestP r [] all (k + 1) = some []
  | 0 => by
    have hs : servesB r [] (all.getD 0 []) = true := by
      rw [h0]
      refine servesB_iff.2 ⟨bringsN_full.2 (fun m hm => by cases hm), ?_⟩
      unfold sureB
      have := hV.calls
      rw [decide_eq_true (by simp; omega)]
      rfl
    simp only [bestP]
    rw [if_pos hs, h0]
  | k + 1 => by
    rw [bestP, bestP_nil hV h0 k]
    split
    · simp only
      rw [if_neg]
      rintro (h | ⟨h1, h2⟩)
      · exact absurd h (Nat.not_lt_zero _)
      · rw [List.length_eq_zero_iff.1 h1] at h2
        exact absurd h2 (Int.lt_irrefl _)
    · rfl
theorem bestV_nil {r : Errand} (hV : ValidE r) (hm : movesR r = []) : bestV r = some [] := by
  obtain ⟨l, e⟩ := walks_first r.n r.calls.toNat
  unfold bestV
  rw [hm]
  show bestP r [] (walks r.n r.calls.toNat) (walks r.n r.calls.toNat).length = _
  rw [e]
  exact bestP_nil hV rfl l.length
theorem best_brings {r : Errand} {b : List Int} (hb : bestV r = some b) : ∀ m ∈ movesR r, brought b m = true := by
  obtain ⟨_, _, _, hs⟩ := bestP_spec hb
  exact bringsN_full.1 (servesB_iff.1 hs).1
def backE (r : Errand) : Errand := reTab r (allBack r.table)
theorem allBack_women (t : Table) : (allBack t).women = t.women := backTo_women _ _ _ _
section
variable {r : Errand} (hV : ValidE r)
include hV
theorem backE_ask : ask r.table ≠ [] := by rw [ask_truths hV.table]; exact hV.some
theorem backE_carried : Carried r.table (allBack r.table) := allBack_carried hV.table (backE_ask hV)
theorem backE_valid : ValidE (backE r) := re_valid (by rw [allBack_women]) hV (backE_carried hV).valid (by rw [← ask_truths (backE_carried hV).valid, (backE_carried hV).ask]; exact backE_ask hV)
theorem backE_moves : movesR (backE r) = [] := by
  unfold movesR
  show movesOf (allBack r.table) (fewest (allBack r.table) (truths (allBack r.table))) = []
  rw [← ask_truths (backE_carried hV).valid]
  exact (backE_carried hV).moves
theorem backE_best : bestV (backE r) = some [] := bestV_nil (backE_valid hV) (backE_moves hV)
theorem backE_err : bestErr (backE r) = 0 := by
  unfold bestErr
  rw [faultT_zero.2 (backE_valid hV), backE_best hV]; rfl
theorem backE_ending : (foundC (backE r) (bestV (backE r))).2 = r.start := by rw [backE_best hV]; rfl
theorem backE_fewest : fewestP (backE r).n (movesR (backE r)) = 0 := by rw [backE_moves hV]; exact fewest_nil _
theorem backE_who : whoTo (allBack r.table) r.table.pieces.length = whoTo r.table r.table.pieces.length := (backE_carried hV).who (by rw [allBack_women]) _
end
end Go.Proofs.Ytppkhehbkoeinaa
