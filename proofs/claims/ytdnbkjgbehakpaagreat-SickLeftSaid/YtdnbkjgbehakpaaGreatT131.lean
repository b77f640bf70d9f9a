/- The statements' functions of chapter 6: Thin, ready. -/
import Derived.Test.YtdnbkjgbehakpaaGreatT130
import Derived.Test.YtdnbkjgbehakpaaGreatT7
namespace Go.Proofs.YtdnbkjgbehakpaaGreat
open Go Go.Eng Go.RowKit

theorem ValidH.hoursZ {r : House} (hV : ValidH r) {k : Nat} (hk : k < r.tn) : 0 ≤ (r.touches.getD k default).lo ∧ (r.touches.getD k default).lo ≤ (r.touches.getD k default).hi ∧ (r.touches.getD k default).hi ≤ 5 := by
  have h1 := touchOk_iff.1 (hV.touch k hk)
  have h2 := hV.last
  omega
theorem ValidH.fitZ {r : House} (hV : ValidH r) : FitH r := ⟨by have := hV.others; have h2 := hV.th.1; omega, by have := hV.others; omega⟩
def small6 (r : House) : Bool := ThinB r.table && decide (r.sick.length ≤ 7 ∧ r.touches.length ≤ 8 ∧ r.boiled.length ≤ 6 ∧ r.signs.length ≤ 7)
/-- Houses that the statements can use. -/
def thin6 (r : House) : Bool := small6 r && (!decide (fault6 r = 0) || (decide (r.things ≤ 7) && decide (many r.table * times r ≤ 60)))
def ready6 (r : House) : Bool := thin6 r && decide (fault6 r = 0)
theorem small6_sm {r : House} (h : small6 r = true) : SmH r := by
  unfold small6 at h
  rw [Bool.and_eq_true, decide_eq_true_eq] at h
  exact ⟨ThinB.sm h.1, by omega, by omega, by omega, by omega⟩
theorem thin6_sm {r : House} (h : thin6 r = true) : SmH r := by
  unfold thin6 at h
  rw [Bool.and_eq_true] at h
  exact small6_sm h.1
theorem ready6_iff {r : House} (h : ready6 r = true) : ValidH r ∧ SmH r ∧ fault6 r = 0 ∧ thin6 r = true := by
  unfold ready6 at h
  rw [Bool.and_eq_true, decide_eq_true_eq] at h
  exact ⟨fault6_zero.1 h.2, thin6_sm h.1, h.2, h.1⟩
/-- Thin -/
theorem thin6_any {h : Mem} {v : Value} {r : House} (hv : IsHouse h v r) : FnV Tryz.prog 19 #[v] h (.bool (thin6 r)) := by
  have hv' := hv
  obtain ⟨wv, pv, kv, tv, bv, sv, f, rfl, hA⟩ := hv
  have hTab := hA.table
  have hK := hA.K
  have hT := hA.T
  have hB := hA.B
  have hS := hA.S
  refine FnR.val ?_
  refine FnR.of_W (n := 48) Tryz.func19 rfl rfl (Nat.le_of_ble_eq_true rfl) fun c hr hD hF => ?_
  refine W.seq ?_
  refine W.region ?_
  refine WL.box rfl rfl rfl rfl (fun b1 => ?_)
  refine WL.val (OpVal.opv rfl) rfl rfl rfl ?_
  refine WL.nil ?_
  refine Kseq.go (W.seq (W.seq ?_))
  skip
  refine W.toS [(1, .pointer (some ⟨b1, 0, none⟩)), (30, .bool (!small6 r))] ?_ ?_
  · obtain ⟨tb, htb⟩ : ∃ tb, ThinB r.table = tb := ⟨_, rfl⟩
    skip
    refine W.region ?_
    refine WL.val (OpVal.fieldAddrB rfl) rfl rfl rfl ?_
    refine WL.val (OpVal.loadBA (vs := [wv, pv, vi r.table.wrong]) rfl (.head _) rfl rfl) rfl rfl rfl ?_
    refine WL.val (OpVal.cast (OpVal.call rfl (fun m hm => thin_any (hTab.le (by repeat (first | exact hm.1 | replace hm := hm.2))))) (congrArg Value.bool htb)) rfl rfl rfl ?_
    refine WL.val (OpVal.opv rfl) rfl rfl rfl ?_
    refine WL.val (OpVal.opv rfl) rfl rfl rfl ?_
    refine WL.splitB rfl rfl (fun g7 => ?_) (fun g7 => ?_)
    · refine WL.pass rfl rfl rfl ?_
      refine WL.pass rfl rfl rfl ?_
      refine WL.pass rfl rfl rfl ?_
      refine WL.pass rfl rfl rfl ?_
      refine WL.val (OpVal.opv rfl) rfl rfl rfl ?_
      refine WL.val (OpVal.opv rfl) rfl rfl rfl ?_
      refine WL.pass rfl rfl rfl ?_
      refine WL.pass rfl rfl rfl ?_
      refine WL.pass rfl rfl rfl ?_
      refine WL.pass rfl rfl rfl ?_
      refine WL.val (OpVal.opv rfl) rfl rfl rfl ?_
      refine WL.val (OpVal.opv rfl) rfl rfl rfl ?_
      refine WL.pass rfl rfl rfl ?_
      refine WL.pass rfl rfl rfl ?_
      refine WL.pass rfl rfl rfl ?_
      refine WL.pass rfl rfl rfl ?_
      refine WL.val (OpVal.opv rfl) rfl rfl rfl ?_
      refine WL.val (OpVal.opv rfl) rfl rfl rfl ?_
      refine WL.pass rfl rfl rfl ?_
      refine WL.pass rfl rfl rfl ?_
      refine WL.pass rfl rfl rfl ?_
      refine WL.pass rfl rfl rfl ?_
      refine WL.val (OpVal.opv rfl) rfl rfl rfl ?_
      refine WL.nil ?_
      skip
      exact Keff.intro ⟨rfl, congrArg (fun b => some (Value.bool b)) (by unfold small6; rw [htb]; first | exact (by first | (simp [true_and, -List.getD_eq_getElem?_getD]; done) | (simp_all [-List.getD_eq_getElem?_getD]; done) | (simp [true_and, -List.getD_eq_getElem?_getD]; omega) | (rw [Bool.eq_iff_iff]; simp [true_and, -List.getD_eq_getElem?_getD]; omega) | (simp [true_and, -List.getD_eq_getElem?_getD] at *; omega)) | (simp [*]; done) | (rw [Bool.eq_iff_iff]; simp_all; omega) | (simp_all; rw [← decide_not]; exact decide_eq_decide.2 (by omega)) | (simp_all; trace_state; omega)), trivial⟩ (by simp) (by repeat (first | exact List.Sublist.refl _ | refine List.Sublist.cons _ ?_ | refine List.Sublist.cons_cons _ ?_))
    · refine WL.val (OpVal.fieldAddrB rfl) rfl rfl rfl ?_
      refine WL.val (OpVal.loadB rfl (.head _) rfl) rfl rfl rfl ?_
      refine WL.val (OpVal.len rfl hK) rfl rfl rfl ?_
      refine WL.val (OpVal.opv rfl) rfl rfl rfl ?_
      refine WL.val (OpVal.opv rfl) rfl rfl rfl ?_
      refine WL.val (OpVal.opv rfl) rfl rfl rfl ?_
      refine WL.split rfl rfl (fun g13 => ?_) (fun g13 => ?_)
      · refine WL.pass rfl rfl rfl ?_
        refine WL.pass rfl rfl rfl ?_
        refine WL.pass rfl rfl rfl ?_
        refine WL.pass rfl rfl rfl ?_
        refine WL.val (OpVal.opv rfl) rfl rfl rfl ?_
        refine WL.val (OpVal.opv rfl) rfl rfl rfl ?_
        refine WL.pass rfl rfl rfl ?_
        refine WL.pass rfl rfl rfl ?_
        refine WL.pass rfl rfl rfl ?_
        refine WL.pass rfl rfl rfl ?_
        refine WL.val (OpVal.opv rfl) rfl rfl rfl ?_
        refine WL.val (OpVal.opv rfl) rfl rfl rfl ?_
        refine WL.pass rfl rfl rfl ?_
        refine WL.pass rfl rfl rfl ?_
        refine WL.pass rfl rfl rfl ?_
        refine WL.pass rfl rfl rfl ?_
        refine WL.val (OpVal.opv rfl) rfl rfl rfl ?_
        refine WL.nil ?_
        skip
        exact Keff.intro ⟨rfl, congrArg (fun b => some (Value.bool b)) (by unfold small6; rw [htb]; first | exact (by first | (simp [true_and, -List.getD_eq_getElem?_getD]; done) | (simp_all [-List.getD_eq_getElem?_getD]; done) | (simp [true_and, -List.getD_eq_getElem?_getD]; omega) | (rw [Bool.eq_iff_iff]; simp [true_and, -List.getD_eq_getElem?_getD]; omega) | (simp [true_and, -List.getD_eq_getElem?_getD] at *; omega)) | (simp [*]; done) | (rw [Bool.eq_iff_iff]; simp_all; omega) | (simp_all; rw [← decide_not]; exact decide_eq_decide.2 (by omega)) | (simp_all; trace_state; omega)), trivial⟩ (by simp) (by repeat (first | exact List.Sublist.refl _ | refine List.Sublist.cons _ ?_ | refine List.Sublist.cons_cons _ ?_))
      · refine WL.val (OpVal.fieldAddrB rfl) rfl rfl rfl ?_
        refine WL.val (OpVal.loadB rfl (.head _) rfl) rfl rfl rfl ?_
        refine WL.val (OpVal.len rfl hT) rfl rfl rfl ?_
        refine WL.val (OpVal.opv rfl) rfl rfl rfl ?_
        refine WL.val (OpVal.opv rfl) rfl rfl rfl ?_
        refine WL.val (OpVal.opv rfl) rfl rfl rfl ?_
        refine WL.split rfl rfl (fun g19 => ?_) (fun g19 => ?_)
        · refine WL.pass rfl rfl rfl ?_
          refine WL.pass rfl rfl rfl ?_
          refine WL.pass rfl rfl rfl ?_
          refine WL.pass rfl rfl rfl ?_
          refine WL.val (OpVal.opv rfl) rfl rfl rfl ?_
          refine WL.val (OpVal.opv rfl) rfl rfl rfl ?_
          refine WL.pass rfl rfl rfl ?_
          refine WL.pass rfl rfl rfl ?_
          refine WL.pass rfl rfl rfl ?_
          refine WL.pass rfl rfl rfl ?_
          refine WL.val (OpVal.opv rfl) rfl rfl rfl ?_
          refine WL.nil ?_
          skip
          exact Keff.intro ⟨rfl, congrArg (fun b => some (Value.bool b)) (by unfold small6; rw [htb]; first | exact (by first | (simp [true_and, -List.getD_eq_getElem?_getD]; done) | (simp_all [-List.getD_eq_getElem?_getD]; done) | (simp [true_and, -List.getD_eq_getElem?_getD]; omega) | (rw [Bool.eq_iff_iff]; simp [true_and, -List.getD_eq_getElem?_getD]; omega) | (simp [true_and, -List.getD_eq_getElem?_getD] at *; omega)) | (simp [*]; done) | (rw [Bool.eq_iff_iff]; simp_all; omega) | (simp_all; rw [← decide_not]; exact decide_eq_decide.2 (by omega)) | (simp_all; trace_state; omega)), trivial⟩ (by simp) (by repeat (first | exact List.Sublist.refl _ | refine List.Sublist.cons _ ?_ | refine List.Sublist.cons_cons _ ?_))
        · refine WL.val (OpVal.fieldAddrB rfl) rfl rfl rfl ?_
          refine WL.val (OpVal.loadB rfl (.head _) rfl) rfl rfl rfl ?_
          refine WL.val (OpVal.len rfl hB) rfl rfl rfl ?_
          refine WL.val (OpVal.opv rfl) rfl rfl rfl ?_
          refine WL.val (OpVal.opv rfl) rfl rfl rfl ?_
          refine WL.val (OpVal.opv rfl) rfl rfl rfl ?_
          refine WL.split rfl rfl (fun g25 => ?_) (fun g25 => ?_)
          · refine WL.pass rfl rfl rfl ?_
            refine WL.pass rfl rfl rfl ?_
            refine WL.pass rfl rfl rfl ?_
            refine WL.pass rfl rfl rfl ?_
            refine WL.val (OpVal.opv rfl) rfl rfl rfl ?_
            refine WL.nil ?_
            skip
            exact Keff.intro ⟨rfl, congrArg (fun b => some (Value.bool b)) (by unfold small6; rw [htb]; first | exact (by first | (simp [true_and, -List.getD_eq_getElem?_getD]; done) | (simp_all [-List.getD_eq_getElem?_getD]; done) | (simp [true_and, -List.getD_eq_getElem?_getD]; omega) | (rw [Bool.eq_iff_iff]; simp [true_and, -List.getD_eq_getElem?_getD]; omega) | (simp [true_and, -List.getD_eq_getElem?_getD] at *; omega)) | (simp [*]; done) | (rw [Bool.eq_iff_iff]; simp_all; omega) | (simp_all; rw [← decide_not]; exact decide_eq_decide.2 (by omega)) | (simp_all; trace_state; omega)), trivial⟩ (by simp) (by repeat (first | exact List.Sublist.refl _ | refine List.Sublist.cons _ ?_ | refine List.Sublist.cons_cons _ ?_))
          · refine WL.val (OpVal.fieldAddrB rfl) rfl rfl rfl ?_
            refine WL.val (OpVal.loadB rfl (.head _) rfl) rfl rfl rfl ?_
            refine WL.val (OpVal.len rfl hS) rfl rfl rfl ?_
            refine WL.val (OpVal.opv rfl) rfl rfl rfl ?_
            refine WL.val (OpVal.opv rfl) rfl rfl rfl ?_
            refine WL.nil ?_
            skip
            exact Keff.intro ⟨rfl, congrArg (fun b => some (Value.bool b)) (by unfold small6; rw [htb]; first | exact (by first | (simp [true_and, -List.getD_eq_getElem?_getD]; done) | (simp_all [-List.getD_eq_getElem?_getD]; done) | (simp [true_and, -List.getD_eq_getElem?_getD]; omega) | (rw [Bool.eq_iff_iff]; simp [true_and, -List.getD_eq_getElem?_getD]; omega) | (simp [true_and, -List.getD_eq_getElem?_getD] at *; omega)) | (simp [*]; done) | (rw [Bool.eq_iff_iff]; simp_all; omega) | (simp_all; rw [← decide_not]; exact decide_eq_decide.2 (by omega)) | (simp_all; trace_state; omega)), trivial⟩ (by simp) (by repeat (first | exact List.Sublist.refl _ | refine List.Sublist.cons _ ?_ | refine List.Sublist.cons_cons _ ?_))
  refine Kseq.go ?_
  refine W.cond rfl rfl (fun h1 => ?_) (fun h1 => ?_)
  · have hno : small6 r = false := by simpa using h1
    refine W.seq ?_
    refine W.region ?_
    refine WL.val (OpVal.opv rfl) rfl rfl rfl ?_
    refine WL.nil ?_
    refine Kseq.go ?_
    refine W.ret ?_; refine Kseq.ret ?_; refine ⟨.inl rfl, [_], h, ⟨.tmp rfl, trivial⟩, (by repeat (first | exact .head _ | refine .tail _ ?_)), ?_⟩
    exact congrArg Value.bool (by unfold thin6; rw [hno]; rfl)
  have hyes : small6 r = true := by simpa using h1
  have hs := small6_sm hyes
  have hth : thin6 r = (!decide (fault6 r = 0) || (decide (r.things ≤ 7) && decide (many r.table * times r ≤ 60))) := by unfold thin6; rw [hyes]; rfl
  refine W.skip (Kseq.go (W.seq ?_))
  by_cases hf : fault6 r = 0
  · have hV := fault6_zero.1 hf
    have hz : ∀ i, i < r.tn → 0 ≤ (r.touches.getD i default).lo ∧ (r.touches.getD i default).lo ≤ (r.touches.getD i default).hi ∧ (r.touches.getD i default).hi ≤ 5 := fun i hi => hV.hoursZ hi
    rw [decide_eq_true hf] at hth
    by_cases h7 : r.things ≤ 7
    · have hmp : 0 ≤ many r.table ∧ many r.table ≤ 3000 := manyTo_pos r.table r.table.pieces.length
      have htp : 1 ≤ times r ∧ times r ≤ 3000 := timesTo_pos (fun i hi => (hz i hi).2.1) r.tn (Nat.le_refl _)
      have hmul : many r.table * times r ≤ 3000 * 3000 := Int.mul_le_mul hmp.2 htp.2 (by omega) (by omega)
      have hmul0 : 0 ≤ many r.table * times r := Int.mul_nonneg hmp.1 (by omega)
      skip
      refine W.draw 12 (by kernel_rfl) (by kernel_rfl) (by kernel_rfl) rfl ?_
      refine DJ.val [] (OpVal.loadBW rfl (.head _) rfl) rfl rfl rfl rfl ?_
      refine DJ.val [] (OpVal.call rfl (fun m hm => fault6R_any (hv'.le (by repeat (first | exact hm.1 | replace hm := hm.2))) hs)) rfl rfl rfl rfl ?_
      refine DJ.val [] (OpVal.cast (OpVal.opv rfl) (show _ = Value.bool false from congrArg (fun b => Value.bool (!b)) (decide_eq_true hf))) rfl rfl rfl rfl ?_
      refine DJ.val [] (OpVal.opv rfl) rfl rfl rfl rfl ?_
      refine DJ.val [] (OpVal.loadBW rfl (.head _) rfl) rfl rfl rfl rfl ?_
      refine DJ.val [] (OpVal.cast (OpVal.call rfl (fun m hm => thingsR_any (hv'.le (by repeat (first | exact hm.1 | replace hm := hm.2))))) (congrArg (Value.int .i64) hV.fitZ.eq)) rfl rfl rfl rfl ?_
      refine DJ.val [] (OpVal.cast (OpVal.opv rfl) (congrArg Value.bool (decide_eq_true h7))) rfl rfl rfl rfl ?_
      refine DJ.val [] (OpVal.opv rfl) rfl rfl rfl rfl ?_
      refine DJ.val [] (OpVal.fieldAddrB rfl) rfl rfl rfl rfl ?_
      refine DJ.val [] (OpVal.loadBA (vs := [wv, pv, vi r.table.wrong]) rfl (.head _) rfl rfl) rfl rfl rfl rfl ?_
      refine DJ.val [] (OpVal.call rfl (fun m hm => many_any (hTab.le (by repeat (first | exact hm.1 | replace hm := hm.2))) hs.table)) rfl rfl rfl rfl ?_
      refine DJ.val [] (OpVal.loadBW rfl (.head _) rfl) rfl rfl rfl rfl ?_
      refine DJ.nil ?_
      refine WL.val (OpVal.call rfl (fun m hm => times_any (hv'.le (by repeat (first | exact hm.1 | replace hm := hm.2))) hs hz)) rfl rfl rfl ?_
      refine WL.val (OpVal.mul rfl rfl (by omega) (by omega)) rfl rfl rfl ?_
      refine WL.val (OpVal.opv rfl) rfl rfl rfl ?_
      refine WL.val (OpVal.opv rfl) rfl rfl rfl ?_
      refine WL.val (OpVal.opv rfl) rfl rfl rfl ?_
      refine WL.val (OpVal.opv rfl) rfl rfl rfl ?_
      refine WL.nil ?_
      refine Kseq.go ?_
      refine W.ret ?_; skip; refine ⟨.inl rfl, [_], h, ⟨.tmp rfl, trivial⟩, (by repeat (first | exact .head _ | refine .tail _ ?_)), ?_⟩
      exact congrArg Value.bool (by rw [hth, decide_eq_true h7]; rfl)
    · skip
      refine W.draw 12 (by kernel_rfl) (by kernel_rfl) (by kernel_rfl) rfl ?_
      refine DJ.val [] (OpVal.loadBW rfl (.head _) rfl) rfl rfl rfl rfl ?_
      refine DJ.val [] (OpVal.call rfl (fun m hm => fault6R_any (hv'.le (by repeat (first | exact hm.1 | replace hm := hm.2))) hs)) rfl rfl rfl rfl ?_
      refine DJ.val [] (OpVal.cast (OpVal.opv rfl) (show _ = Value.bool false from congrArg (fun b => Value.bool (!b)) (decide_eq_true hf))) rfl rfl rfl rfl ?_
      refine DJ.val [] (OpVal.opv rfl) rfl rfl rfl rfl ?_
      refine DJ.val [] (OpVal.loadBW rfl (.head _) rfl) rfl rfl rfl rfl ?_
      refine DJ.val [] (OpVal.cast (OpVal.call rfl (fun m hm => thingsR_any (hv'.le (by repeat (first | exact hm.1 | replace hm := hm.2))))) (congrArg (Value.int .i64) hV.fitZ.eq)) rfl rfl rfl rfl ?_
      refine DJ.val [] (OpVal.cast (OpVal.opv rfl) (congrArg Value.bool (decide_eq_false h7))) rfl rfl rfl rfl ?_
      refine DJ.val [] (OpVal.opv rfl) rfl rfl rfl rfl ?_
      refine DJ.pass rfl rfl rfl rfl ?_
      refine DJ.pass rfl rfl rfl rfl ?_
      refine DJ.pass rfl rfl rfl rfl ?_
      refine DJ.pass rfl rfl rfl rfl ?_
      refine DJ.nil ?_
      refine WL.pass rfl rfl rfl ?_
      refine WL.pass rfl rfl rfl ?_
      refine WL.pass rfl rfl rfl ?_
      refine WL.val (OpVal.opv rfl) rfl rfl rfl ?_
      refine WL.val (OpVal.opv rfl) rfl rfl rfl ?_
      refine WL.val (OpVal.opv rfl) rfl rfl rfl ?_
      refine WL.nil ?_
      refine Kseq.go ?_
      refine W.ret ?_; skip; refine ⟨.inl rfl, [_], h, ⟨.tmp rfl, trivial⟩, (by repeat (first | exact .head _ | refine .tail _ ?_)), ?_⟩
      exact congrArg Value.bool (by rw [hth, decide_eq_false h7]; rfl)
  · rw [decide_eq_false hf] at hth
    skip
    refine W.draw 12 (by kernel_rfl) (by kernel_rfl) (by kernel_rfl) rfl ?_
    refine DJ.val [] (OpVal.loadBW rfl (.head _) rfl) rfl rfl rfl rfl ?_
    refine DJ.val [] (OpVal.call rfl (fun m hm => fault6R_any (hv'.le (by repeat (first | exact hm.1 | replace hm := hm.2))) hs)) rfl rfl rfl rfl ?_
    refine DJ.val [] (OpVal.cast (OpVal.opv rfl) (show _ = Value.bool true from congrArg (fun b => Value.bool (!b)) (decide_eq_false hf))) rfl rfl rfl rfl ?_
    refine DJ.val [] (OpVal.opv rfl) rfl rfl rfl rfl ?_
    refine DJ.pass rfl rfl rfl rfl ?_
    refine DJ.pass rfl rfl rfl rfl ?_
    refine DJ.pass rfl rfl rfl rfl ?_
    refine DJ.pass rfl rfl rfl rfl ?_
    refine DJ.pass rfl rfl rfl rfl ?_
    refine DJ.pass rfl rfl rfl rfl ?_
    refine DJ.pass rfl rfl rfl rfl ?_
    refine DJ.pass rfl rfl rfl rfl ?_
    refine DJ.nil ?_
    refine WL.pass rfl rfl rfl ?_
    refine WL.pass rfl rfl rfl ?_
    refine WL.pass rfl rfl rfl ?_
    refine WL.pass rfl rfl rfl ?_
    refine WL.val (OpVal.opv rfl) rfl rfl rfl ?_
    refine WL.val (OpVal.opv rfl) rfl rfl rfl ?_
    refine WL.nil ?_
    refine Kseq.go ?_
    refine W.ret ?_; skip; refine ⟨.inl rfl, [_], h, ⟨.tmp rfl, trivial⟩, (by repeat (first | exact .head _ | refine .tail _ ?_)), ?_⟩
    exact congrArg Value.bool (by rw [hth]; rfl)
/-- ready -/
theorem ready6_any {h : Mem} {v : Value} {r : House} (hv : IsHouse h v r) : FnV Tryz.prog 41 #[v] h (.bool (ready6 r)) := by
  have hv' := hv
  obtain ⟨wv, pv, kv, tv, bv, sv, f, rfl, hA⟩ := hv
  refine FnR.val ?_
  refine FnR.of_W (n := 10) Tryz.func41 rfl rfl (Nat.le_of_ble_eq_true rfl) fun c hr hD hF => ?_
  refine W.seq ?_
  refine W.region ?_
  refine WL.box rfl rfl rfl rfl (fun b1 => ?_)
  refine WL.val (OpVal.opv rfl) rfl rfl rfl ?_
  refine WL.nil ?_
  refine Kseq.go (W.seq ?_)
  cases hth : thin6 r with
  | false =>
    skip
    refine W.region ?_
    refine WL.val (OpVal.loadBW rfl (.head _) rfl) rfl rfl rfl ?_
    refine WL.val (OpVal.cast (OpVal.call rfl (fun m hm => thin6_any (hv'.le (by repeat (first | exact hm.1 | replace hm := hm.2))))) (congrArg Value.bool hth)) rfl rfl rfl ?_
    refine WL.val (OpVal.opv rfl) rfl rfl rfl ?_
    refine WL.pass rfl rfl rfl ?_
    refine WL.pass rfl rfl rfl ?_
    refine WL.pass rfl rfl rfl ?_
    refine WL.val (OpVal.opv rfl) rfl rfl rfl ?_
    refine WL.val (OpVal.opv rfl) rfl rfl rfl ?_
    refine WL.nil ?_
    refine Kseq.go ?_
    refine W.ret ?_; skip; refine ⟨.inl rfl, [_], h, ⟨.tmp rfl, trivial⟩, (by repeat (first | exact .head _ | refine .tail _ ?_)), ?_⟩
    exact congrArg Value.bool (by unfold ready6; rw [hth]; rfl)
  | true =>
    skip
    refine W.region ?_
    refine WL.val (OpVal.loadBW rfl (.head _) rfl) rfl rfl rfl ?_
    refine WL.val (OpVal.cast (OpVal.call rfl (fun m hm => thin6_any (hv'.le (by repeat (first | exact hm.1 | replace hm := hm.2))))) (congrArg Value.bool hth)) rfl rfl rfl ?_
    refine WL.val (OpVal.opv rfl) rfl rfl rfl ?_
    refine WL.val (OpVal.loadBW rfl (.head _) rfl) rfl rfl rfl ?_
    refine WL.val (OpVal.call rfl (fun m hm => fault6L_any (hv'.le (by repeat (first | exact hm.1 | replace hm := hm.2))) (thin6_sm hth))) rfl rfl rfl ?_
    refine WL.val (OpVal.opv rfl) rfl rfl rfl ?_
    refine WL.val (OpVal.opv rfl) rfl rfl rfl ?_
    refine WL.val (OpVal.opv rfl) rfl rfl rfl ?_
    refine WL.nil ?_
    refine Kseq.go ?_
    refine W.ret ?_; skip; refine ⟨.inl rfl, [_], h, ⟨.tmp rfl, trivial⟩, (by repeat (first | exact .head _ | refine .tail _ ?_)), ?_⟩
    exact congrArg Value.bool (by unfold ready6; rw [hth]; rfl)
end Go.Proofs.YtdnbkjgbehakpaaGreat
