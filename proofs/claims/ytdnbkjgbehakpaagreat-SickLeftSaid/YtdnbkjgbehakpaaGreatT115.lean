/- The program's functions of chapter 6: CheckHouse. -/
import Derived.Test.YtdnbkjgbehakpaaGreatT114
namespace Go.Proofs.YtdnbkjgbehakpaaGreat
open Go Go.Eng Go.RowKit

def lim6 (r : House) : Bool := decide (5 < r.last ∨ 10 < r.others ∨ 6 < r.touches.length ∨ 4 < r.boiled.length ∨ 5 < r.signs.length)
def arg6 (r : House) : Bool := decide (r.last < 0 ∨ r.others < 0 ∨ 10 < r.things ∨ risingB r.sick r.table.women.length = false)
def bad6 (r : House) : Bool := badOf r.touches (touchOk r) || badOf r.boiled (boilOk r) || badOf r.signs (signOk r)
theorem fault6_eq (r : House) : fault6 r = if lim6 r = true then 3 else if askE r.table ≠ 0 then askE r.table else if arg6 r = true then 1 else if bad6 r = true then 1 else if 2000 < min 3000 (many r.table * times r) then 3 else 0 := by
  unfold fault6 lim6 arg6 bad6
  simp only [decide_eq_true_eq, Bool.or_eq_true, or_assoc]
theorem manyQ_gt (r : House) : (decide (2000 < manyQ r r.tn)) = decide (2000 < min 3000 (many r.table * times r)) := by
  rw [decide_eq_decide]
  unfold manyQ times
  omega
theorem touchZ {r : House} (h : badOf r.touches (touchOk r) = false) (hl : r.last ≤ 5) : ∀ i, i < r.tn → 0 ≤ (r.touches.getD i default).lo ∧ (r.touches.getD i default).lo ≤ (r.touches.getD i default).hi ∧ (r.touches.getD i default).hi ≤ 5 := fun i hi => by
  have := touchOk_iff.1 (bad_iff.1 h i hi)
  omega
/-- CheckHouse -/
theorem checkHouse_any {h : Mem} {v : Value} {r : House} (hv : IsHouse h v r) (hs : SmH r) : FnV Tryz.prog 65 #[v] h (vi (fault6 r)) := by
  have hst := hs.table
  have hwn := hst.1
  have hv' := hv
  obtain ⟨wv, pv, kv, tv, bv, sv, f, rfl, hA⟩ := hv
  have hW := hA.W
  have hK := hA.K
  have hT := hA.T
  have hB := hA.B
  have hS := hA.S
  have hTab := hA.table
  have hl := hs.touches
  have hl2 := hs.boiled
  have hl3 := hs.signs
  refine FnR.val ?_
  refine FnR.of_W (n := 97) Tryz.func65 rfl rfl (Nat.le_of_ble_eq_true rfl) fun c hr hD hF => ?_
  refine W.seq ?_
  refine W.region ?_
  refine WL.box rfl rfl rfl rfl (fun b1 => ?_)
  refine WL.val (OpVal.opv rfl) rfl rfl rfl ?_
  refine WL.nil ?_
  refine Kseq.go (W.seq (W.seq ?_))
  skip
  refine W.toS [(1, .pointer (some ⟨b1, 0, none⟩)), (33, .bool (lim6 r))] ?_ ?_
  · skip
    refine W.region ?_
    refine WL.val (OpVal.fieldAddrB rfl) rfl rfl rfl ?_
    refine WL.val (OpVal.loadB rfl (.head _) rfl) rfl rfl rfl ?_
    refine WL.val (OpVal.opv rfl) rfl rfl rfl ?_
    refine WL.val (OpVal.opv rfl) rfl rfl rfl ?_
    refine WL.split rfl rfl (fun g11 => ?_) (fun g11 => ?_)
    · refine WL.pass rfl rfl rfl ?_
      refine WL.pass rfl rfl rfl ?_
      refine WL.pass rfl rfl rfl ?_
      refine WL.val (OpVal.opv rfl) rfl rfl rfl ?_
      refine WL.val (OpVal.opv rfl) rfl rfl rfl ?_
      refine WL.pass rfl rfl rfl ?_
      refine WL.pass rfl rfl rfl ?_
      refine WL.pass rfl rfl rfl ?_
      refine WL.pass rfl rfl rfl ?_
      refine WL.val (OpVal.opv rfl) rfl rfl rfl ?_
      refine WL.val (OpVal.opv rfl) rfl rfl rfl ?_
      refine WL.pass rfl rfl rfl ?_
      refine WL.pass rfl rfl rfl ?_
      refine WL.pass rfl rfl rfl ?_
      refine WL.pass rfl rfl rfl ?_
      refine WL.val (OpVal.opv rfl) rfl rfl rfl ?_
      refine WL.val (OpVal.opv rfl) rfl rfl rfl ?_
      refine WL.pass rfl rfl rfl ?_
      refine WL.pass rfl rfl rfl ?_
      refine WL.pass rfl rfl rfl ?_
      refine WL.pass rfl rfl rfl ?_
      refine WL.val (OpVal.opv rfl) rfl rfl rfl ?_
      refine WL.nil ?_
      skip
      exact Keff.intro ⟨rfl, congrArg (fun b => some (Value.bool b)) (by unfold lim6; exact (by first | (simp [true_and, -List.getD_eq_getElem?_getD]; done) | (simp_all [-List.getD_eq_getElem?_getD]; done) | (simp [true_and, -List.getD_eq_getElem?_getD]; omega) | (rw [Bool.eq_iff_iff]; simp [true_and, -List.getD_eq_getElem?_getD]; omega) | (simp [true_and, -List.getD_eq_getElem?_getD] at *; omega))), trivial⟩ (by simp) (by repeat (first | exact List.Sublist.refl _ | refine List.Sublist.cons _ ?_ | refine List.Sublist.cons_cons _ ?_))
    · refine WL.val (OpVal.fieldAddrB rfl) rfl rfl rfl ?_
      refine WL.val (OpVal.loadB rfl (.head _) rfl) rfl rfl rfl ?_
      refine WL.val (OpVal.opv rfl) rfl rfl rfl ?_
      refine WL.val (OpVal.opv rfl) rfl rfl rfl ?_
      refine WL.val (OpVal.opv rfl) rfl rfl rfl ?_
      refine WL.split rfl rfl (fun g16 => ?_) (fun g16 => ?_)
      · refine WL.pass rfl rfl rfl ?_
        refine WL.pass rfl rfl rfl ?_
        refine WL.pass rfl rfl rfl ?_
        refine WL.pass rfl rfl rfl ?_
        refine WL.val (OpVal.opv rfl) rfl rfl rfl ?_
        refine WL.val (OpVal.opv rfl) rfl rfl rfl ?_
        refine WL.pass rfl rfl rfl ?_
        refine WL.pass rfl rfl rfl ?_
        refine WL.pass rfl rfl rfl ?_
        refine WL.pass rfl rfl rfl ?_
        refine WL.val (OpVal.opv rfl) rfl rfl rfl ?_
        refine WL.val (OpVal.opv rfl) rfl rfl rfl ?_
        refine WL.pass rfl rfl rfl ?_
        refine WL.pass rfl rfl rfl ?_
        refine WL.pass rfl rfl rfl ?_
        refine WL.pass rfl rfl rfl ?_
        refine WL.val (OpVal.opv rfl) rfl rfl rfl ?_
        refine WL.nil ?_
        skip
        exact Keff.intro ⟨rfl, congrArg (fun b => some (Value.bool b)) (by unfold lim6; exact (by first | (simp [true_and, -List.getD_eq_getElem?_getD]; done) | (simp_all [-List.getD_eq_getElem?_getD]; done) | (simp [true_and, -List.getD_eq_getElem?_getD]; omega) | (rw [Bool.eq_iff_iff]; simp [true_and, -List.getD_eq_getElem?_getD]; omega) | (simp [true_and, -List.getD_eq_getElem?_getD] at *; omega))), trivial⟩ (by simp) (by repeat (first | exact List.Sublist.refl _ | refine List.Sublist.cons _ ?_ | refine List.Sublist.cons_cons _ ?_))
      · refine WL.val (OpVal.fieldAddrB rfl) rfl rfl rfl ?_
        refine WL.val (OpVal.loadB rfl (.head _) rfl) rfl rfl rfl ?_
        refine WL.val (OpVal.len rfl hT) rfl rfl rfl ?_
        refine WL.val (OpVal.opv rfl) rfl rfl rfl ?_
        refine WL.val (OpVal.opv rfl) rfl rfl rfl ?_
        refine WL.val (OpVal.opv rfl) rfl rfl rfl ?_
        refine WL.split rfl rfl (fun g22 => ?_) (fun g22 => ?_)
        · refine WL.pass rfl rfl rfl ?_
          refine WL.pass rfl rfl rfl ?_
          refine WL.pass rfl rfl rfl ?_
          refine WL.pass rfl rfl rfl ?_
          refine WL.val (OpVal.opv rfl) rfl rfl rfl ?_
          refine WL.val (OpVal.opv rfl) rfl rfl rfl ?_
          refine WL.pass rfl rfl rfl ?_
          refine WL.pass rfl rfl rfl ?_
          refine WL.pass rfl rfl rfl ?_
          refine WL.pass rfl rfl rfl ?_
          refine WL.val (OpVal.opv rfl) rfl rfl rfl ?_
          refine WL.nil ?_
          skip
          exact Keff.intro ⟨rfl, congrArg (fun b => some (Value.bool b)) (by unfold lim6; exact (by first | (simp [true_and, -List.getD_eq_getElem?_getD]; done) | (simp_all [-List.getD_eq_getElem?_getD]; done) | (simp [true_and, -List.getD_eq_getElem?_getD]; omega) | (rw [Bool.eq_iff_iff]; simp [true_and, -List.getD_eq_getElem?_getD]; omega) | (simp [true_and, -List.getD_eq_getElem?_getD] at *; omega))), trivial⟩ (by simp) (by repeat (first | exact List.Sublist.refl _ | refine List.Sublist.cons _ ?_ | refine List.Sublist.cons_cons _ ?_))
        · refine WL.val (OpVal.fieldAddrB rfl) rfl rfl rfl ?_
          refine WL.val (OpVal.loadB rfl (.head _) rfl) rfl rfl rfl ?_
          refine WL.val (OpVal.len rfl hB) rfl rfl rfl ?_
          refine WL.val (OpVal.opv rfl) rfl rfl rfl ?_
          refine WL.val (OpVal.opv rfl) rfl rfl rfl ?_
          refine WL.val (OpVal.opv rfl) rfl rfl rfl ?_
          refine WL.split rfl rfl (fun g28 => ?_) (fun g28 => ?_)
          · refine WL.pass rfl rfl rfl ?_
            refine WL.pass rfl rfl rfl ?_
            refine WL.pass rfl rfl rfl ?_
            refine WL.pass rfl rfl rfl ?_
            refine WL.val (OpVal.opv rfl) rfl rfl rfl ?_
            refine WL.nil ?_
            skip
            exact Keff.intro ⟨rfl, congrArg (fun b => some (Value.bool b)) (by unfold lim6; exact (by first | (simp [true_and, -List.getD_eq_getElem?_getD]; done) | (simp_all [-List.getD_eq_getElem?_getD]; done) | (simp [true_and, -List.getD_eq_getElem?_getD]; omega) | (rw [Bool.eq_iff_iff]; simp [true_and, -List.getD_eq_getElem?_getD]; omega) | (simp [true_and, -List.getD_eq_getElem?_getD] at *; omega))), trivial⟩ (by simp) (by repeat (first | exact List.Sublist.refl _ | refine List.Sublist.cons _ ?_ | refine List.Sublist.cons_cons _ ?_))
          · refine WL.val (OpVal.fieldAddrB rfl) rfl rfl rfl ?_
            refine WL.val (OpVal.loadB rfl (.head _) rfl) rfl rfl rfl ?_
            refine WL.val (OpVal.len rfl hS) rfl rfl rfl ?_
            refine WL.val (OpVal.opv rfl) rfl rfl rfl ?_
            refine WL.val (OpVal.opv rfl) rfl rfl rfl ?_
            refine WL.nil ?_
            skip
            exact Keff.intro ⟨rfl, congrArg (fun b => some (Value.bool b)) (by unfold lim6; exact (by first | (simp [true_and, -List.getD_eq_getElem?_getD]; done) | (simp_all [-List.getD_eq_getElem?_getD]; done) | (simp [true_and, -List.getD_eq_getElem?_getD]; omega) | (rw [Bool.eq_iff_iff]; simp [true_and, -List.getD_eq_getElem?_getD]; omega) | (simp [true_and, -List.getD_eq_getElem?_getD] at *; omega))), trivial⟩ (by simp) (by repeat (first | exact List.Sublist.refl _ | refine List.Sublist.cons _ ?_ | refine List.Sublist.cons_cons _ ?_))
  rw [fault6_eq]
  refine Kseq.go ?_
  refine W.cond rfl rfl (fun h1 => ?_) (fun h1 => ?_)
  · refine W.seq ?_
    refine W.region ?_
    refine WL.val (OpVal.opv rfl) rfl rfl rfl ?_
    refine WL.nil ?_
    refine Kseq.go ?_
    refine W.ret ?_; refine Kseq.ret ?_; refine ⟨.inl rfl, [_], h, ⟨.tmp rfl, trivial⟩, (by repeat (first | exact .head _ | refine .tail _ ?_)), ?_⟩
    rw [if_pos h1]; rfl
  refine W.skip (Kseq.go (W.seq (W.seq ?_)))
  rw [if_neg (by simpa using h1)]
  have hlim := h1
  unfold lim6 at hlim
  rw [decide_eq_false_iff_not] at hlim
  skip
  refine W.region ?_
  refine WL.val (OpVal.fieldAddrB rfl) rfl rfl rfl ?_
  refine WL.val (OpVal.loadBA (vs := [wv, pv, vi r.table.wrong]) rfl (.head _) rfl rfl) rfl rfl rfl ?_
  (refine WL.abs (OpAbs.call rfl (fun m hm => whoseT_any (hTab.le (by repeat (first | exact hm.1 | replace hm := hm.2))) hst)) rfl rfl rfl ?_; rintro m37 _ ⟨lv, rfl, _⟩)
  refine WL.val (OpVal.opv rfl) rfl rfl rfl ?_
  refine WL.val (OpVal.opv rfl) rfl rfl rfl ?_
  refine WL.val (OpVal.opv rfl) rfl rfl rfl ?_
  refine WL.val (OpVal.opv rfl) rfl rfl rfl ?_
  refine WL.val (OpVal.opv rfl) rfl rfl rfl ?_
  refine WL.nil ?_
  refine Kseq.go (W.seq ?_)
  skip
  refine W.region ?_
  refine WL.val (OpVal.opv rfl) rfl rfl rfl ?_
  refine WL.val (OpVal.opv rfl) rfl rfl rfl ?_
  refine WL.nil ?_
  refine Kseq.go ?_
  refine W.cond rfl rfl (fun h2 => ?_) (fun h2 => ?_)
  · have he : askE r.table ≠ 0 := by simpa using h2
    rw [if_pos he]
    refine W.seq ?_
    refine W.region ?_
    refine WL.val (OpVal.opv rfl) rfl rfl rfl ?_
    refine WL.val (OpVal.opv rfl) rfl rfl rfl ?_
    refine WL.nil ?_
    refine Kseq.go ?_
    refine W.ret ?_; refine Kseq.ret ?_; refine ⟨.inl rfl, [_], h, ⟨.tmp rfl, trivial⟩, (by repeat (first | exact .head _ | refine .tail _ ?_)), ?_⟩
    rfl
  have he : askE r.table = 0 := by simpa using h2
  rw [if_neg (by simpa using he)]
  refine W.skip (Kseq.go (W.seq ?_))
  skip
  refine W.draw 8 (by kernel_rfl) (by kernel_rfl) (by kernel_rfl) rfl ?_
  refine DJ.val [] (OpVal.loadBW rfl (.head _) rfl) rfl rfl rfl rfl ?_
  refine DJ.val [] (OpVal.opv rfl) rfl rfl rfl rfl ?_
  refine DJ.val [] (OpVal.loadBW rfl (.head _) rfl) rfl rfl rfl rfl ?_
  refine DJ.val [] (OpVal.opv rfl) rfl rfl rfl rfl ?_
  refine DJ.val [] (OpVal.loadBW rfl (.head _) rfl) rfl rfl rfl rfl ?_
  refine DJ.val [] (OpVal.opv rfl) rfl rfl rfl rfl ?_
  refine DJ.val [] (OpVal.opv rfl) rfl rfl rfl rfl ?_
  refine DJ.val [] (OpVal.opv rfl) rfl rfl rfl rfl ?_
  refine DJ.nil ?_
  refine WL.val (OpVal.opv rfl) rfl rfl rfl ?_
  refine WL.nil ?_
  refine Kseq.go (W.seq (W.block (W.seq ?_)))
  skip
  refine W.toS [(1, .pointer (some ⟨b1, 0, none⟩)), (5, .func (.func 114) #[.agg (hcs wv pv kv tv bv sv r)] #[]), (6, .func (.func 115) #[.agg (hcs wv pv kv tv bv sv r)] #[]), (7, .func (.func 116) #[.agg (hcs wv pv kv tv bv sv r)] #[]), (49, .bool (arg6 r))] ?_ ?_
  · have hris : risW r.sick (wr ((r.table.women.length : Int) - 1)) = risingB r.sick r.table.women.length := by
      rw [show wr ((r.table.women.length : Int) - 1) = (r.table.women.length : Int) - 1 from i64_in (by omega) (by omega)]
      exact risW_eq (by omega) (by omega)
    skip
    refine W.region ?_
    refine WL.val (OpVal.fieldAddrB rfl) rfl rfl rfl ?_
    refine WL.val (OpVal.loadB rfl (.head _) rfl) rfl rfl rfl ?_
    refine WL.val (OpVal.opv rfl) rfl rfl rfl ?_
    refine WL.val (OpVal.opv rfl) rfl rfl rfl ?_
    refine WL.split rfl rfl (fun g53 => ?_) (fun g53 => ?_)
    · refine WL.pass rfl rfl rfl ?_
      refine WL.pass rfl rfl rfl ?_
      refine WL.pass rfl rfl rfl ?_
      refine WL.val (OpVal.opv rfl) rfl rfl rfl ?_
      refine WL.val (OpVal.opv rfl) rfl rfl rfl ?_
      refine WL.pass rfl rfl rfl ?_
      refine WL.pass rfl rfl rfl ?_
      refine WL.pass rfl rfl rfl ?_
      refine WL.val (OpVal.opv rfl) rfl rfl rfl ?_
      refine WL.val (OpVal.opv rfl) rfl rfl rfl ?_
      refine WL.pass rfl rfl rfl ?_
      refine WL.pass rfl rfl rfl ?_
      refine WL.pass rfl rfl rfl ?_
      refine WL.pass rfl rfl rfl ?_
      refine WL.pass rfl rfl rfl ?_
      refine WL.pass rfl rfl rfl ?_
      refine WL.pass rfl rfl rfl ?_
      refine WL.pass rfl rfl rfl ?_
      refine WL.val (OpVal.opv rfl) rfl rfl rfl ?_
      refine WL.val (OpVal.opv rfl) rfl rfl rfl ?_
      refine WL.nil ?_
      skip
      exact Keff.intro ⟨rfl, rfl, rfl, rfl, congrArg (fun b => some (Value.bool b)) (by unfold arg6; first | exact (by first | (simp [true_and, -List.getD_eq_getElem?_getD]; done) | (simp_all [-List.getD_eq_getElem?_getD]; done) | (simp [true_and, -List.getD_eq_getElem?_getD]; omega) | (rw [Bool.eq_iff_iff]; simp [true_and, -List.getD_eq_getElem?_getD]; omega) | (simp [true_and, -List.getD_eq_getElem?_getD] at *; omega)) | (rw [Bool.eq_iff_iff]; simp only [Bool.not_eq_true', decide_eq_true_eq]; constructor; (intro h; exact .inr (.inr (.inr h))); (rintro (h | h | h | h) <;> first | omega | exact h))), trivial⟩ (by simp) (by repeat (first | exact List.Sublist.refl _ | refine List.Sublist.cons _ ?_ | refine List.Sublist.cons_cons _ ?_))
    · refine WL.val (OpVal.fieldAddrB rfl) rfl rfl rfl ?_
      refine WL.val (OpVal.loadB rfl (.head _) rfl) rfl rfl rfl ?_
      refine WL.val (OpVal.opv rfl) rfl rfl rfl ?_
      refine WL.val (OpVal.opv rfl) rfl rfl rfl ?_
      refine WL.val (OpVal.opv rfl) rfl rfl rfl ?_
      refine WL.split rfl rfl (fun g58 => ?_) (fun g58 => ?_)
      · refine WL.pass rfl rfl rfl ?_
        refine WL.pass rfl rfl rfl ?_
        refine WL.pass rfl rfl rfl ?_
        refine WL.val (OpVal.opv rfl) rfl rfl rfl ?_
        refine WL.val (OpVal.opv rfl) rfl rfl rfl ?_
        refine WL.pass rfl rfl rfl ?_
        refine WL.pass rfl rfl rfl ?_
        refine WL.pass rfl rfl rfl ?_
        refine WL.pass rfl rfl rfl ?_
        refine WL.pass rfl rfl rfl ?_
        refine WL.pass rfl rfl rfl ?_
        refine WL.pass rfl rfl rfl ?_
        refine WL.pass rfl rfl rfl ?_
        refine WL.val (OpVal.opv rfl) rfl rfl rfl ?_
        refine WL.val (OpVal.opv rfl) rfl rfl rfl ?_
        refine WL.nil ?_
        skip
        exact Keff.intro ⟨rfl, rfl, rfl, rfl, congrArg (fun b => some (Value.bool b)) (by unfold arg6; first | exact (by first | (simp [true_and, -List.getD_eq_getElem?_getD]; done) | (simp_all [-List.getD_eq_getElem?_getD]; done) | (simp [true_and, -List.getD_eq_getElem?_getD]; omega) | (rw [Bool.eq_iff_iff]; simp [true_and, -List.getD_eq_getElem?_getD]; omega) | (simp [true_and, -List.getD_eq_getElem?_getD] at *; omega)) | (rw [Bool.eq_iff_iff]; simp only [Bool.not_eq_true', decide_eq_true_eq]; constructor; (intro h; exact .inr (.inr (.inr h))); (rintro (h | h | h | h) <;> first | omega | exact h))), trivial⟩ (by simp) (by repeat (first | exact List.Sublist.refl _ | refine List.Sublist.cons _ ?_ | refine List.Sublist.cons_cons _ ?_))
      · refine WL.val (OpVal.loadBW rfl (.head _) rfl) rfl rfl rfl ?_
        refine WL.val (OpVal.cast (OpVal.call rfl (fun m hm => things6_any (hv'.le (by repeat (first | exact hm.1 | replace hm := hm.2))))) (congrArg (Value.int .i64) (FitH.eq ⟨by unfold House.things; omega, by unfold House.things House.np; have := hst.2.1; omega⟩))) rfl rfl rfl ?_
        refine WL.val (OpVal.opv rfl) rfl rfl rfl ?_
        refine WL.val (OpVal.opv rfl) rfl rfl rfl ?_
        refine WL.val (OpVal.opv rfl) rfl rfl rfl ?_
        refine WL.split rfl rfl (fun g63 => ?_) (fun g63 => ?_)
        · refine WL.pass rfl rfl rfl ?_
          refine WL.pass rfl rfl rfl ?_
          refine WL.pass rfl rfl rfl ?_
          refine WL.pass rfl rfl rfl ?_
          refine WL.pass rfl rfl rfl ?_
          refine WL.pass rfl rfl rfl ?_
          refine WL.pass rfl rfl rfl ?_
          refine WL.pass rfl rfl rfl ?_
          refine WL.val (OpVal.opv rfl) rfl rfl rfl ?_
          refine WL.val (OpVal.opv rfl) rfl rfl rfl ?_
          refine WL.nil ?_
          skip
          exact Keff.intro ⟨rfl, rfl, rfl, rfl, congrArg (fun b => some (Value.bool b)) (by unfold arg6; first | exact (by first | (simp [true_and, -List.getD_eq_getElem?_getD]; done) | (simp_all [-List.getD_eq_getElem?_getD]; done) | (simp [true_and, -List.getD_eq_getElem?_getD]; omega) | (rw [Bool.eq_iff_iff]; simp [true_and, -List.getD_eq_getElem?_getD]; omega) | (simp [true_and, -List.getD_eq_getElem?_getD] at *; omega)) | (rw [Bool.eq_iff_iff]; simp only [Bool.not_eq_true', decide_eq_true_eq]; constructor; (intro h; exact .inr (.inr (.inr h))); (rintro (h | h | h | h) <;> first | omega | exact h))), trivial⟩ (by simp) (by repeat (first | exact List.Sublist.refl _ | refine List.Sublist.cons _ ?_ | refine List.Sublist.cons_cons _ ?_))
        · refine WL.val (OpVal.fieldAddrB rfl) rfl rfl rfl ?_
          refine WL.val (OpVal.loadB rfl (.head _) rfl) rfl rfl rfl ?_
          refine WL.val (OpVal.fieldAddrB rfl) rfl rfl rfl ?_
          refine WL.val (OpVal.fieldAddrB rfl) rfl rfl rfl ?_
          refine WL.val (OpVal.loadB rfl (.head _) rfl) rfl rfl rfl ?_
          refine WL.val (OpVal.len rfl hW) rfl rfl rfl ?_
          refine WL.val (OpVal.cast (OpVal.call rfl (fun m hm => rising_any _ (hK.le (by repeat (first | exact hm.1 | replace hm := hm.2))))) (congrArg Value.bool hris)) rfl rfl rfl ?_
          refine WL.val (OpVal.opv rfl) rfl rfl rfl ?_
          refine WL.val (OpVal.opv rfl) rfl rfl rfl ?_
          refine WL.val (OpVal.opv rfl) rfl rfl rfl ?_
          refine WL.nil ?_
          skip
          exact Keff.intro ⟨rfl, rfl, rfl, rfl, congrArg (fun b => some (Value.bool b)) (by unfold arg6; first | exact (by first | (simp [true_and, -List.getD_eq_getElem?_getD]; done) | (simp_all [-List.getD_eq_getElem?_getD]; done) | (simp [true_and, -List.getD_eq_getElem?_getD]; omega) | (rw [Bool.eq_iff_iff]; simp [true_and, -List.getD_eq_getElem?_getD]; omega) | (simp [true_and, -List.getD_eq_getElem?_getD] at *; omega)) | (rw [Bool.eq_iff_iff]; simp only [Bool.not_eq_true', decide_eq_true_eq]; constructor; (intro h; exact .inr (.inr (.inr h))); (rintro (h | h | h | h) <;> first | omega | exact h))), trivial⟩ (by simp) (by repeat (first | exact List.Sublist.refl _ | refine List.Sublist.cons _ ?_ | refine List.Sublist.cons_cons _ ?_))
  refine Kseq.go ?_
  refine W.cond rfl rfl (fun h3 => ?_) (fun h3 => ?_)
  · refine W.seq ?_
    refine W.region ?_
    refine WL.val (OpVal.opv rfl) rfl rfl rfl ?_
    refine WL.nil ?_
    refine Kseq.go ?_
    refine W.ret ?_; refine Kblock.ret (Kseq.ret ?_); refine ⟨.inl rfl, [_], h, ⟨.tmp rfl, trivial⟩, (by repeat (first | exact .head _ | refine .tail _ ?_)), ?_⟩
    rw [if_pos h3]; rfl
  refine W.seq ?_
  rw [if_neg (by simpa using h3)]
  have harg := h3
  unfold arg6 at harg
  rw [decide_eq_false_iff_not] at harg
  have hfit : FitH r := ⟨by unfold House.things at *; omega, by omega⟩
  refine W.toS [(1, .pointer (some ⟨b1, 0, none⟩)), (73, .bool (bad6 r))] ?_ ?_
  · skip
    refine W.region ?_
    refine WL.val (OpVal.fieldAddrB rfl) rfl rfl rfl ?_
    refine WL.val (OpVal.loadB rfl (.head _) rfl) rfl rfl rfl ?_
    refine WL.val (OpVal.opv rfl) rfl rfl rfl ?_
    refine WL.val (OpVal.cast (OpVal.call rfl (fun m hm => all6T_any (p := fun i => touchOk r (r.touches.getD i default)) (hT.le (by repeat (first | exact hm.1 | replace hm := hm.2))) (fun i hi m' hm' => touch6_any (r.touches.getD i default) ((hv'.le (by repeat (first | exact hm.1 | replace hm := hm.2))).le hm') hfit))) (show _ = Value.bool (!badOf r.touches (touchOk r)) from rfl)) rfl rfl rfl ?_
    refine WL.val (OpVal.opv rfl) rfl rfl rfl ?_
    refine WL.val (OpVal.opv rfl) rfl rfl rfl ?_
    refine WL.splitB rfl rfl (fun g79 => ?_) (fun g79 => ?_)
    · refine WL.pass rfl rfl rfl ?_
      refine WL.pass rfl rfl rfl ?_
      refine WL.pass rfl rfl rfl ?_
      refine WL.pass rfl rfl rfl ?_
      refine WL.pass rfl rfl rfl ?_
      refine WL.val (OpVal.opv rfl) rfl rfl rfl ?_
      refine WL.val (OpVal.opv rfl) rfl rfl rfl ?_
      refine WL.pass rfl rfl rfl ?_
      refine WL.pass rfl rfl rfl ?_
      refine WL.pass rfl rfl rfl ?_
      refine WL.pass rfl rfl rfl ?_
      refine WL.pass rfl rfl rfl ?_
      refine WL.val (OpVal.opv rfl) rfl rfl rfl ?_
      refine WL.val (OpVal.opv rfl) rfl rfl rfl ?_
      refine WL.nil ?_
      skip
      exact Keff.intro ⟨rfl, congrArg (fun b => some (Value.bool b)) (by unfold bad6; exact (by first | (simp [true_and, -List.getD_eq_getElem?_getD]; done) | (simp_all [-List.getD_eq_getElem?_getD]; done) | (simp [true_and, -List.getD_eq_getElem?_getD]; omega) | (rw [Bool.eq_iff_iff]; simp [true_and, -List.getD_eq_getElem?_getD]; omega) | (simp [true_and, -List.getD_eq_getElem?_getD] at *; omega))), trivial⟩ (by simp) (by repeat (first | exact List.Sublist.refl _ | refine List.Sublist.cons _ ?_ | refine List.Sublist.cons_cons _ ?_))
    · refine WL.val (OpVal.fieldAddrB rfl) rfl rfl rfl ?_
      refine WL.val (OpVal.loadB rfl (.head _) rfl) rfl rfl rfl ?_
      refine WL.val (OpVal.opv rfl) rfl rfl rfl ?_
      refine WL.val (OpVal.cast (OpVal.call rfl (fun m hm => all6B_any (p := fun i => boilOk r (r.boiled.getD i default)) (hB.le (by repeat (first | exact hm.1 | replace hm := hm.2))) (fun i hi m' hm' => boiling6_any (r.boiled.getD i default) ((hv'.le (by repeat (first | exact hm.1 | replace hm := hm.2))).le hm') hfit))) (show _ = Value.bool (!badOf r.boiled (boilOk r)) from rfl)) rfl rfl rfl ?_
      refine WL.val (OpVal.opv rfl) rfl rfl rfl ?_
      refine WL.val (OpVal.opv rfl) rfl rfl rfl ?_
      refine WL.val (OpVal.opv rfl) rfl rfl rfl ?_
      refine WL.splitB rfl rfl (fun g86 => ?_) (fun g86 => ?_)
      · refine WL.pass rfl rfl rfl ?_
        refine WL.pass rfl rfl rfl ?_
        refine WL.pass rfl rfl rfl ?_
        refine WL.pass rfl rfl rfl ?_
        refine WL.pass rfl rfl rfl ?_
        refine WL.val (OpVal.opv rfl) rfl rfl rfl ?_
        refine WL.val (OpVal.opv rfl) rfl rfl rfl ?_
        refine WL.nil ?_
        skip
        exact Keff.intro ⟨rfl, congrArg (fun b => some (Value.bool b)) (by unfold bad6; exact (by first | (simp [true_and, -List.getD_eq_getElem?_getD]; done) | (simp_all [-List.getD_eq_getElem?_getD]; done) | (simp [true_and, -List.getD_eq_getElem?_getD]; omega) | (rw [Bool.eq_iff_iff]; simp [true_and, -List.getD_eq_getElem?_getD]; omega) | (simp [true_and, -List.getD_eq_getElem?_getD] at *; omega))), trivial⟩ (by simp) (by repeat (first | exact List.Sublist.refl _ | refine List.Sublist.cons _ ?_ | refine List.Sublist.cons_cons _ ?_))
      · refine WL.val (OpVal.fieldAddrB rfl) rfl rfl rfl ?_
        refine WL.val (OpVal.loadB rfl (.head _) rfl) rfl rfl rfl ?_
        refine WL.val (OpVal.opv rfl) rfl rfl rfl ?_
        refine WL.val (OpVal.cast (OpVal.call rfl (fun m hm => all6S_any (p := fun i => signOk r (r.signs.getD i default)) (hS.le (by repeat (first | exact hm.1 | replace hm := hm.2))) (fun i hi m' hm' => sign6_any (r.signs.getD i default) ((hv'.le (by repeat (first | exact hm.1 | replace hm := hm.2))).le hm') hfit))) (show _ = Value.bool (!badOf r.signs (signOk r)) from rfl)) rfl rfl rfl ?_
        refine WL.val (OpVal.opv rfl) rfl rfl rfl ?_
        refine WL.val (OpVal.opv rfl) rfl rfl rfl ?_
        refine WL.val (OpVal.opv rfl) rfl rfl rfl ?_
        refine WL.nil ?_
        skip
        exact Keff.intro ⟨rfl, congrArg (fun b => some (Value.bool b)) (by unfold bad6; exact (by first | (simp [true_and, -List.getD_eq_getElem?_getD]; done) | (simp_all [-List.getD_eq_getElem?_getD]; done) | (simp [true_and, -List.getD_eq_getElem?_getD]; omega) | (rw [Bool.eq_iff_iff]; simp [true_and, -List.getD_eq_getElem?_getD]; omega) | (simp [true_and, -List.getD_eq_getElem?_getD] at *; omega))), trivial⟩ (by simp) (by repeat (first | exact List.Sublist.refl _ | refine List.Sublist.cons _ ?_ | refine List.Sublist.cons_cons _ ?_))
  refine Kseq.go ?_
  refine W.cond rfl rfl (fun h4 => ?_) (fun h4 => ?_)
  · refine W.seq ?_
    refine W.region ?_
    refine WL.val (OpVal.opv rfl) rfl rfl rfl ?_
    refine WL.nil ?_
    refine Kseq.go ?_
    refine W.ret ?_; refine Kblock.ret (Kseq.ret ?_); refine ⟨.inl rfl, [_], h, ⟨.tmp rfl, trivial⟩, (by repeat (first | exact .head _ | refine .tail _ ?_)), ?_⟩
    rw [if_pos h4]; rfl
  refine W.seq ?_
  rw [if_neg (by simpa using h4)]
  have hb : badOf r.touches (touchOk r) = false := by
    unfold bad6 at h4
    simp only [Bool.or_eq_false_iff] at h4
    exact h4.1.1
  skip
  refine W.region ?_
  refine WL.val (OpVal.loadBW rfl (.head _) rfl) rfl rfl rfl ?_
  refine WL.val (OpVal.call rfl (fun m hm => many6_any (hv'.le (by repeat (first | exact hm.1 | replace hm := hm.2))) hs (touchZ hb (by omega)))) rfl rfl rfl ?_
  refine WL.val (OpVal.opv rfl) rfl rfl rfl ?_
  refine WL.val (OpVal.opv rfl) rfl rfl rfl ?_
  refine WL.nil ?_
  refine Kseq.go ?_
  refine W.cond rfl rfl (fun h5 => ?_) (fun h5 => ?_)
  · have h5' := h5
    rw [manyQ_gt] at h5'
    refine W.seq ?_
    refine W.region ?_
    refine WL.val (OpVal.opv rfl) rfl rfl rfl ?_
    refine WL.nil ?_
    refine Kseq.go ?_
    refine W.ret ?_; refine Kblock.ret (Kseq.ret ?_); refine ⟨.inl rfl, [_], h, ⟨.tmp rfl, trivial⟩, (by repeat (first | exact .head _ | refine .tail _ ?_)), ?_⟩
    rw [if_pos (of_decide_eq_true h5')]; rfl
  refine W.skip (Kblock.normal (Kseq.go (W.seq ?_)))
  have h5' := h5
  rw [manyQ_gt] at h5'
  skip
  refine W.region ?_
  refine WL.val (OpVal.opv rfl) rfl rfl rfl ?_
  refine WL.nil ?_
  refine Kseq.go ?_
  refine W.ret ?_; skip; refine ⟨.inl rfl, [_], h, ⟨.tmp rfl, trivial⟩, (by repeat (first | exact .head _ | refine .tail _ ?_)), ?_⟩
  rw [if_neg (of_decide_eq_false h5')]; rfl
end Go.Proofs.YtdnbkjgbehakpaaGreat
