/- The reference's functions of chapter 11, on: sure walks, endings, the fewest calls. -/
import Derived.Test.YtdjkokpbeaapoaaGreatT80
namespace Go.Proofs.YtdjkokpbeaapoaaGreat
open Go Go.Eng Go.RowKit

theorem lateR_neg (r : Errand) (l : List Int) : decide (lateR r l < 0) = decide (lateN r l = l.length) := by
  unfold lateR
  split
  · rename_i h; rw [decide_eq_true h]; rfl
  · rename_i h; rw [decide_eq_false h]; exact decide_eq_false (by omega)
/-- ref.IsSure -/
theorem isSureR_any {h : Mem} {v lv : Value} {r : Errand} {walk : List Int} (hv : IsErrand h v r) (hV : ValidE r) (hw : Walk r.n walk) (hl : IsInts h lv walk) : FnV Tryz.prog 24 #[v, lv] h (.bool (sureB r walk)) := by
  have hv' := hv
  obtain ⟨wv, pv, hov, sv, f, rfl, hW, hP, hM, hH, hS⟩ := hv
  have hlb := hl.bd
  refine FnR.val ?_
  refine FnR.of_W (n := 16) Tryz.func24 rfl rfl (Nat.le_of_ble_eq_true rfl) fun c hr hD hF => ?_
  refine W.seq ?_
  refine W.region ?_
  refine WL.box rfl rfl rfl rfl (fun b2 => ?_)
  refine WL.val (OpVal.opv rfl) rfl rfl rfl ?_
  refine WL.nil ?_
  refine Kseq.go (W.seq ?_)
  skip
  skip
  refine W.region ?_
  refine WL.val (OpVal.opv rfl) rfl rfl rfl ?_
  refine WL.val (OpVal.len rfl (by assumption)) rfl rfl rfl ?_
  refine WL.val (OpVal.fieldAddrB rfl) rfl rfl rfl ?_
  refine WL.val (OpVal.loadB rfl (.head _) rfl) rfl rfl rfl ?_
  refine WL.val (OpVal.opv rfl) rfl rfl rfl ?_
  refine WL.val (OpVal.opv rfl) rfl rfl rfl ?_
  refine WL.split rfl rfl (fun g10 => ?_) (fun g10 => ?_)
  · refine WL.val (OpVal.loadBW rfl (.head _) rfl) rfl rfl rfl ?_
    refine WL.val (OpVal.opv rfl) rfl rfl rfl ?_
    refine WL.val (OpVal.call rfl (fun m hm => lateR_any (hv'.le (by repeat (first | exact hm.1 | replace hm := hm.2))) hV hw (hl.le (by repeat (first | exact hm.1 | replace hm := hm.2))))) rfl rfl rfl ?_
    refine WL.val (OpVal.cast (OpVal.opv rfl) (congrArg Value.bool (lateR_neg r walk))) rfl rfl rfl ?_
    refine WL.val (OpVal.opv rfl) rfl rfl rfl ?_
    refine WL.val (OpVal.opv rfl) rfl rfl rfl ?_
    refine WL.nil ?_
    refine Kseq.go ?_
    (refine W.ret ?_; skip; refine ⟨.inl rfl, [_], h, ⟨.tmp rfl, trivial⟩, (by repeat (first | exact .head _ | refine .tail _ ?_)), ?_⟩; exact congrArg Value.bool (by first | (simp [sureB, -List.getD_eq_getElem?_getD]; done) | (simp_all [-List.getD_eq_getElem?_getD]; done) | (simp [sureB, -List.getD_eq_getElem?_getD]; omega) | (rw [Bool.eq_iff_iff]; simp [sureB, -List.getD_eq_getElem?_getD]; omega) | (simp [sureB, -List.getD_eq_getElem?_getD] at *; omega)))
  · refine WL.pass rfl rfl rfl ?_
    refine WL.pass rfl rfl rfl ?_
    refine WL.pass rfl rfl rfl ?_
    refine WL.pass rfl rfl rfl ?_
    refine WL.val (OpVal.opv rfl) rfl rfl rfl ?_
    refine WL.val (OpVal.opv rfl) rfl rfl rfl ?_
    refine WL.nil ?_
    refine Kseq.go ?_
    (refine W.ret ?_; skip; refine ⟨.inl rfl, [_], h, ⟨.tmp rfl, trivial⟩, (by repeat (first | exact .head _ | refine .tail _ ?_)), ?_⟩; exact congrArg Value.bool (by first | (simp [sureB, -List.getD_eq_getElem?_getD]; done) | (simp_all [-List.getD_eq_getElem?_getD]; done) | (simp [sureB, -List.getD_eq_getElem?_getD]; omega) | (rw [Bool.eq_iff_iff]; simp [sureB, -List.getD_eq_getElem?_getD]; omega) | (simp [sureB, -List.getD_eq_getElem?_getD] at *; omega)))
end Go.Proofs.YtdjkokpbeaapoaaGreat
