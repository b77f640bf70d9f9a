/- The reference's functions of chapter 11, on: sure walks, endings, the fewest calls. -/
import Derived.Test.YtjligncpaeeljaaGreatT80
namespace Go.Proofs.YtjligncpaeeljaaGreat
open Go Go.Eng Go.RowKit

theorem lateR_neg (r : Errand) (l : List Int) : decide (lateR r l < 0) = decide (lateN r l = l.length) := by
  unfold lateR
  split
  · rename_i h; rw [decide_eq_true h]; rfl
  · rename_i h; rw [decide_eq_false h]; exact decide_eq_false (by omega)
/-- ref.IsSure -/
theorem isSureR_any {h : Mem} {v lv : Value} {r : Errand} {walk : List Int} (hv : IsErrand h v r) (hV : ValidE r) (hw : Walk r.n walk) (hl : IsInts h lv walk) : FnV Tryz.prog 55 #[v, lv] h (.bool (sureB r walk)) := by
  have hv' := hv
  obtain ⟨wv, pv, hov, sv, f, rfl, hW, hP, hM, hH, hS⟩ := hv
  have hlb := hl.bd
  refine FnR.val ?_
  refine FnR.of_W (n := 16) Tryz.func55 rfl rfl (Nat.le_of_ble_eq_true rfl) fun c hr hD hF => ?_
  refine W.seq ?_
  refine W.region ?_
  refine WL.box rfl rfl rfl rfl (fun b2 => ?_)
  refine WL.val (OpVal.opv rfl) rfl rfl rfl ?_
  refine WL.nil ?_
  refine Kseq.go (W.seq ?_)
  skip
  skip
  refine W.region ?_
  refine WL.val (OpVal.opv rfl) rfl rfl rfl ?_
  refine WL.val (OpVal.len rfl (by assumption)) rfl rfl rfl ?_
  refine WL.val (OpVal.fieldAddrB rfl) rfl rfl rfl ?_
  refine WL.val (OpVal.loadB rfl (.head _) rfl) rfl rfl rfl ?_
  refine WL.val (OpVal.opv rfl) rfl rfl rfl ?_
  refine WL.val (OpVal.opv rfl) rfl rfl rfl ?_
  refine WL.split rfl rfl (fun g10 => ?_) (fun g10 => ?_)
  · refine WL.val (OpVal.loadBW rfl (.head _) rfl) rfl rfl rfl ?_
    refine WL.val (OpVal.opv rfl) rfl rfl rfl ?_
    refine WL.val (OpVal.call rfl (fun m hm => lateR_any (hv'.le (by repeat (first | exact hm.1 | replace hm := hm.2))) hV hw (hl.le (by repeat (first | exact hm.1 | replace hm := hm.2))))) rfl rfl rfl ?_
    refine WL.val (OpVal.cast (OpVal.opv rfl) (congrArg Value.bool (lateR_neg r walk))) rfl rfl rfl ?_
    refine WL.val (OpVal.opv rfl) rfl rfl rfl ?_
    refine WL.val (OpVal.opv rfl) rfl rfl rfl ?_
    refine WL.nil ?_
    refine Kseq.go ?_
    (refine W.ret ?_; skip; refine ⟨.inl rfl, [_], h, ⟨.tmp rfl, trivial⟩, (by repeat (first | exact .head _ | refine .tail _ ?_)), ?_⟩; exact congrArg Value.bool (by first | (simp [sureB, -List.getD_eq_getElem?_getD]; done) | (simp_all [-List.getD_eq_getElem?_getD]; done) | (simp [sureB, -List.getD_eq_getElem?_getD]; omega) | (rw [Bool.eq_iff_iff]; simp [sureB, -List.getD_eq_getElem?_getD]; omega) | (simp [sureB, -List.getD_eq_getElem?_getD] at *; omega)))
  · refine WL.pass rfl rfl rfl ?_
    refine WL.pass rfl rfl rfl ?_
    refine WL.pass rfl rfl rfl ?_
    refine WL.pass rfl rfl rfl ?_
    refine WL.val (OpVal.opv rfl) rfl rfl rfl ?_
    refine WL.val (OpVal.opv rfl) rfl rfl rfl ?_
    refine WL.nil ?_
    refine Kseq.go ?_
    (refine W.ret ?_; skip; refine ⟨.inl rfl, [_], h, ⟨.tmp rfl, trivial⟩, (by repeat (first | exact .head _ | refine .tail _ ?_)), ?_⟩; exact congrArg Value.bool (by first | (simp [sureB, -List.getD_eq_getElem?_getD]; done) | (simp_all [-List.getD_eq_getElem?_getD]; done) | (simp [sureB, -List.getD_eq_getElem?_getD]; omega) | (rw [Bool.eq_iff_iff]; simp [sureB, -List.getD_eq_getElem?_getD]; omega) | (simp [sureB, -List.getD_eq_getElem?_getD] at *; omega)))
/-- ref.Ending -/
theorem endingR_any {h : Mem} {v lv : Value} {r : Errand} {walk : List Int} (hv : IsErrand h v r) (hV : ValidE r) (hw : Walk r.n walk) (hl : IsInts h lv walk) : FnV Tryz.prog 103 #[v, lv] h (vi (endingE r walk)) := by
  have hv' := hv
  obtain ⟨wv, pv, hov, sv, f, rfl, hW, hP, hM, hH, hS⟩ := hv
  have hlb := hl.bd
  have h100 : r.streets.length ≤ 100 := by have := hV.streetsLen; have := streets_le hV.women; omega
  have hml := minutes_len r (greatestE r) walk
  refine FnR.val ?_
  refine FnR.of_W (n := 20) Tryz.func103 rfl rfl (Nat.le_of_ble_eq_true rfl) fun c hr hD hF => ?_
  refine W.seq ?_
  refine W.region ?_
  refine WL.box rfl rfl rfl rfl (fun b2 => ?_)
  refine WL.val (OpVal.opv rfl) rfl rfl rfl ?_
  refine WL.nil ?_
  refine Kseq.go (W.seq (W.seq ?_))
  skip
  refine W.region ?_
  refine WL.val (OpVal.opv rfl) rfl rfl rfl ?_
  refine WL.val (OpVal.len rfl (by assumption)) rfl rfl rfl ?_
  refine WL.val (OpVal.opv rfl) rfl rfl rfl ?_
  refine WL.nil ?_
  refine Kseq.go ?_
  refine W.condD rfl rfl (fun he => ?_) (fun hne => ?_)
  · refine W.seq ?_
    refine W.region ?_
    refine WL.val (OpVal.fieldAddrB rfl) rfl rfl rfl ?_
    refine WL.val (OpVal.loadB rfl (.head _) rfl) rfl rfl rfl ?_
    refine WL.val (OpVal.opv rfl) rfl rfl rfl ?_
    refine WL.nil ?_
    refine Kseq.go ?_
    refine W.ret ?_; refine Kseq.ret ?_; refine ⟨.inl rfl, [_], h, ⟨.tmp rfl, trivial⟩, (by repeat (first | exact .head _ | refine .tail _ ?_)), ?_⟩
    have h0 : walk.length = 0 := by omega
    unfold endingE
    rw [h0]; rfl
  · refine W.skip (Kseq.go (W.seq ?_))
    skip
    refine W.draw 8 (by kernel_rfl) (by kernel_rfl) (by kernel_rfl) rfl ?_
    refine DJ.val [] (OpVal.loadBW rfl (.head _) rfl) rfl rfl rfl rfl ?_
    refine DJ.val [] (OpVal.loadBW rfl (.head _) rfl) rfl rfl rfl rfl ?_
    refine DJ.abs (A := fun m q => IsInts m q (greatestE r)) [] (OpAbs.call rfl (fun m hm => greatestR_any (hv'.le (by repeat (first | exact hm.1 | replace hm := hm.2))) h100)) rfl rfl rfl rfl ?_
    refine DJ.val [] (OpVal.opv rfl) rfl rfl rfl rfl ?_
    refine DJ.abs (A := fun m q => IsInts m q (minutes r (greatestE r) walk)) [(12, fun m q => IsInts m q (greatestE r))] (fun m12 v12 h12 => OpAbs.call rfl (fun m hm => minutesR_any (hv'.le (by repeat (first | exact hm.1 | replace hm := hm.2))) hV (greatest_truth hV) hw (h12.le (by repeat (first | exact hm.1 | replace hm := hm.2))) (hl.le (by repeat (first | exact hm.1 | replace hm := hm.2))))) rfl rfl rfl rfl ?_ (hG := ⟨(by repeat (first | exact .head _ | refine .tail _ ?_)), rfl, trivial⟩)
    refine DJ.val [] (OpVal.opv rfl) rfl rfl rfl rfl ?_
    refine DJ.val [] (OpVal.len rfl (by assumption)) rfl rfl rfl rfl ?_
    refine DJ.val [] (OpVal.cast (OpVal.sub rfl rfl (by omega) (by omega)) (show _ = vi ((walk.length - 1 : Nat) : Int) from congrArg (Value.int .i64) (by omega))) rfl rfl rfl rfl ?_
    refine DJ.nil ?_
    rintro m14 v14 h14
    rintro m12 v12 h12
    refine WL.val (OpVal.indexAddrN rfl rfl h14 (by omega)) rfl rfl rfl ?_
    refine WL.val (OpVal.cast (OpVal.loadE rfl h14 (by repeat (first | exact .head _ | refine .tail _ ?_)) (by omega) (by omega)) (show _ = vi (endingE r walk) from congrArg (Value.int .i64) (by rw [minutes_get (show walk.length - 1 < walk.length by omega)]; unfold endingE; rw [show walk.length - 1 + 1 = walk.length by omega]))) rfl rfl rfl ?_
    refine WL.val (OpVal.opv rfl) rfl rfl rfl ?_
    refine WL.nil ?_
    refine Kseq.go ?_
    refine W.ret ?_; skip; refine ⟨.inl rfl, [_], h, ⟨.tmp rfl, trivial⟩, (by repeat (first | exact .head _ | refine .tail _ ?_)), ?_⟩
    rfl
/-- ref.Better -/
theorem betterR_any {h : Mem} {av bv : Value} {a b : List Int} (x y : Int) (ha : IsInts h av a) (hb : IsInts h bv b) : FnV Tryz.prog 61 #[av, vi x, bv, vi y] h (.bool (better a x b y)) := by
  have hab := ha.bd
  have hbb := hb.bd
  refine FnR.val ?_
  refine FnR.of_W (n := 32) Tryz.func61 rfl rfl (Nat.le_of_ble_eq_true rfl) fun c hr hD hF => ?_
  refine W.seq ?_
  refine W.region ?_
  refine WL.val (OpVal.opv rfl) rfl rfl rfl ?_
  refine WL.nil ?_
  refine Kseq.go (W.seq (W.seq ?_))
  skip
  refine W.region ?_
  refine WL.val (OpVal.opv rfl) rfl rfl rfl ?_
  refine WL.val (OpVal.len rfl (by assumption)) rfl rfl rfl ?_
  refine WL.val (OpVal.opv rfl) rfl rfl rfl ?_
  refine WL.val (OpVal.len rfl (by assumption)) rfl rfl rfl ?_
  refine WL.val (OpVal.opv rfl) rfl rfl rfl ?_
  refine WL.nil ?_
  refine Kseq.go ?_
  refine W.cond rfl rfl (fun he => ?_) (fun hne => ?_)
  · refine W.seq ?_
    refine W.region ?_
    refine WL.val (OpVal.opv rfl) rfl rfl rfl ?_
    refine WL.val (OpVal.len rfl (by assumption)) rfl rfl rfl ?_
    refine WL.val (OpVal.opv rfl) rfl rfl rfl ?_
    refine WL.val (OpVal.len rfl (by assumption)) rfl rfl rfl ?_
    refine WL.val (OpVal.opv rfl) rfl rfl rfl ?_
    refine WL.val (OpVal.opv rfl) rfl rfl rfl ?_
    refine WL.nil ?_
    refine Kseq.go ?_
    refine W.ret ?_; refine Kseq.ret ?_; refine ⟨.inl rfl, [_], h, ⟨.tmp rfl, trivial⟩, (by repeat (first | exact .head _ | refine .tail _ ?_)), ?_⟩
    have : a.length ≠ b.length := by simp at he; omega
    unfold better
    rw [if_pos this]
    exact congrArg Value.bool (decide_eq_decide.2 (by omega))
  · have he : a.length = b.length := by simp at hne; omega
    refine W.skip (Kseq.go (W.seq ?_))
    skip
    refine W.region ?_
    refine WL.val (OpVal.opv rfl) rfl rfl rfl ?_
    refine WL.val (OpVal.opv rfl) rfl rfl rfl ?_
    refine WL.val (OpVal.opv rfl) rfl rfl rfl ?_
    refine WL.val (OpVal.opv rfl) rfl rfl rfl ?_
    refine WL.split rfl rfl (fun g22 => ?_) (fun g22 => ?_)
    · refine WL.pass rfl rfl rfl ?_
      refine WL.pass rfl rfl rfl ?_
      refine WL.pass rfl rfl rfl ?_
      refine WL.pass rfl rfl rfl ?_
      refine WL.pass rfl rfl rfl ?_
      refine WL.pass rfl rfl rfl ?_
      refine WL.pass rfl rfl rfl ?_
      refine WL.pass rfl rfl rfl ?_
      refine WL.val (OpVal.opv rfl) rfl rfl rfl ?_
      refine WL.val (OpVal.opv rfl) rfl rfl rfl ?_
      refine WL.nil ?_
      refine Kseq.go ?_
      (refine W.ret ?_; skip; refine ⟨.inl rfl, [_], h, ⟨.tmp rfl, trivial⟩, (by repeat (first | exact .head _ | refine .tail _ ?_)), ?_⟩; exact congrArg Value.bool (by unfold better; rw [if_neg (by omega)]; first | (simp_all; done) | (simp_all; omega)))
    · refine WL.val (OpVal.opv rfl) rfl rfl rfl ?_
      refine WL.val (OpVal.opv rfl) rfl rfl rfl ?_
      refine WL.val (OpVal.opv rfl) rfl rfl rfl ?_
      refine WL.val (OpVal.opv rfl) rfl rfl rfl ?_
      refine WL.split rfl rfl (fun g26 => ?_) (fun g26 => ?_)
      · refine WL.val (OpVal.opv rfl) rfl rfl rfl ?_
        refine WL.val (OpVal.opv rfl) rfl rfl rfl ?_
        refine WL.val (OpVal.call rfl (fun m hm => before_any (ha.le (by repeat (first | exact hm.1 | replace hm := hm.2))) (hb.le (by repeat (first | exact hm.1 | replace hm := hm.2))))) rfl rfl rfl ?_
        refine WL.val (OpVal.opv rfl) rfl rfl rfl ?_
        refine WL.val (OpVal.opv rfl) rfl rfl rfl ?_
        refine WL.val (OpVal.opv rfl) rfl rfl rfl ?_
        refine WL.nil ?_
        refine Kseq.go ?_
        (refine W.ret ?_; skip; refine ⟨.inl rfl, [_], h, ⟨.tmp rfl, trivial⟩, (by repeat (first | exact .head _ | refine .tail _ ?_)), ?_⟩; exact congrArg Value.bool (by unfold better; rw [if_neg (by omega)]; first | (simp_all; done) | (simp_all; omega)))
      · refine WL.pass rfl rfl rfl ?_
        refine WL.pass rfl rfl rfl ?_
        refine WL.pass rfl rfl rfl ?_
        refine WL.val (OpVal.opv rfl) rfl rfl rfl ?_
        refine WL.val (OpVal.opv rfl) rfl rfl rfl ?_
        refine WL.val (OpVal.opv rfl) rfl rfl rfl ?_
        refine WL.nil ?_
        refine Kseq.go ?_
        (refine W.ret ?_; skip; refine ⟨.inl rfl, [_], h, ⟨.tmp rfl, trivial⟩, (by repeat (first | exact .head _ | refine .tail _ ?_)), ?_⟩; exact congrArg Value.bool (by unfold better; rw [if_neg (by omega)]; first | (simp_all; done) | (simp_all; omega)))
/-- ref.Fewest -/
theorem fewestRef_any {h : Mem} {v mv : Value} {r : Errand} {ms : List Move} (hv : IsErrand h v r) (hn : r.n ≤ 4) (hm : IsMoves h mv ms) (h50 : ms.length ≤ 50) : FnV Tryz.prog 42 #[v, mv] h (vi (fewestC r.n ms : Int)) := by
  have hv' := hv
  obtain ⟨wv, pv, hov, sv, f, rfl, hW, hP, hM, hH, hS⟩ := hv
  refine FnR.val ?_
  have hpow := Nat.pow_le_pow_right (n := 2) (by omega) h50
  have hpos := Nat.two_pow_pos ms.length
  have e : (1 * 2 ^ ms.length : Int) = ((2 ^ ms.length : Nat) : Int) := by simp
  refine FnR.of_W (n := 36) Tryz.func42 rfl rfl (Nat.le_of_ble_eq_true rfl) fun c hr hD hF => ?_
  refine W.seq ?_
  refine W.region ?_
  refine WL.box rfl rfl rfl rfl (fun b2 => ?_)
  refine WL.val (OpVal.opv rfl) rfl rfl rfl ?_
  refine WL.nil ?_
  refine Kseq.go (W.seq ?_)
  refine W.freezeBox (.head _) (fun b hb => (hF b hb).elim) fun m1 h1 => ?_
  skip
  refine W.region ?_
  refine WL.val (OpVal.opv rfl) rfl rfl rfl ?_
  refine WL.val (OpVal.len rfl hm) rfl rfl rfl ?_
  refine WL.val (OpVal.conv rfl (wrap_u64 (by omega) (by omega))) rfl rfl rfl ?_
  refine WL.val ((OpVal.shl rfl rfl (by omega) (by rw [e]; omega) (by rw [e]; omega)).cast (congrArg (Value.int .i64) e)) rfl rfl rfl ?_
  refine WL.val (OpVal.cast (OpVal.sub rfl rfl (by omega) (by omega)) (show _ = vi (fullM ms : Int) from congrArg (Value.int .i64) (by unfold fullM; omega))) rfl rfl rfl ?_
  refine WL.val (OpVal.opv rfl) rfl rfl rfl ?_
  refine WL.nil ?_
  refine Kseq.go (W.seq (W.seq ?_))
  skip
  refine W.region ?_
  refine WL.val (OpVal.opv rfl) rfl rfl rfl ?_
  refine WL.nil ?_
  refine Kseq.go (W.block ?_)
  refine W.loopC (σ := Nat) (fun k => [(1, mv), (2, .pointer (some ⟨b2, 0, none⟩)), (5, vi (fullM ms : Int)), (6, .int .i64 (k : Int))]) (fun k => k ≤ 8 ∧ ∀ j, j < k → (!canIn r.n ms j) = true) (fun k => 8 - k) 0 ⟨rfl, rfl, rfl, rfl, trivial⟩ ⟨Nat.zero_le _, fun j hj => absurd hj (Nat.not_lt_zero _)⟩ ?_
  rintro k ⟨hk, hall⟩
  refine W.seq (W.seq ?_)
  refine W.region ?_
  refine WL.val (OpVal.opv rfl) rfl rfl rfl ?_
  refine WL.val (OpVal.opv rfl) rfl rfl rfl ?_
  refine WL.nil ?_
  refine Kseq.go ?_
  refine W.condD rfl rfl (fun hlt => ?_) (fun hge => ?_)
  · have hk7 : k ≤ 7 := by omega
    refine W.skip (Kseq.go (W.seq (W.block (W.seq ?_))))
    refine W.region ?_
    refine WL.val (OpVal.loadPW rfl (by assumption) (by repeat (first | exact .head _ | refine .tail _ ?_)) (by rfl)) rfl rfl rfl ?_
    refine WL.val (OpVal.opv rfl) rfl rfl rfl ?_
    refine WL.abs (OpAbs.call rfl (fun m hm => walksR_any hn k (b := []) (by simp) (by simp; omega) (hv'.le (by repeat (first | exact hm.1 | replace hm := hm.2))) (show IsInts m (.slice none 0 0) [] from IsArr.nil m 1 _))) rfl rfl rfl ?_
    rintro m20 v20 h20
    refine WL.val (OpVal.opv rfl) rfl rfl rfl ?_
    refine WL.nil ?_
    refine Kseq.go (W.seq ?_)
    obtain ⟨vs, hvs, hA⟩ := h20
    have hwn : walksFrom r.n k [] = walks r.n k := rfl
    rw [hwn] at hvs hA
    have hwb := walksFrom_len hn k []
    rw [hwn] at hwb
    have hp7 : 5 ^ k ≤ 5 ^ 7 := Nat.pow_le_pow_right (by omega) hk7
    skip
    refine W.region ?_
    refine WL.val (OpVal.opv rfl) rfl rfl rfl ?_
    refine WL.nil ?_
    refine Kseq.go (W.block ?_)
    refine W.loopC (σ := Nat) (fun j => [(1, mv), (2, .pointer (some ⟨b2, 0, none⟩)), (5, vi (fullM ms : Int)), (6, .int .i64 (k : Int)), (7, v20), (8, .int .i64 (j : Int))]) (fun j => j ≤ (walks r.n k).length ∧ ∀ i, i < j → decide (bringsN ms ((walks r.n k).getD i []) = fullM ms) = false) (fun j => (walks r.n k).length - j) 0 ⟨rfl, rfl, rfl, rfl, rfl, rfl, trivial⟩ ⟨Nat.zero_le _, fun j hj => absurd hj (Nat.not_lt_zero _)⟩ ?_
    rintro j ⟨hj, hall2⟩
    refine W.seq (W.seq ?_)
    refine W.region ?_
    refine WL.val (OpVal.opv rfl) rfl rfl rfl ?_
    refine WL.val (OpVal.opv rfl) rfl rfl rfl ?_
    refine WL.val (OpVal.len rfl hA) rfl rfl rfl ?_
    refine WL.val (OpVal.opv rfl) rfl rfl rfl ?_
    refine WL.nil ?_
    refine Kseq.go ?_
    refine W.condD rfl rfl (fun hlt2 => ?_) (fun hge2 => ?_)
    · have hjl : j < (walks r.n k).length := by omega
      have hwj := hvs.2 j hjl
      refine W.skip (Kseq.go (W.seq (W.block (W.seq ?_))))
      refine W.region ?_
      refine WL.val (OpVal.opv rfl) rfl rfl rfl ?_
      refine WL.val (OpVal.opv rfl) rfl rfl rfl ?_
      refine WL.val (OpVal.opv rfl) rfl rfl rfl ?_
      refine WL.val (OpVal.indexAddrN rfl rfl hA hjl) rfl rfl rfl ?_
      refine WL.val (OpVal.loadE rfl hA (by repeat (first | exact .head _ | refine .tail _ ?_)) hjl (by omega)) rfl rfl rfl ?_
      refine WL.val (OpVal.call rfl (fun m hm' => bringsR_any (IsMoves.le ‹IsMoves h mv ms› (by repeat (first | exact hm'.1 | replace hm' := hm'.2))) h50 (hwj.le (by repeat (first | exact hm'.1 | replace hm' := hm'.2))))) rfl rfl rfl ?_
      refine WL.val (OpVal.opv rfl) rfl rfl rfl ?_
      refine WL.val (OpVal.opv rfl) rfl rfl rfl ?_
      refine WL.nil ?_
      refine Kseq.go ?_
      refine W.condD rfl rfl (fun he => ?_) (fun hne => ?_)
      · refine W.seq ?_
        refine W.region ?_
        refine WL.val (OpVal.opv rfl) rfl rfl rfl ?_
        refine WL.val (OpVal.opv rfl) rfl rfl rfl ?_
        refine WL.nil ?_
        refine Kseq.go ?_
        refine W.ret ?_; refine Kblock.ret (Kseq.ret (Kloop.ret (Kblock.ret (Kblock.ret (Kseq.ret (Kloop.ret (Kblock.ret (Kseq.ret ?_)))))))); refine ⟨.inl rfl, [_], h, ⟨.tmp rfl, trivial⟩, (by repeat (first | exact .head _ | refine .tail _ ?_)), ?_⟩
        have h1 : canIn r.n ms k = true := ex_iff.2 ⟨j, hjl, decide_eq_true (by omega)⟩
        exact congrArg (fun n : Nat => vi (n : Int)) (fstNo_at (by omega) hall (by rw [h1]; rfl)).symm
      · refine W.skip (Kblock.normal (Kseq.go ?_))
        refine W.region ?_
        refine WL.val (OpVal.opv rfl) rfl rfl rfl ?_
        refine WL.val (OpVal.incr rfl (by omega)) rfl rfl rfl ?_
        refine WL.val (OpVal.opv rfl) rfl rfl rfl ?_
        refine WL.nil ?_
        skip
        refine Kloop.nextC (j + 1) ⟨by omega, fun i hi => ?_⟩ (by omega) ⟨rfl, rfl, rfl, rfl, rfl, rfl, trivial⟩ (by simp) (by repeat (first | exact List.Sublist.refl _ | refine List.Sublist.cons _ ?_ | refine List.Sublist.cons_cons _ ?_))
        rcases Nat.lt_succ_iff_lt_or_eq.1 hi with h3 | rfl
        · exact hall2 i h3
        · exact decide_eq_false (by omega)
    · refine W.exit (Kseq.exit (Kloop.exit (Kblock.here (Kblock.normal (Kseq.go ?_)))))
      skip
      refine W.region ?_
      refine WL.val (OpVal.opv rfl) rfl rfl rfl ?_
      refine WL.val (OpVal.incr rfl (by omega)) rfl rfl rfl ?_
      refine WL.val (OpVal.opv rfl) rfl rfl rfl ?_
      refine WL.nil ?_
      skip
      refine Kloop.nextC (k + 1) ⟨by omega, fun j' hj' => ?_⟩ (by omega) ⟨rfl, rfl, rfl, rfl, trivial⟩ (by simp) (by repeat (first | exact List.Sublist.refl _ | refine List.Sublist.cons _ ?_ | refine List.Sublist.cons_cons _ ?_))
      rcases Nat.lt_succ_iff_lt_or_eq.1 hj' with h3 | rfl
      · exact hall j' h3
      · have h1 : canIn r.n ms j' = false := ex_no.2 fun i hi => hall2 i (by omega)
        rw [h1]; rfl
  · have : k = 8 := by omega
    subst this
    refine W.exit (Kseq.exit (Kloop.exit (Kblock.here (Kseq.go (W.seq ?_)))))
    skip
    refine W.region ?_
    refine WL.val (OpVal.opv rfl) rfl rfl rfl ?_
    refine WL.nil ?_
    refine Kseq.go ?_
    refine W.ret ?_; skip; refine ⟨.inl rfl, [_], h, ⟨.tmp rfl, trivial⟩, (by repeat (first | exact .head _ | refine .tail _ ?_)), ?_⟩
    exact congrArg (fun n : Nat => vi (n : Int)) (fstNo_all hall).symm
end Go.Proofs.YtjligncpaeeljaaGreat
