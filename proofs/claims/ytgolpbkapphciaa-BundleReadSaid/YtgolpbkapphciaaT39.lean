/- The statement BundleFirst: its contract. -/
import Derived.Test.YtgolpbkapphciaaP10
import Derived.Test.YtgolpbkapphciaaT38
namespace Go.Proofs.Ytgolpbkapphciaa
open Go Go.Eng Go.RowKit

theorem full_eq (t : Table) : full t = 2 ^ t.women.length - 1 := rfl
theorem someT_sm {t : Table} (hs : Sm t) (b : Nat) : Sm (someT t b) := ⟨by rw [(someT_same t b).women]; exact hs.1, hs.2.1, hs.2.2⟩
/-- BundleFirst -/
theorem bundleFirst_any {h : Mem} {v : Value} {t : Table} (hv : IsTable h v t) : FnV Try.prog 14 #[v] h (.bool true) := by
  have hv' := hv
  obtain ⟨wv, pv, f, rfl, hW, hP, hM⟩ := hv
  refine FnR.val ?_
  refine FnR.of_W (n := 79) Try.func14 rfl rfl (Nat.le_of_ble_eq_true rfl) fun c hr hD hF => ?_
  refine W.seq ?_
  refine W.region ?_
  refine WL.box rfl rfl rfl rfl (fun b1 => ?_)
  refine WL.val (OpVal.opv rfl) rfl rfl rfl ?_
  refine WL.nil ?_
  refine Kseq.go (W.seq (W.seq ?_))
  refine W.freezeBox (.head _) (fun b hb => (hF b hb).elim) fun m1 h1 => ?_
  skip
  refine W.region ?_
  refine WL.val (OpVal.loadPW rfl (by assumption) (by repeat (first | exact .head _ | refine .tail _ ?_)) (by rfl)) rfl rfl rfl ?_
  refine WL.val (OpVal.call rfl (fun m hm => ready_any (hv'.le (by repeat (first | exact hm.1 | replace hm := hm.2))))) rfl rfl rfl ?_
  refine WL.val (OpVal.opv rfl) rfl rfl rfl ?_
  refine WL.nil ?_
  refine Kseq.go ?_
  refine W.cond rfl rfl (fun he => ?_) (fun hne => ?_)
  · refine W.seq ?_
    refine W.region ?_
    refine WL.val (OpVal.call rfl (fun m hm => awake_any)) rfl rfl rfl ?_
    refine WL.val (OpVal.opv rfl) rfl rfl rfl ?_
    refine WL.nil ?_
    refine Kseq.go ?_
    refine W.ret ?_; refine Kseq.ret ?_; refine ⟨.inl rfl, [_], h, ⟨.tmp rfl, trivial⟩, (by repeat (first | exact .head _ | refine .tail _ ?_)), ?_⟩
    rfl
  obtain ⟨hTh, hVa⟩ := readyB_iff.1 (by simpa using hne)
  have hs : Sm t := ThinB.sm hTh
  have hs1 := hs.1
  have hs2 := hs.2.1
  have hw5 := hVa.women
  have hf0 := fault_zero.2 hVa
  obtain ⟨hall, hno⟩ := fstNo_spec (p := firstQ t) t.women.length
  have hle := fstNo_le (firstQ t) t.women.length
  refine W.skip (Kseq.go (W.seq ?_))
  by_cases hlt : fstNo (firstQ t) t.women.length < t.women.length
  · have hfv : firstV t = ((fstNo (firstQ t) t.women.length : Int), 0) := by unfold firstV; rw [if_pos hf0, if_pos hlt]
    have hA := askE_first hVa (fstNo (firstQ t) t.women.length)
    rw [if_pos (first_right hVa hall)] at hA
    have hB := askE_first hVa (fstNo (firstQ t) t.women.length + 1)
    rw [if_neg (by have := hno hlt; unfold firstQ at this ⊢; rw [this]; exact Bool.false_ne_true)] at hB
    generalize fstNo (firstQ t) t.women.length = n at *
    have hpp : 2 ^ n ≤ 2 ^ 5 := Nat.pow_le_pow_right (by omega) (by omega)
    have hpp2 : 2 ^ (n + 1) ≤ 2 ^ 5 := Nat.pow_le_pow_right (by omega) (by omega)
    have hpos : 0 < 2 ^ n := Nat.pow_pos (by omega)
    have hpos2 : 0 < 2 ^ (n + 1) := Nat.pow_pos (by omega)
    have e1 : (1 : Int) * 2 ^ n = ((2 ^ n : Nat) : Int) := by rw [Int.one_mul]; exact (Int.natCast_pow 2 n).symm
    have e2 : (2 : Int) * 2 ^ n = ((2 ^ (n + 1) : Nat) : Int) := by rw [Nat.pow_succ, Nat.mul_comm, Int.natCast_mul, Int.natCast_pow]; rfl
    skip
    refine W.region ?_
    refine WL.val (OpVal.loadPW rfl (by assumption) (by repeat (first | exact .head _ | refine .tail _ ?_)) (by rfl)) rfl rfl rfl ?_
    refine WL.abs (OpAbs.call rfl (fun m hm => table_any (hv'.le (by repeat (first | exact hm.1 | replace hm := hm.2))) hs)) rfl rfl rfl ?_
    rintro m17 v17 h17
    refine WL.val (OpVal.cast (OpVal.call rfl (fun m hm => firstT_any (h17.le (by repeat (first | exact hm.1 | replace hm := hm.2))) hs)) (by rw [hfv])) rfl rfl rfl ?_
    refine WL.val (OpVal.opv rfl) rfl rfl rfl ?_
    refine WL.val (OpVal.opv rfl) rfl rfl rfl ?_
    refine WL.val (OpVal.opv rfl) rfl rfl rfl ?_
    refine WL.val (OpVal.opv rfl) rfl rfl rfl ?_
    refine WL.val (OpVal.opv rfl) rfl rfl rfl ?_
    refine WL.nil ?_
    refine Kseq.go (W.seq (W.seq ?_))
    skip
    refine W.region ?_
    refine WL.val (OpVal.opv rfl) rfl rfl rfl ?_
    refine WL.val (OpVal.neqF rfl rfl) rfl rfl rfl ?_
    refine WL.nil ?_
    refine Kseq.go ?_
    refine W.condF rfl rfl ?_
    refine W.skip (Kseq.go (W.seq (W.seq ?_)))
    skip
    refine W.region ?_
    refine WL.val (OpVal.opv rfl) rfl rfl rfl ?_
    refine WL.val (OpVal.fieldAddrB rfl) rfl rfl rfl ?_
    refine WL.val (OpVal.loadP rfl (by assumption) (by repeat (first | exact .head _ | refine .tail _ ?_)) rfl) rfl rfl rfl ?_
    refine WL.val (OpVal.len rfl hW) rfl rfl rfl ?_
    refine WL.val (OpVal.sub rfl rfl (by omega) (by omega)) rfl rfl rfl ?_
    refine WL.val (OpVal.cast (OpVal.call rfl (fun m hm => in_any _ _ _)) (congrArg Value.bool (decide_eq_true (by omega)))) rfl rfl rfl ?_
    refine WL.val (OpVal.opv rfl) rfl rfl rfl ?_
    refine WL.nil ?_
    refine Kseq.go ?_
    refine W.condF rfl rfl ?_
    refine W.skip (Kseq.go (W.seq ?_))
    skip
    refine W.region ?_
    refine WL.val (OpVal.loadPW rfl (by assumption) (by repeat (first | exact .head _ | refine .tail _ ?_)) (by rfl)) rfl rfl rfl ?_
    refine WL.val (OpVal.opv rfl) rfl rfl rfl ?_
    refine WL.val (OpVal.conv rfl (wrap_u64 (by omega) (by omega))) rfl rfl rfl ?_
    refine WL.val ((OpVal.shl rfl rfl (by omega) (by rw [e1]; omega) (by rw [e1]; omega)).cast (congrArg (Value.int .i64) e1)) rfl rfl rfl ?_
    refine WL.val (OpVal.cast (OpVal.sub rfl rfl (by omega) (by omega)) (congrArg (Value.int .i64) (show ((2 ^ n : Nat) : Int) - 1 = ((2 ^ n - 1 : Nat) : Int) by omega))) rfl rfl rfl ?_
    refine WL.abs (OpAbs.call rfl (fun m hm => some_any (hv'.le (by repeat (first | exact hm.1 | replace hm := hm.2))) hs)) rfl rfl rfl ?_
    rintro m54 v54 h54
    refine WL.abs (OpAbs.call rfl (fun m hm => table_any (h54.le (by repeat (first | exact hm.1 | replace hm := hm.2))) (someT_sm hs _))) rfl rfl rfl ?_
    rintro m55 v55 h55
    refine WL.abs (OpAbs.call rfl (fun m hm => whoseT_any (h55.le (by repeat (first | exact hm.1 | replace hm := hm.2))) (someT_sm hs _))) rfl rfl rfl ?_
    rintro m56 _ ⟨l1, rfl, _⟩
    rw [hA]
    refine WL.val (OpVal.opv rfl) rfl rfl rfl ?_
    refine WL.val (OpVal.opv rfl) rfl rfl rfl ?_
    refine WL.val (OpVal.opv rfl) rfl rfl rfl ?_
    refine WL.val (OpVal.opv rfl) rfl rfl rfl ?_
    refine WL.val (OpVal.opv rfl) rfl rfl rfl ?_
    refine WL.nil ?_
    refine Kseq.go (W.seq ?_)
    skip
    refine W.region ?_
    refine WL.val (OpVal.loadPW rfl (by assumption) (by repeat (first | exact .head _ | refine .tail _ ?_)) (by rfl)) rfl rfl rfl ?_
    refine WL.val (OpVal.opv rfl) rfl rfl rfl ?_
    refine WL.val (OpVal.conv rfl (wrap_u64 (by omega) (by omega))) rfl rfl rfl ?_
    refine WL.val ((OpVal.shl rfl rfl (by omega) (by rw [e2]; omega) (by rw [e2]; omega)).cast (congrArg (Value.int .i64) e2)) rfl rfl rfl ?_
    refine WL.val (OpVal.cast (OpVal.sub rfl rfl (by omega) (by omega)) (congrArg (Value.int .i64) (show ((2 ^ (n + 1) : Nat) : Int) - 1 = ((2 ^ (n + 1) - 1 : Nat) : Int) by omega))) rfl rfl rfl ?_
    refine WL.abs (OpAbs.call rfl (fun m hm => some_any (hv'.le (by repeat (first | exact hm.1 | replace hm := hm.2))) hs)) rfl rfl rfl ?_
    rintro m65 v65 h65
    refine WL.abs (OpAbs.call rfl (fun m hm => table_any (h65.le (by repeat (first | exact hm.1 | replace hm := hm.2))) (someT_sm hs _))) rfl rfl rfl ?_
    rintro m66 v66 h66
    refine WL.abs (OpAbs.call rfl (fun m hm => whoseT_any (h66.le (by repeat (first | exact hm.1 | replace hm := hm.2))) (someT_sm hs _))) rfl rfl rfl ?_
    rintro m67 _ ⟨l2, rfl, _⟩
    rw [hB]
    refine WL.val (OpVal.opv rfl) rfl rfl rfl ?_
    refine WL.val (OpVal.opv rfl) rfl rfl rfl ?_
    refine WL.val (OpVal.opv rfl) rfl rfl rfl ?_
    refine WL.val (OpVal.opv rfl) rfl rfl rfl ?_
    refine WL.val (OpVal.opv rfl) rfl rfl rfl ?_
    refine WL.nil ?_
    refine Kseq.go (W.seq ?_)
    skip
    refine W.region ?_
    refine WL.val (OpVal.opv rfl) rfl rfl rfl ?_
    refine WL.val (OpVal.eqT rfl rfl) rfl rfl rfl ?_
    refine WL.val (OpVal.opv rfl) rfl rfl rfl ?_
    refine WL.val (OpVal.opv rfl) rfl rfl rfl ?_
    refine WL.val (OpVal.eqT rfl rfl) rfl rfl rfl ?_
    refine WL.val (OpVal.opv rfl) rfl rfl rfl ?_
    refine WL.val (OpVal.opv rfl) rfl rfl rfl ?_
    refine WL.val (OpVal.call rfl (fun m hm => awake_any)) rfl rfl rfl ?_
    refine WL.val (OpVal.opv rfl) rfl rfl rfl ?_
    refine WL.val (OpVal.opv rfl) rfl rfl rfl ?_
    refine WL.nil ?_
    refine Kseq.go ?_
    refine W.ret ?_; skip; refine ⟨.inl rfl, [_], h, ⟨.tmp rfl, trivial⟩, (by repeat (first | exact .head _ | refine .tail _ ?_)), ?_⟩
    rfl
  · have hn : fstNo (firstQ t) t.women.length = t.women.length := by omega
    have hfv : firstV t = (0, 7) := by unfold firstV; rw [if_pos hf0, if_neg hlt]
    have hA := askE_first hVa t.women.length
    rw [hn] at hall
    rw [if_pos (first_right hVa hall), ← full_eq] at hA
    skip
    refine W.region ?_
    refine WL.val (OpVal.loadPW rfl (by assumption) (by repeat (first | exact .head _ | refine .tail _ ?_)) (by rfl)) rfl rfl rfl ?_
    refine WL.abs (OpAbs.call rfl (fun m hm => table_any (hv'.le (by repeat (first | exact hm.1 | replace hm := hm.2))) hs)) rfl rfl rfl ?_
    rintro m17 v17 h17
    refine WL.val (OpVal.cast (OpVal.call rfl (fun m hm => firstT_any (h17.le (by repeat (first | exact hm.1 | replace hm := hm.2))) hs)) (by rw [hfv])) rfl rfl rfl ?_
    refine WL.val (OpVal.opv rfl) rfl rfl rfl ?_
    refine WL.val (OpVal.opv rfl) rfl rfl rfl ?_
    refine WL.val (OpVal.opv rfl) rfl rfl rfl ?_
    refine WL.val (OpVal.opv rfl) rfl rfl rfl ?_
    refine WL.val (OpVal.opv rfl) rfl rfl rfl ?_
    refine WL.nil ?_
    refine Kseq.go (W.seq (W.seq ?_))
    skip
    refine W.region ?_
    refine WL.val (OpVal.opv rfl) rfl rfl rfl ?_
    refine WL.val (OpVal.cast (OpVal.opv rfl) (congrArg (fun b => Value.bool (!b)) (decide_eq_false (by decide)))) rfl rfl rfl ?_
    refine WL.nil ?_
    refine Kseq.go ?_
    refine W.condT rfl rfl ?_
    refine W.seq ?_
    refine W.draw 10 (by kernel_rfl) (by kernel_rfl) (by kernel_rfl) rfl ?_
    refine DJ.val [] (OpVal.loadPW rfl (by assumption) (by repeat (first | exact .head _ | refine .tail _ ?_)) (by rfl)) rfl rfl rfl rfl ?_
    refine DJ.val [] (OpVal.loadPW rfl (by assumption) (by repeat (first | exact .head _ | refine .tail _ ?_)) (by rfl)) rfl rfl rfl rfl ?_
    refine DJ.val [] (OpVal.call rfl (fun m hm => full_any (hv'.le (by repeat (first | exact hm.1 | replace hm := hm.2))) hs)) rfl rfl rfl rfl ?_
    refine DJ.abs (A := fun m r => IsTable m r (someT t (full t))) [] (OpAbs.call rfl (fun m hm => some_any (hv'.le (by repeat (first | exact hm.1 | replace hm := hm.2))) hs)) rfl rfl rfl rfl ?_
    refine DJ.abs (A := fun m r => IsTable m r (someT t (full t))) [(27, fun m r => IsTable m r (someT t (full t)))] (fun m27 v27 h27 => OpAbs.call rfl (fun m hm => table_any (h27.le (by repeat (first | exact hm.1 | replace hm := hm.2))) (someT_sm hs _))) rfl rfl rfl rfl ?_ (hG := ⟨(by repeat (first | exact .head _ | refine .tail _ ?_)), rfl, trivial⟩)
    refine DJ.abs (A := fun m r => ∃ lv, r = .tuple #[lv, vi 0]) [(28, fun m r => IsTable m r (someT t (full t)))] (fun m28 v28 h28 => OpAbs.mono (OpAbs.call rfl (fun m hm => whoseT_any (h28.le (by repeat (first | exact hm.1 | replace hm := hm.2))) (someT_sm hs _))) (fun m r ⟨lv, e, _⟩ => ⟨lv, by rw [e, hA]⟩)) rfl rfl rfl rfl ?_ (hG := ⟨(by repeat (first | exact .head _ | refine .tail _ ?_)), rfl, trivial⟩)
    refine DJ.abs (A := fun m r => ∃ lv, r = .tuple #[lv, vi 0]) [(29, fun m r => ∃ lv, r = .tuple #[lv, vi 0])] (fun m29 v29 h29 => OpAbs.ofVal (OpVal.opv rfl) (.head _) h29) rfl rfl rfl rfl ?_ (hG := ⟨(by repeat (first | exact .head _ | refine .tail _ ?_)), rfl, trivial⟩)
    refine DJ.abs (A := fun m r => True) [(23, fun m r => ∃ lv, r = .tuple #[lv, vi 0])] (fun m23 v23 h23 => by obtain ⟨lv, rfl⟩ := h23; exact OpAbs.ofVal (OpVal.opv rfl) (.head _) trivial) rfl rfl rfl rfl ?_ (hG := ⟨(by repeat (first | exact .head _ | refine .tail _ ?_)), rfl, trivial⟩)
    refine DJ.abs (A := fun m r => r = vi 0) [(23, fun m r => ∃ lv, r = .tuple #[lv, vi 0])] (fun m23 v23 h23 => by obtain ⟨lv, rfl⟩ := h23; exact OpAbs.ofVal (OpVal.opv rfl) (.head _) rfl) rfl rfl rfl rfl ?_ (hG := ⟨(by repeat (first | exact .head _ | refine .tail _ ?_)), rfl, trivial⟩)
    refine DJ.abs (A := fun m r => True) [(30, fun m r => True)] (fun m30 v30 h30 => OpAbs.ofVal (OpVal.opv rfl) (.head _) trivial) rfl rfl rfl rfl ?_ (hG := ⟨(by repeat (first | exact .head _ | refine .tail _ ?_)), rfl, trivial⟩)
    refine DJ.nil ?_
    rintro m5 v5 h5
    rintro m31 v31 h31
    rintro m30 v30 h30
    rintro m23 v23 h23
    rintro m29 v29 h29
    rintro m28 v28 h28
    rintro m27 v27 h27
    refine WL.abs (OpAbs.ofVal (A := fun _ r => r = vi 0) (OpVal.opv rfl) (.head _) h31) rfl rfl rfl ?_
    rintro m6 v6 h6
    refine WL.nil ?_
    refine Kseq.go (W.seq ?_)
    subst h6
    skip
    refine W.region ?_
    refine WL.val (OpVal.opv rfl) rfl rfl rfl ?_
    refine WL.val (OpVal.eqT rfl rfl) rfl rfl rfl ?_
    refine WL.val (OpVal.opv rfl) rfl rfl rfl ?_
    refine WL.val (OpVal.opv rfl) rfl rfl rfl ?_
    refine WL.val (OpVal.eqT rfl rfl) rfl rfl rfl ?_
    refine WL.val (OpVal.opv rfl) rfl rfl rfl ?_
    refine WL.val (OpVal.opv rfl) rfl rfl rfl ?_
    refine WL.val (OpVal.call rfl (fun m hm => awake_any)) rfl rfl rfl ?_
    refine WL.val (OpVal.opv rfl) rfl rfl rfl ?_
    refine WL.val (OpVal.opv rfl) rfl rfl rfl ?_
    refine WL.nil ?_
    refine Kseq.go ?_
    refine W.ret ?_; refine Kseq.ret ?_; refine ⟨.inl rfl, [_], h, ⟨.tmp rfl, trivial⟩, (by repeat (first | exact .head _ | refine .tail _ ?_)), ?_⟩
    rfl
end Go.Proofs.Ytgolpbkapphciaa
