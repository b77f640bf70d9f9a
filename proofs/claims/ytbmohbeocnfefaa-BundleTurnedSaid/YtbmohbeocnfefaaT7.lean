/- The reference's functions of chapter 3, on: their contracts. -/
import Derived.Test.YtbmohbeocnfefaaT1
namespace Go.Proofs.Ytbmohbeocnfefaa
open Go Go.Eng Go.RowKit

end Go.Proofs.Ytbmohbeocnfefaa

/- The reference's functions of chapter 3, on: their contracts. -/
namespace Go.Proofs.Ytbmohbeocnfefaa
open Go Go.Eng Go.RowKit

/-- ref.Fault -/
theorem faultR_any {h : Mem} {v : Value} {t : Table} (hv : IsTable h v t) (hs : Sm t) : FnV Try.prog 27 #[v] h (.int .i64 (fault t)) := by
  have hv' := hv
  obtain ⟨wv, pv, f, rfl, hW, hP, hM⟩ := hv
  have hs' := hs
  obtain ⟨hs1, hs2, hs3⟩ := hs
  refine FnR.val ?_
  refine FnR.of_W (n := 121) Try.func27 rfl rfl (Nat.le_of_ble_eq_true rfl) fun c hr hD hF => ?_
  refine W.seq ?_
  refine W.region ?_
  refine WL.box rfl rfl rfl rfl (fun b1 => ?_)
  refine WL.val (OpVal.opv rfl) rfl rfl rfl ?_
  refine WL.nil ?_
  refine Kseq.go (W.seq (W.seq ?_))
  skip
  refine W.toS [(1, .pointer (some ⟨b1, 0, none⟩)), (17, .bool (decide (5 < t.women.length ∨ 7 < t.pieces.length)))] ?_ ?_
  · skip
    refine W.region ?_
    refine WL.val (OpVal.fieldAddrB rfl) rfl rfl rfl ?_
    refine WL.val (OpVal.loadB rfl (.head _) rfl) rfl rfl rfl ?_
    refine WL.val (OpVal.len rfl (by assumption)) rfl rfl rfl ?_
    refine WL.val (OpVal.opv rfl) rfl rfl rfl ?_
    refine WL.val (OpVal.opv rfl) rfl rfl rfl ?_
    refine WL.split rfl rfl (fun g12 => ?_) (fun g12 => ?_)
    · refine WL.pass rfl rfl rfl ?_
      refine WL.pass rfl rfl rfl ?_
      refine WL.pass rfl rfl rfl ?_
      refine WL.pass rfl rfl rfl ?_
      refine WL.val (OpVal.opv rfl) rfl rfl rfl ?_
      refine WL.nil ?_
      skip
      exact Keff.intro ⟨rfl, congrArg (fun b => some (Value.bool b)) (by first | (simp [-List.getD_eq_getElem?_getD]; done) | (simp_all [-List.getD_eq_getElem?_getD]; done) | (simp [-List.getD_eq_getElem?_getD]; omega) | (rw [Bool.eq_iff_iff]; simp [-List.getD_eq_getElem?_getD]; omega) | (simp [-List.getD_eq_getElem?_getD] at *; omega)), trivial⟩ (fun _ h => h) (by repeat (first | exact List.Sublist.refl _ | refine List.Sublist.cons _ ?_ | refine List.Sublist.cons_cons _ ?_))
    · refine WL.val (OpVal.fieldAddrB rfl) rfl rfl rfl ?_
      refine WL.val (OpVal.loadB rfl (.head _) rfl) rfl rfl rfl ?_
      refine WL.val (OpVal.len rfl (by assumption)) rfl rfl rfl ?_
      refine WL.val (OpVal.opv rfl) rfl rfl rfl ?_
      refine WL.val (OpVal.opv rfl) rfl rfl rfl ?_
      refine WL.nil ?_
      skip
      exact Keff.intro ⟨rfl, congrArg (fun b => some (Value.bool b)) (by first | (simp [-List.getD_eq_getElem?_getD]; done) | (simp_all [-List.getD_eq_getElem?_getD]; done) | (simp [-List.getD_eq_getElem?_getD]; omega) | (rw [Bool.eq_iff_iff]; simp [-List.getD_eq_getElem?_getD]; omega) | (simp [-List.getD_eq_getElem?_getD] at *; omega)), trivial⟩ (fun _ h => h) (by repeat (first | exact List.Sublist.refl _ | refine List.Sublist.cons _ ?_ | refine List.Sublist.cons_cons _ ?_))
  refine Kseq.go ?_
  refine W.condD rfl rfl (fun h0 => ?_) (fun h0 => ?_)
  · refine W.seq ?_
    refine W.region ?_
    refine WL.val (OpVal.opv rfl) rfl rfl rfl ?_
    refine WL.nil ?_
    refine Kseq.go ?_
    refine W.ret ?_; refine Kseq.ret ?_; refine ⟨.inl rfl, [_], h, ⟨.tmp rfl, trivial⟩, (by repeat (first | exact .head _ | refine .tail _ ?_)), ?_⟩
    exact congrArg (Value.int .i64) (by unfold fault; rw [if_pos h0])
  refine W.skip (Kseq.go (W.seq (W.seq ?_)))
  refine W.region ?_
  refine WL.val (OpVal.fieldAddrB rfl) rfl rfl rfl ?_
  refine WL.val (OpVal.loadB rfl (.head _) rfl) rfl rfl rfl ?_
  refine WL.val (OpVal.call rfl (fun m hm => in_any _ _ _)) rfl rfl rfl ?_
  refine WL.val (OpVal.opv rfl) rfl rfl rfl ?_
  refine WL.nil ?_
  refine Kseq.go ?_
  refine W.cond rfl rfl (fun h1 => ?_) (fun h1 => ?_)
  · refine W.seq ?_
    refine W.region ?_
    refine WL.val (OpVal.opv rfl) rfl rfl rfl ?_
    refine WL.nil ?_
    refine Kseq.go ?_
    refine W.ret ?_; refine Kseq.ret ?_; refine ⟨.inl rfl, [_], h, ⟨.tmp rfl, trivial⟩, (by repeat (first | exact .head _ | refine .tail _ ?_)), ?_⟩
    exact congrArg (Value.int .i64) (by unfold fault; rw [if_neg h0, if_pos (by simp at h1; omega)])
  refine W.skip (Kseq.go (W.seq (W.seq ?_)))
  refine W.region ?_
  refine WL.val (OpVal.opv rfl) rfl rfl rfl ?_
  refine WL.nil ?_
  refine Kseq.go (W.block ?_)
  refine W.loopC (σ := Nat) (fun k => [(1, .pointer (some ⟨b1, 0, none⟩)), (3, .int .i64 (k : Int))]) (fun k => k ≤ t.women.length ∧ ∀ i, i < k → womanBad (t.women.getD i default) = false) (fun k => t.women.length - k) 0 ⟨rfl, rfl, trivial⟩ ⟨Nat.zero_le _, fun i hi => absurd hi (Nat.not_lt_zero _)⟩ ?_
  rintro k ⟨hk, hall⟩
  refine W.seq (W.seq ?_)
  refine W.region ?_
  refine WL.val (OpVal.opv rfl) rfl rfl rfl ?_
  refine WL.val (OpVal.fieldAddrB rfl) rfl rfl rfl ?_
  refine WL.val (OpVal.loadB rfl (.head _) rfl) rfl rfl rfl ?_
  refine WL.val (OpVal.len rfl (by assumption)) rfl rfl rfl ?_
  refine WL.val (OpVal.opv rfl) rfl rfl rfl ?_
  refine WL.nil ?_
  refine Kseq.go ?_
  refine W.condD rfl rfl (fun hlt => ?_) (fun hge => ?_)
  · refine W.skip (Kseq.go (W.seq (W.block (W.seq ?_))))
    refine W.region ?_
    refine WL.val (OpVal.fieldAddrB rfl) rfl rfl rfl ?_
    refine WL.val (OpVal.loadB rfl (.head _) rfl) rfl rfl rfl ?_
    refine WL.val (OpVal.opv rfl) rfl rfl rfl ?_
    refine WL.val (OpVal.indexAddrN rfl rfl (by assumption) (by omega)) rfl rfl rfl ?_
    refine WL.val (OpVal.loadEA rfl (by assumption) (by repeat (first | exact .head _ | refine .tail _ ?_)) (by omega)) rfl rfl rfl ?_
    refine WL.alloc rfl rfl rfl (fun b4 => ?_)
    refine WL.store [_, _, _] rfl (.head _) rfl rfl rfl (Nat.le_of_ble_eq_true rfl) (by first | (simp [Value.cells, Value.oneCell']; done) | exact IsArr.ones hW (by omega) | exact IsArr.ones hP (by omega) | exact IsArr.ones hS (by omega) | exact IsArr.ones hH (by omega) | exact IsArr.ones hL (by omega) | exact IsArr.ones hB (by omega) | exact IsArr.ones hT (by omega) | exact IsArr.ones hm (by omega)) rfl ?_
    refine WL.nil ?_
    refine Kseq.go (W.seq ?_)
    refine W.toS [(1, .pointer (some ⟨b1, 0, none⟩)), (3, .int .i64 (k : Int)), (58, .bool (womanBad (t.women.getD k default)))] ?_ ?_
    · skip
      refine W.region ?_
      refine WL.val (OpVal.fieldAddrB rfl) rfl rfl rfl ?_
      refine WL.val (OpVal.loadB rfl (.head _) rfl) rfl rfl rfl ?_
      refine WL.val (OpVal.call rfl (fun m hm => in_any _ _ _)) rfl rfl rfl ?_
      refine WL.val (OpVal.opv rfl) rfl rfl rfl ?_
      refine WL.val (OpVal.opv rfl) rfl rfl rfl ?_
      refine WL.splitN rfl rfl (fun g38 => ?_) (fun g38 => ?_)
      · refine WL.pass rfl rfl rfl ?_
        refine WL.pass rfl rfl rfl ?_
        refine WL.pass rfl rfl rfl ?_
        refine WL.pass rfl rfl rfl ?_
        refine WL.val (OpVal.opv rfl) rfl rfl rfl ?_
        refine WL.val (OpVal.opv rfl) rfl rfl rfl ?_
        refine WL.pass rfl rfl rfl ?_
        refine WL.pass rfl rfl rfl ?_
        refine WL.pass rfl rfl rfl ?_
        refine WL.pass rfl rfl rfl ?_
        refine WL.pass rfl rfl rfl ?_
        refine WL.pass rfl rfl rfl ?_
        refine WL.pass rfl rfl rfl ?_
        refine WL.val (OpVal.opv rfl) rfl rfl rfl ?_
        refine WL.val (OpVal.opv rfl) rfl rfl rfl ?_
        refine WL.pass rfl rfl rfl ?_
        refine WL.pass rfl rfl rfl ?_
        refine WL.pass rfl rfl rfl ?_
        refine WL.pass rfl rfl rfl ?_
        refine WL.val (OpVal.opv rfl) rfl rfl rfl ?_
        refine WL.nil ?_
        skip
        exact Keff.intro ⟨rfl, rfl, congrArg (fun b => some (Value.bool b)) (by first | (simp [womanBad, -List.getD_eq_getElem?_getD]; done) | (simp_all [-List.getD_eq_getElem?_getD]; done) | (simp [womanBad, -List.getD_eq_getElem?_getD]; omega) | (rw [Bool.eq_iff_iff]; simp [womanBad, -List.getD_eq_getElem?_getD]; omega) | (simp [womanBad, -List.getD_eq_getElem?_getD] at *; omega)), trivial⟩ (fun _ h => h) (by repeat (first | exact List.Sublist.refl _ | refine List.Sublist.cons _ ?_ | refine List.Sublist.cons_cons _ ?_))
      · refine WL.val (OpVal.fieldAddrB rfl) rfl rfl rfl ?_
        refine WL.val (OpVal.fieldAddrB rfl) rfl rfl rfl ?_
        refine WL.val (OpVal.loadB rfl (.head _) rfl) rfl rfl rfl ?_
        refine WL.val (OpVal.opv rfl) rfl rfl rfl ?_
        refine WL.val (OpVal.opv rfl) rfl rfl rfl ?_
        refine WL.val (OpVal.opv rfl) rfl rfl rfl ?_
        refine WL.split rfl rfl (fun g44 => ?_) (fun g44 => ?_)
        · refine WL.pass rfl rfl rfl ?_
          refine WL.pass rfl rfl rfl ?_
          refine WL.pass rfl rfl rfl ?_
          refine WL.pass rfl rfl rfl ?_
          refine WL.pass rfl rfl rfl ?_
          refine WL.pass rfl rfl rfl ?_
          refine WL.pass rfl rfl rfl ?_
          refine WL.val (OpVal.opv rfl) rfl rfl rfl ?_
          refine WL.val (OpVal.opv rfl) rfl rfl rfl ?_
          refine WL.pass rfl rfl rfl ?_
          refine WL.pass rfl rfl rfl ?_
          refine WL.pass rfl rfl rfl ?_
          refine WL.pass rfl rfl rfl ?_
          refine WL.val (OpVal.opv rfl) rfl rfl rfl ?_
          refine WL.nil ?_
          skip
          exact Keff.intro ⟨rfl, rfl, congrArg (fun b => some (Value.bool b)) (by first | (simp [womanBad, -List.getD_eq_getElem?_getD]; done) | (simp_all [-List.getD_eq_getElem?_getD]; done) | (simp [womanBad, -List.getD_eq_getElem?_getD]; omega) | (rw [Bool.eq_iff_iff]; simp [womanBad, -List.getD_eq_getElem?_getD]; omega) | (simp [womanBad, -List.getD_eq_getElem?_getD] at *; omega)), trivial⟩ (fun _ h => h) (by repeat (first | exact List.Sublist.refl _ | refine List.Sublist.cons _ ?_ | refine List.Sublist.cons_cons _ ?_))
        · refine WL.val (OpVal.fieldAddrB rfl) rfl rfl rfl ?_
          refine WL.val (OpVal.fieldAddrB rfl) rfl rfl rfl ?_
          refine WL.val (OpVal.loadB rfl (.head _) rfl) rfl rfl rfl ?_
          refine WL.val (OpVal.fieldAddrB rfl) rfl rfl rfl ?_
          refine WL.val (OpVal.fieldAddrB rfl) rfl rfl rfl ?_
          refine WL.val (OpVal.loadB rfl (.head _) rfl) rfl rfl rfl ?_
          refine WL.val (OpVal.opv rfl) rfl rfl rfl ?_
          refine WL.val (OpVal.opv rfl) rfl rfl rfl ?_
          refine WL.val (OpVal.opv rfl) rfl rfl rfl ?_
          refine WL.split rfl rfl (fun g53 => ?_) (fun g53 => ?_)
          · refine WL.pass rfl rfl rfl ?_
            refine WL.pass rfl rfl rfl ?_
            refine WL.pass rfl rfl rfl ?_
            refine WL.pass rfl rfl rfl ?_
            refine WL.val (OpVal.opv rfl) rfl rfl rfl ?_
            refine WL.nil ?_
            skip
            exact Keff.intro ⟨rfl, rfl, congrArg (fun b => some (Value.bool b)) (by first | (simp [womanBad, -List.getD_eq_getElem?_getD]; done) | (simp_all [-List.getD_eq_getElem?_getD]; done) | (simp [womanBad, -List.getD_eq_getElem?_getD]; omega) | (rw [Bool.eq_iff_iff]; simp [womanBad, -List.getD_eq_getElem?_getD]; omega) | (simp [womanBad, -List.getD_eq_getElem?_getD] at *; omega)), trivial⟩ (fun _ h => h) (by repeat (first | exact List.Sublist.refl _ | refine List.Sublist.cons _ ?_ | refine List.Sublist.cons_cons _ ?_))
          · refine WL.val (OpVal.fieldAddrB rfl) rfl rfl rfl ?_
            refine WL.val (OpVal.fieldAddrB rfl) rfl rfl rfl ?_
            refine WL.val (OpVal.loadB rfl (.head _) rfl) rfl rfl rfl ?_
            refine WL.val (OpVal.opv rfl) rfl rfl rfl ?_
            refine WL.val (OpVal.opv rfl) rfl rfl rfl ?_
            refine WL.nil ?_
            skip
            exact Keff.intro ⟨rfl, rfl, congrArg (fun b => some (Value.bool b)) (by first | (simp [womanBad, -List.getD_eq_getElem?_getD]; done) | (simp_all [-List.getD_eq_getElem?_getD]; done) | (simp [womanBad, -List.getD_eq_getElem?_getD]; omega) | (rw [Bool.eq_iff_iff]; simp [womanBad, -List.getD_eq_getElem?_getD]; omega) | (simp [womanBad, -List.getD_eq_getElem?_getD] at *; omega)), trivial⟩ (fun _ h => h) (by repeat (first | exact List.Sublist.refl _ | refine List.Sublist.cons _ ?_ | refine List.Sublist.cons_cons _ ?_))
    refine Kseq.go ?_
    refine W.cond rfl rfl (fun he => ?_) (fun hne => ?_)
    · refine W.seq ?_
      refine W.region ?_
      refine WL.val (OpVal.opv rfl) rfl rfl rfl ?_
      refine WL.nil ?_
      refine Kseq.go ?_
      refine W.ret ?_; refine Kblock.ret (Kseq.ret (Kloop.ret (Kblock.ret (Kseq.ret ?_)))); refine ⟨.inl rfl, [_], h, ⟨.tmp rfl, trivial⟩, (by repeat (first | exact .head _ | refine .tail _ ?_)), ?_⟩
      exact congrArg (Value.int .i64) (by unfold fault; rw [if_neg h0, if_neg (by simp at h1; omega), if_pos (ex_iff.2 ⟨k, by omega, he⟩)])
    · refine W.skip (Kblock.normal (Kseq.go ?_))
      refine W.region ?_
      refine WL.val (OpVal.opv rfl) rfl rfl rfl ?_
      refine WL.val (OpVal.incr rfl (by omega)) rfl rfl rfl ?_
      refine WL.val (OpVal.opv rfl) rfl rfl rfl ?_
      refine WL.nil ?_
      skip
      refine Kloop.nextC (k + 1) ⟨by omega, fun i hi => ?_⟩ (by omega) ⟨rfl, rfl, trivial⟩ (by simp) (by repeat (first | exact List.Sublist.refl _ | refine List.Sublist.cons _ ?_ | refine List.Sublist.cons_cons _ ?_))
      rcases Nat.lt_succ_iff_lt_or_eq.1 hi with h2 | rfl
      · exact hall i h2
      · exact hne
  refine W.exit (Kseq.exit (Kloop.exit (Kblock.here (Kseq.go (W.seq (W.seq ?_))))))
  have h2 : ¬ ex t.women.length (fun w => womanBad (t.women.getD w default)) = true := by
    rw [ex_no.2 fun i hi => hall i (by omega)]; simp
  clear hall hge hk
  skip
  refine W.region ?_
  refine WL.val (OpVal.opv rfl) rfl rfl rfl ?_
  refine WL.nil ?_
  refine Kseq.go (W.block ?_)
  refine W.loopC (σ := Nat) (fun k => [(1, .pointer (some ⟨b1, 0, none⟩)), (5, .int .i64 (k : Int))]) (fun k => k ≤ t.pieces.length ∧ ∀ i, i < k → pieceBad t i = false) (fun k => t.pieces.length - k) 0 ⟨rfl, rfl, trivial⟩ ⟨Nat.zero_le _, fun i hi => absurd hi (Nat.not_lt_zero _)⟩ ?_
  rintro i ⟨hi, hall⟩
  refine W.seq (W.seq ?_)
  refine W.region ?_
  refine WL.val (OpVal.opv rfl) rfl rfl rfl ?_
  refine WL.val (OpVal.fieldAddrB rfl) rfl rfl rfl ?_
  refine WL.val (OpVal.loadB rfl (.head _) rfl) rfl rfl rfl ?_
  refine WL.val (OpVal.len rfl (by assumption)) rfl rfl rfl ?_
  refine WL.val (OpVal.opv rfl) rfl rfl rfl ?_
  refine WL.nil ?_
  refine Kseq.go ?_
  refine W.condD rfl rfl (fun hlt => ?_) (fun hge => ?_)
  · have hMi := hM i (by omega)
    have hms := hs3 i (by omega)
    have hbad : pieceBad t i = true → fault t = 1 := fun hb => by
      unfold fault; rw [if_neg h0, if_neg (by simp at h1; omega), if_neg h2, if_pos (ex_iff.2 ⟨i, by omega, hb⟩)]
    refine W.skip (Kseq.go (W.seq (W.block (W.seq ?_))))
    refine W.region ?_
    refine WL.val (OpVal.fieldAddrB rfl) rfl rfl rfl ?_
    refine WL.val (OpVal.loadB rfl (.head _) rfl) rfl rfl rfl ?_
    refine WL.val (OpVal.opv rfl) rfl rfl rfl ?_
    refine WL.val (OpVal.indexAddrN rfl rfl (by assumption) (by omega)) rfl rfl rfl ?_
    refine WL.val (OpVal.loadEA rfl (by assumption) (by repeat (first | exact .head _ | refine .tail _ ?_)) (by omega)) rfl rfl rfl ?_
    refine WL.alloc rfl rfl rfl (fun b6 => ?_)
    refine WL.store [_, _] rfl (.head _) rfl rfl rfl (Nat.le_of_ble_eq_true rfl) (by first | (simp [Value.cells, Value.oneCell']; done) | exact IsArr.ones hW (by omega) | exact IsArr.ones hP (by omega) | exact IsArr.ones hS (by omega) | exact IsArr.ones hH (by omega) | exact IsArr.ones hL (by omega) | exact IsArr.ones hB (by omega) | exact IsArr.ones hT (by omega) | exact IsArr.ones hm (by omega)) rfl ?_
    refine WL.nil ?_
    refine Kseq.go (W.seq (W.seq ?_))
    skip
    refine W.region ?_
    refine WL.val (OpVal.opv rfl) rfl rfl rfl ?_
    refine WL.nil ?_
    refine Kseq.go (W.block ?_)
    refine W.loopC (σ := Nat) (fun k => [(1, .pointer (some ⟨b1, 0, none⟩)), (5, .int .i64 (i : Int)), (6, .pointer (some ⟨b6, 0, none⟩)), (7, .int .i64 (k : Int))]) (fun k => k ≤ (t.pieces.getD i default).marks.length ∧ ∀ j, j < k → markBad (t.pieces.getD i default).marks j = false) (fun k => (t.pieces.getD i default).marks.length - k) 0 ⟨rfl, rfl, rfl, rfl, trivial⟩ ⟨Nat.zero_le _, fun i hi => absurd hi (Nat.not_lt_zero _)⟩ ?_
    rintro k ⟨hk, hallk⟩
    refine W.seq (W.seq ?_)
    refine W.region ?_
    refine WL.val (OpVal.opv rfl) rfl rfl rfl ?_
    refine WL.val (OpVal.fieldAddrB rfl) rfl rfl rfl ?_
    refine WL.val (OpVal.loadB rfl (.head _) rfl) rfl rfl rfl ?_
    refine WL.val (OpVal.len rfl (by assumption)) rfl rfl rfl ?_
    refine WL.val (OpVal.opv rfl) rfl rfl rfl ?_
    refine WL.nil ?_
    refine Kseq.go ?_
    refine W.condD rfl rfl (fun hltk => ?_) (fun hgek => ?_)
    · have e : ((k : Int) - 1).toNat = k - 1 := by omega
      refine W.skip (Kseq.go (W.seq (W.block (W.seq ?_))))
      refine W.toS [(1, .pointer (some ⟨b1, 0, none⟩)), (5, .int .i64 (i : Int)), (6, .pointer (some ⟨b6, 0, none⟩)), (7, .int .i64 (k : Int)), (102, .bool (markBad (t.pieces.getD i default).marks k))] ?_ ?_
      · skip
        refine W.draw 22 (by kernel_rfl) (by kernel_rfl) (by kernel_rfl) rfl ?_
        refine DJ.val [] (OpVal.fieldAddrB rfl) rfl rfl rfl rfl ?_
        refine DJ.val [] (OpVal.loadB rfl (.head _) rfl) rfl rfl rfl rfl ?_
        refine DJ.val [] (OpVal.opv rfl) rfl rfl rfl rfl ?_
        refine DJ.val [] (OpVal.indexAddrN rfl rfl (by assumption) (by omega)) rfl rfl rfl rfl ?_
        refine DJ.val [] (OpVal.loadE rfl (by assumption) (by repeat (first | exact .head _ | refine .tail _ ?_)) (by omega) (by omega)) rfl rfl rfl rfl ?_
        refine DJ.val [] (OpVal.call rfl (fun m hm => in_any _ _ _)) rfl rfl rfl rfl ?_
        refine DJ.val [] (OpVal.opv rfl) rfl rfl rfl rfl ?_
        refine DJ.val [] (OpVal.opv rfl) rfl rfl rfl rfl ?_
        refine DJ.splitN rfl rfl (fun g85 => ?_) (fun g85 => ?_)
        · refine DJ.pass rfl rfl rfl rfl ?_
          refine DJ.pass rfl rfl rfl rfl ?_
          refine DJ.pass rfl rfl rfl rfl ?_
          refine DJ.pass rfl rfl rfl rfl ?_
          refine DJ.pass rfl rfl rfl rfl ?_
          refine DJ.pass rfl rfl rfl rfl ?_
          refine DJ.pass rfl rfl rfl rfl ?_
          refine DJ.pass rfl rfl rfl rfl ?_
          refine DJ.pass rfl rfl rfl rfl ?_
          refine DJ.pass rfl rfl rfl rfl ?_
          refine DJ.pass rfl rfl rfl rfl ?_
          refine DJ.pass rfl rfl rfl rfl ?_
          refine DJ.pass rfl rfl rfl rfl ?_
          refine DJ.pass rfl rfl rfl rfl ?_
          refine DJ.nil ?_
          refine WL.pass rfl rfl rfl ?_
          refine WL.pass rfl rfl rfl ?_
          refine WL.val (OpVal.opv rfl) rfl rfl rfl ?_
          refine WL.nil ?_
          skip
          exact Keff.intro ⟨rfl, rfl, rfl, rfl, congrArg (fun b => some (Value.bool b)) (by first | (simp [markBad, -List.getD_eq_getElem?_getD]; done) | (simp_all [-List.getD_eq_getElem?_getD]; done) | (simp [markBad, -List.getD_eq_getElem?_getD]; omega) | (rw [Bool.eq_iff_iff]; simp [markBad, e, -List.getD_eq_getElem?_getD]; omega) | (simp [markBad, e, -List.getD_eq_getElem?_getD] at *; omega)), trivial⟩ (fun _ h => h) (by repeat (first | exact List.Sublist.refl _ | refine List.Sublist.cons _ ?_ | refine List.Sublist.cons_cons _ ?_))
        · refine DJ.val [] (OpVal.opv rfl) rfl rfl rfl rfl ?_
          refine DJ.val [] (OpVal.opv rfl) rfl rfl rfl rfl ?_
          refine DJ.val [] (OpVal.opv rfl) rfl rfl rfl rfl ?_
          refine DJ.split rfl rfl (fun g88 => ?_) (fun g88 => ?_)
          · refine DJ.val [] (OpVal.fieldAddrB rfl) rfl rfl rfl rfl ?_
            refine DJ.val [] (OpVal.loadB rfl (.head _) rfl) rfl rfl rfl rfl ?_
            refine DJ.val [] (OpVal.opv rfl) rfl rfl rfl rfl ?_
            refine DJ.val [] (OpVal.indexAddrN rfl rfl (by assumption) (by omega)) rfl rfl rfl rfl ?_
            refine DJ.val [] (OpVal.loadE rfl (by assumption) (by repeat (first | exact .head _ | refine .tail _ ?_)) (by omega) (by omega)) rfl rfl rfl rfl ?_
            refine DJ.val [] (OpVal.fieldAddrB rfl) rfl rfl rfl rfl ?_
            refine DJ.val [] (OpVal.loadB rfl (.head _) rfl) rfl rfl rfl rfl ?_
            refine DJ.val [] (OpVal.opv rfl) rfl rfl rfl rfl ?_
            refine DJ.val [] (OpVal.sub rfl rfl (by omega) (by omega)) rfl rfl rfl rfl ?_
            refine DJ.val [] (OpVal.indexAddr rfl rfl (by assumption) (by omega) (by omega)) rfl rfl rfl rfl ?_
            refine DJ.val [] (OpVal.loadE rfl (by assumption) (by repeat (first | exact .head _ | refine .tail _ ?_)) (by omega) (by omega)) rfl rfl rfl rfl ?_
            refine DJ.nil ?_
            refine WL.val (OpVal.opv rfl) rfl rfl rfl ?_
            refine WL.val (OpVal.opv rfl) rfl rfl rfl ?_
            refine WL.val (OpVal.opv rfl) rfl rfl rfl ?_
            refine WL.nil ?_
            skip
            exact Keff.intro ⟨rfl, rfl, rfl, rfl, congrArg (fun b => some (Value.bool b)) (by first | (simp [markBad, -List.getD_eq_getElem?_getD]; done) | (simp_all [-List.getD_eq_getElem?_getD]; done) | (simp [markBad, -List.getD_eq_getElem?_getD]; omega) | (rw [Bool.eq_iff_iff]; simp [markBad, e, -List.getD_eq_getElem?_getD]; omega) | (simp [markBad, e, -List.getD_eq_getElem?_getD] at *; omega)), trivial⟩ (fun _ h => h) (by repeat (first | exact List.Sublist.refl _ | refine List.Sublist.cons _ ?_ | refine List.Sublist.cons_cons _ ?_))
          · refine DJ.pass rfl rfl rfl rfl ?_
            refine DJ.pass rfl rfl rfl rfl ?_
            refine DJ.pass rfl rfl rfl rfl ?_
            refine DJ.pass rfl rfl rfl rfl ?_
            refine DJ.pass rfl rfl rfl rfl ?_
            refine DJ.pass rfl rfl rfl rfl ?_
            refine DJ.pass rfl rfl rfl rfl ?_
            refine DJ.pass rfl rfl rfl rfl ?_
            refine DJ.pass rfl rfl rfl rfl ?_
            refine DJ.pass rfl rfl rfl rfl ?_
            refine DJ.pass rfl rfl rfl rfl ?_
            refine DJ.nil ?_
            refine WL.pass rfl rfl rfl ?_
            refine WL.val (OpVal.opv rfl) rfl rfl rfl ?_
            refine WL.val (OpVal.opv rfl) rfl rfl rfl ?_
            refine WL.nil ?_
            skip
            exact Keff.intro ⟨rfl, rfl, rfl, rfl, congrArg (fun b => some (Value.bool b)) (by first | (simp [markBad, -List.getD_eq_getElem?_getD]; done) | (simp_all [-List.getD_eq_getElem?_getD]; done) | (simp [markBad, -List.getD_eq_getElem?_getD]; omega) | (rw [Bool.eq_iff_iff]; simp [markBad, e, -List.getD_eq_getElem?_getD]; omega) | (simp [markBad, e, -List.getD_eq_getElem?_getD] at *; omega)), trivial⟩ (fun _ h => h) (by repeat (first | exact List.Sublist.refl _ | refine List.Sublist.cons _ ?_ | refine List.Sublist.cons_cons _ ?_))
      refine Kseq.go ?_
      refine W.cond rfl rfl (fun he => ?_) (fun hne => ?_)
      · refine W.seq ?_
        refine W.region ?_
        refine WL.val (OpVal.opv rfl) rfl rfl rfl ?_
        refine WL.nil ?_
        refine Kseq.go ?_
        refine W.ret ?_; refine Kblock.ret (Kseq.ret (Kloop.ret (Kblock.ret (Kseq.ret (Kblock.ret (Kseq.ret (Kloop.ret (Kblock.ret (Kseq.ret ?_))))))))); refine ⟨.inl rfl, [_], h, ⟨.tmp rfl, trivial⟩, (by repeat (first | exact .head _ | refine .tail _ ?_)), ?_⟩
        exact congrArg (Value.int .i64) (hbad (by have h3 := ex_iff.2 ⟨k, (by omega : k < (t.pieces.getD i default).marks.length), he⟩; simp only [pieceBad, h3, Bool.true_or])).symm
      · refine W.skip (Kblock.normal (Kseq.go ?_))
        refine W.region ?_
        refine WL.val (OpVal.opv rfl) rfl rfl rfl ?_
        refine WL.val (OpVal.incr rfl (by omega)) rfl rfl rfl ?_
        refine WL.val (OpVal.opv rfl) rfl rfl rfl ?_
        refine WL.nil ?_
        skip
        refine Kloop.nextC (k + 1) ⟨by omega, fun j hj => ?_⟩ (by omega) ⟨rfl, rfl, rfl, rfl, trivial⟩ (by simp) (by repeat (first | exact List.Sublist.refl _ | refine List.Sublist.cons _ ?_ | refine List.Sublist.cons_cons _ ?_))
        rcases Nat.lt_succ_iff_lt_or_eq.1 hj with h3 | rfl
        · exact hallk j h3
        · exact hne
    · have h3 : ex (t.pieces.getD i default).marks.length (markBad (t.pieces.getD i default).marks) = false := ex_no.2 fun j hj => hallk j (by omega)
      refine W.exit (Kseq.exit (Kloop.exit (Kblock.here (Kseq.go (W.seq ?_)))))
      refine W.toS [(1, .pointer (some ⟨b1, 0, none⟩)), (5, .int .i64 (i : Int)), (117, .bool (pieceBad t i))] ?_ ?_
      · skip
        refine W.region ?_
        refine WL.val (OpVal.fieldAddrB rfl) rfl rfl rfl ?_
        refine WL.val (OpVal.loadB rfl (.head _) rfl) rfl rfl rfl ?_
        refine WL.val (OpVal.fieldAddrB rfl) rfl rfl rfl ?_
        refine WL.val (OpVal.loadB rfl (.tail _ (.head _)) rfl) rfl rfl rfl ?_
        refine WL.val (OpVal.len rfl (by assumption)) rfl rfl rfl ?_
        refine WL.val (OpVal.sub rfl rfl (by omega) (by omega)) rfl rfl rfl ?_
        refine WL.val (OpVal.call rfl (fun m hm => in_any _ _ _)) rfl rfl rfl ?_
        refine WL.val (OpVal.opv rfl) rfl rfl rfl ?_
        refine WL.val (OpVal.opv rfl) rfl rfl rfl ?_
        refine WL.splitN rfl rfl (fun g111 => ?_) (fun g111 => ?_)
        · refine WL.pass rfl rfl rfl ?_
          refine WL.pass rfl rfl rfl ?_
          refine WL.pass rfl rfl rfl ?_
          refine WL.pass rfl rfl rfl ?_
          refine WL.pass rfl rfl rfl ?_
          refine WL.val (OpVal.opv rfl) rfl rfl rfl ?_
          refine WL.nil ?_
          skip
          exact Keff.intro ⟨rfl, rfl, congrArg (fun b => some (Value.bool b)) (by first | (simp [pieceBad, h3, -List.getD_eq_getElem?_getD]; done) | (simp_all [-List.getD_eq_getElem?_getD]; done) | (simp [pieceBad, h3, -List.getD_eq_getElem?_getD]; omega) | (rw [Bool.eq_iff_iff]; simp [pieceBad, h3, -List.getD_eq_getElem?_getD]; omega) | (simp [pieceBad, h3, -List.getD_eq_getElem?_getD] at *; omega)), trivial⟩ (by simp) (by repeat (first | exact List.Sublist.refl _ | refine List.Sublist.cons _ ?_ | refine List.Sublist.cons_cons _ ?_))
        · refine WL.val (OpVal.loadBW rfl (.tail _ (.head _)) rfl) rfl rfl rfl ?_
          refine WL.val (OpVal.opv rfl) rfl rfl rfl ?_
          refine WL.abs (OpAbs.call rfl (fun m hm => womenOf_any (hv'.le (by repeat (first | exact hm.1 | replace hm := hm.2))) hs' (by omega))) rfl rfl rfl ?_
          rintro m114 v114 h114
          refine WL.val (OpVal.len rfl (by assumption)) rfl rfl rfl ?_
          refine WL.val (OpVal.opv rfl) rfl rfl rfl ?_
          refine WL.val (OpVal.opv rfl) rfl rfl rfl ?_
          refine WL.nil ?_
          skip
          exact Keff.intro ⟨rfl, rfl, congrArg (fun b => some (Value.bool b)) (by first | (simp [pieceBad, h3, -List.getD_eq_getElem?_getD]; done) | (simp_all [-List.getD_eq_getElem?_getD]; done) | (simp [pieceBad, h3, -List.getD_eq_getElem?_getD]; omega) | (rw [Bool.eq_iff_iff]; simp [pieceBad, h3, -List.getD_eq_getElem?_getD]; omega) | (simp [pieceBad, h3, -List.getD_eq_getElem?_getD] at *; omega)), trivial⟩ (by simp) (by repeat (first | exact List.Sublist.refl _ | refine List.Sublist.cons _ ?_ | refine List.Sublist.cons_cons _ ?_))
      refine Kseq.go ?_
      refine W.cond rfl rfl (fun he => ?_) (fun hne => ?_)
      · refine W.seq ?_
        refine W.region ?_
        refine WL.val (OpVal.opv rfl) rfl rfl rfl ?_
        refine WL.nil ?_
        refine Kseq.go ?_
        refine W.ret ?_; refine Kblock.ret (Kseq.ret (Kloop.ret (Kblock.ret (Kseq.ret ?_)))); refine ⟨.inl rfl, [_], h, ⟨.tmp rfl, trivial⟩, (by repeat (first | exact .head _ | refine .tail _ ?_)), ?_⟩
        exact congrArg (Value.int .i64) (hbad he).symm
      · refine W.skip (Kblock.normal (Kseq.go ?_))
        refine W.region ?_
        refine WL.val (OpVal.opv rfl) rfl rfl rfl ?_
        refine WL.val (OpVal.incr rfl (by omega)) rfl rfl rfl ?_
        refine WL.val (OpVal.opv rfl) rfl rfl rfl ?_
        refine WL.nil ?_
        skip
        refine Kloop.nextC (i + 1) ⟨by omega, fun j hj => ?_⟩ (by omega) ⟨rfl, rfl, trivial⟩ (by simp) (by repeat (first | exact List.Sublist.refl _ | refine List.Sublist.cons _ ?_ | refine List.Sublist.cons_cons _ ?_))
        rcases Nat.lt_succ_iff_lt_or_eq.1 hj with h3 | rfl
        · exact hall j h3
        · exact hne
  refine W.exit (Kseq.exit (Kloop.exit (Kblock.here (Kseq.go (W.seq (W.seq ?_))))))
  have h3 : ¬ ex t.pieces.length (pieceBad t) = true := by
    rw [ex_no.2 fun i hi => hall i (by omega)]; simp
  skip
  refine W.region ?_
  refine WL.val (OpVal.loadBW rfl (.head _) rfl) rfl rfl rfl ?_
  refine WL.val (OpVal.call rfl (fun m hm => many_any (hv'.le (by repeat (first | exact hm.1 | replace hm := hm.2))) hs')) rfl rfl rfl ?_
  refine WL.val (OpVal.opv rfl) rfl rfl rfl ?_
  refine WL.nil ?_
  refine Kseq.go ?_
  refine W.condD rfl rfl (fun h4 => ?_) (fun h4 => ?_)
  · refine W.seq ?_
    refine W.region ?_
    refine WL.val (OpVal.opv rfl) rfl rfl rfl ?_
    refine WL.nil ?_
    refine Kseq.go ?_
    refine W.ret ?_; refine Kseq.ret ?_; refine ⟨.inl rfl, [_], h, ⟨.tmp rfl, trivial⟩, (by repeat (first | exact .head _ | refine .tail _ ?_)), ?_⟩
    exact congrArg (Value.int .i64) (by unfold fault; rw [if_neg h0, if_neg (by simp at h1; omega), if_neg h2, if_neg h3, if_pos h4])
  · refine W.skip (Kseq.go (W.seq ?_))
    refine W.region ?_
    refine WL.val (OpVal.opv rfl) rfl rfl rfl ?_
    refine WL.nil ?_
    refine Kseq.go ?_
    refine W.ret ?_; skip; refine ⟨.inl rfl, [_], h, ⟨.tmp rfl, trivial⟩, (by repeat (first | exact .head _ | refine .tail _ ?_)), ?_⟩
    exact congrArg (Value.int .i64) (by unfold fault; rw [if_neg h0, if_neg (by simp at h1; omega), if_neg h2, if_neg h3, if_neg h4])
end Go.Proofs.Ytbmohbeocnfefaa

/- The statements' own functions of chapter 3: their contracts. -/
namespace Go.Proofs.Ytbmohbeocnfefaa
open Go Go.Eng Go.RowKit

/-- list -/
theorem list_any {h : Mem} {v : Value} {xs : List Int} (hv : IsInts h v xs) (hn : xs.length ≤ 1000) : FnR Try.prog 29 #[v] h (fun m r => IsInts m r xs) := by
  refine FnR.of_W (n := 5) Try.func29 rfl rfl (Nat.le_of_ble_eq_true rfl) fun c hr hD hF => ?_
  refine W.seq ?_
  refine W.region ?_
  refine WL.val (OpVal.opv rfl) rfl rfl rfl ?_
  refine WL.nil ?_
  refine Kseq.go (W.seq ?_)
  skip
  refine W.region ?_
  refine WL.val (OpVal.opv rfl) rfl rfl rfl ?_
  refine WL.nilRow 3 1 ?_
  (refine WL.appInts (xs := []) rfl (fun _ => .head _) rfl (by assumption) (by repeat (first | exact .head _ | refine .tail _ ?_)) (by simp; omega) rfl rfl rfl ?_; intro a4 cp4)
  refine WL.val (OpVal.opv rfl) rfl rfl rfl ?_
  refine WL.nil ?_
  refine Kseq.go ?_
  refine W.freezeInts (xs := xs) (.head _) (fun b hb => (hF b hb).elim) fun mr hmr => ?_
  refine W.ret ?_; skip; refine ⟨.inl rfl, [_], mr, ⟨.tmp rfl, trivial⟩, (by repeat (first | exact .head _ | refine .tail _ ?_)), ?_⟩
  exact hmr

/-- ints -/
theorem ints_any {h : Mem} {av bv : Value} {a b : List Int} (ha : IsInts h av a) (hb : IsInts h bv b) : FnV Try.prog 17 #[av, bv] h (.bool (decide (a = b))) := by
  have hla := ha.bd
  have hlb := hb.bd
  refine FnR.val ?_
  refine FnR.of_W (n := 26) Try.func17 rfl rfl (Nat.le_of_ble_eq_true rfl) fun c hr hD hF => ?_
  refine W.seq ?_
  refine W.region ?_
  refine WL.val (OpVal.opv rfl) rfl rfl rfl ?_
  refine WL.nil ?_
  refine Kseq.go (W.seq (W.seq ?_))
  skip
  refine W.region ?_
  refine WL.val (OpVal.opv rfl) rfl rfl rfl ?_
  refine WL.val (OpVal.len rfl (by assumption)) rfl rfl rfl ?_
  refine WL.val (OpVal.opv rfl) rfl rfl rfl ?_
  refine WL.val (OpVal.len rfl (by assumption)) rfl rfl rfl ?_
  refine WL.val (OpVal.opv rfl) rfl rfl rfl ?_
  refine WL.nil ?_
  refine Kseq.go ?_
  refine W.cond rfl rfl (fun he => ?_) (fun hne => ?_)
  · refine W.seq ?_
    refine W.region ?_
    refine WL.val (OpVal.opv rfl) rfl rfl rfl ?_
    refine WL.nil ?_
    refine Kseq.go ?_
    refine W.ret ?_; refine Kseq.ret ?_; refine ⟨.inl rfl, [_], h, ⟨.tmp rfl, trivial⟩, (by repeat (first | exact .head _ | refine .tail _ ?_)), ?_⟩
    exact congrArg Value.bool (decide_eq_false fun e => by subst e; simp at he).symm
  have hn : a.length = b.length := by simp at hne; omega
  refine W.skip (Kseq.go (W.seq (W.seq ?_)))
  refine W.region ?_
  refine WL.val (OpVal.opv rfl) rfl rfl rfl ?_
  refine WL.nil ?_
  refine Kseq.go (W.block ?_)
  refine W.loopC (σ := Nat) (fun k => [(0, av), (1, bv), (5, .int .i64 (k : Int))]) (fun k => k ≤ a.length ∧ ∀ i, i < k → a.getD i 0 = b.getD i 0) (fun k => a.length - k) 0 ⟨rfl, rfl, rfl, trivial⟩ ⟨Nat.zero_le _, fun i hi => absurd hi (Nat.not_lt_zero _)⟩ ?_
  rintro k ⟨hk, hall⟩
  refine W.seq (W.seq ?_)
  refine W.region ?_
  refine WL.val (OpVal.opv rfl) rfl rfl rfl ?_
  refine WL.val (OpVal.opv rfl) rfl rfl rfl ?_
  refine WL.val (OpVal.len rfl (by assumption)) rfl rfl rfl ?_
  refine WL.val (OpVal.opv rfl) rfl rfl rfl ?_
  refine WL.nil ?_
  refine Kseq.go ?_
  refine W.condD rfl rfl (fun hlt => ?_) (fun hge => ?_)
  · refine W.skip (Kseq.go (W.seq (W.block (W.seq ?_))))
    refine W.draw 8 (by kernel_rfl) (by kernel_rfl) (by kernel_rfl) rfl ?_
    refine DJ.val [] (OpVal.opv rfl) rfl rfl rfl rfl ?_
    refine DJ.val [] (OpVal.opv rfl) rfl rfl rfl rfl ?_
    refine DJ.val [] (OpVal.indexAddrN rfl rfl (by assumption) (by omega)) rfl rfl rfl rfl ?_
    refine DJ.val [] (OpVal.loadE rfl (by assumption) (by repeat (first | exact .head _ | refine .tail _ ?_)) (by omega) (by omega)) rfl rfl rfl rfl ?_
    refine DJ.val [] (OpVal.opv rfl) rfl rfl rfl rfl ?_
    refine DJ.val [] (OpVal.opv rfl) rfl rfl rfl rfl ?_
    refine DJ.val [] (OpVal.indexAddrN rfl rfl (by assumption) (by omega)) rfl rfl rfl rfl ?_
    refine DJ.val [] (OpVal.loadE rfl (by assumption) (by repeat (first | exact .head _ | refine .tail _ ?_)) (by omega) (by omega)) rfl rfl rfl rfl ?_
    refine DJ.nil ?_
    refine WL.val (OpVal.opv rfl) rfl rfl rfl ?_
    refine WL.nil ?_
    refine Kseq.go ?_
    refine W.cond rfl rfl (fun he => ?_) (fun hne2 => ?_)
    · refine W.seq ?_
      refine W.region ?_
      refine WL.val (OpVal.opv rfl) rfl rfl rfl ?_
      refine WL.nil ?_
      refine Kseq.go ?_
      refine W.ret ?_; refine Kblock.ret (Kseq.ret (Kloop.ret (Kblock.ret (Kseq.ret ?_)))); refine ⟨.inl rfl, [_], h, ⟨.tmp rfl, trivial⟩, (by repeat (first | exact .head _ | refine .tail _ ?_)), ?_⟩
      exact congrArg Value.bool (decide_eq_false fun e => by subst e; simp at he).symm
    · refine W.skip (Kblock.normal (Kseq.go ?_))
      refine W.region ?_
      refine WL.val (OpVal.opv rfl) rfl rfl rfl ?_
      refine WL.val (OpVal.incr rfl (by omega)) rfl rfl rfl ?_
      refine WL.val (OpVal.opv rfl) rfl rfl rfl ?_
      refine WL.nil ?_
      skip
      refine Kloop.nextC (k + 1) ⟨by omega, fun i hi => ?_⟩ (by omega) ⟨rfl, rfl, rfl, trivial⟩ (by simp) (.refl _)
      rcases Nat.lt_succ_iff_lt_or_eq.1 hi with h2 | rfl
      · exact hall i h2
      · simpa using hne2
  · refine W.exit (Kseq.exit (Kloop.exit (Kblock.here (Kseq.go (W.seq ?_)))))
    refine W.region ?_
    refine WL.val (OpVal.opv rfl) rfl rfl rfl ?_
    refine WL.nil ?_
    refine Kseq.go ?_
    refine W.ret ?_; skip; refine ⟨.inl rfl, [_], h, ⟨.tmp rfl, trivial⟩, (by repeat (first | exact .head _ | refine .tail _ ?_)), ?_⟩
    refine congrArg Value.bool (decide_eq_true (List.ext_getElem hn fun i h1 h2 => ?_)).symm
    have := hall i (by omega)
    rw [List.getD_eq_getElem?_getD, List.getD_eq_getElem?_getD, List.getElem?_eq_getElem h1, List.getElem?_eq_getElem h2] at this
    exact this

/-- Thin, but for the owners. -/
def ThinB (t : Table) : Bool := decide (t.women.length ≤ 7 ∧ t.pieces.length ≤ 9) && !ex t.pieces.length (fun i => decide (12 < (t.pieces.getD i default).marks.length)) && (!decide (fault t = 0) || decide (many t ≤ 200))
theorem ThinB.sm {t : Table} (h : ThinB t = true) : Sm t := by
  simp only [ThinB, Bool.and_eq_true, decide_eq_true_eq, Bool.not_eq_true'] at h
  refine ⟨by omega, by omega, fun i hi => ?_⟩
  have := of_decide_eq_false (ex_no.1 h.1.2 i hi)
  omega

/-- Thin -/
theorem thin_any {h : Mem} {v : Value} {t : Table} (hv : IsTable h v t) : FnV Try.prog 26 #[v] h (.bool (ThinB t)) := by
  have hv' := hv
  obtain ⟨wv, pv, f, rfl, hW, hP, hM⟩ := hv
  have hwb := hW.bd
  have hpb := hP.bd
  refine FnR.val ?_
  refine FnR.of_W (n := 37) Try.func26 rfl rfl (Nat.le_of_ble_eq_true rfl) fun c hr hD hF => ?_
  refine W.seq ?_
  refine W.region ?_
  refine WL.box rfl rfl rfl rfl (fun b1 => ?_)
  refine WL.val (OpVal.opv rfl) rfl rfl rfl ?_
  refine WL.nil ?_
  refine Kseq.go (W.seq (W.seq ?_))
  skip
  refine W.toS [(1, .pointer (some ⟨b1, 0, none⟩)), (13, .bool (!decide (t.women.length ≤ 7 ∧ t.pieces.length ≤ 9)))] ?_ ?_
  · skip
    refine W.region ?_
    refine WL.val (OpVal.fieldAddrB rfl) rfl rfl rfl ?_
    refine WL.val (OpVal.loadB rfl (.head _) rfl) rfl rfl rfl ?_
    refine WL.val (OpVal.len rfl (by assumption)) rfl rfl rfl ?_
    refine WL.val (OpVal.opv rfl) rfl rfl rfl ?_
    refine WL.val (OpVal.opv rfl) rfl rfl rfl ?_
    refine WL.split rfl rfl (fun g8 => ?_) (fun g8 => ?_)
    · refine WL.pass rfl rfl rfl ?_
      refine WL.pass rfl rfl rfl ?_
      refine WL.pass rfl rfl rfl ?_
      refine WL.pass rfl rfl rfl ?_
      refine WL.val (OpVal.opv rfl) rfl rfl rfl ?_
      refine WL.nil ?_
      skip
      exact Keff.intro ⟨rfl, congrArg (fun b => some (Value.bool b)) (by first | (simp [-List.getD_eq_getElem?_getD]; done) | (simp_all [-List.getD_eq_getElem?_getD]; done) | (simp [-List.getD_eq_getElem?_getD]; omega) | (rw [Bool.eq_iff_iff]; simp [-List.getD_eq_getElem?_getD]; omega) | (simp [Bool.and_eq_true, -List.getD_eq_getElem?_getD] at *; omega)), trivial⟩ (fun _ h => h) (by repeat (first | exact List.Sublist.refl _ | refine List.Sublist.cons _ ?_ | refine List.Sublist.cons_cons _ ?_))
    · refine WL.val (OpVal.fieldAddrB rfl) rfl rfl rfl ?_
      refine WL.val (OpVal.loadB rfl (.head _) rfl) rfl rfl rfl ?_
      refine WL.val (OpVal.len rfl (by assumption)) rfl rfl rfl ?_
      refine WL.val (OpVal.opv rfl) rfl rfl rfl ?_
      refine WL.val (OpVal.opv rfl) rfl rfl rfl ?_
      refine WL.nil ?_
      skip
      exact Keff.intro ⟨rfl, congrArg (fun b => some (Value.bool b)) (by first | (simp [-List.getD_eq_getElem?_getD]; done) | (simp_all [-List.getD_eq_getElem?_getD]; done) | (simp [-List.getD_eq_getElem?_getD]; omega) | (rw [Bool.eq_iff_iff]; simp [-List.getD_eq_getElem?_getD]; omega) | (simp [Bool.and_eq_true, -List.getD_eq_getElem?_getD] at *; omega)), trivial⟩ (fun _ h => h) (by repeat (first | exact List.Sublist.refl _ | refine List.Sublist.cons _ ?_ | refine List.Sublist.cons_cons _ ?_))
  refine Kseq.go ?_
  refine W.cond rfl rfl (fun h0 => ?_) (fun h0 => ?_)
  · refine W.seq ?_
    refine W.region ?_
    refine WL.val (OpVal.opv rfl) rfl rfl rfl ?_
    refine WL.nil ?_
    refine Kseq.go ?_
    refine W.ret ?_; refine Kseq.ret ?_; refine ⟨.inl rfl, [_], h, ⟨.tmp rfl, trivial⟩, (by repeat (first | exact .head _ | refine .tail _ ?_)), ?_⟩
    exact congrArg Value.bool (by unfold ThinB; simp only [Bool.not_eq_true'] at h0; rw [h0]; rfl)
  simp only [Bool.not_eq_false', decide_eq_true_eq] at h0
  refine W.skip (Kseq.go (W.seq (W.seq ?_)))
  refine W.region ?_
  refine WL.val (OpVal.opv rfl) rfl rfl rfl ?_
  refine WL.nil ?_
  refine Kseq.go (W.block ?_)
  refine W.loopC (σ := Nat) (fun k => [(1, .pointer (some ⟨b1, 0, none⟩)), (3, .int .i64 (k : Int))]) (fun k => k ≤ t.pieces.length ∧ ∀ i, i < k → decide (12 < (t.pieces.getD i default).marks.length) = false) (fun k => t.pieces.length - k) 0 ⟨rfl, rfl, trivial⟩ ⟨Nat.zero_le _, fun i hi => absurd hi (Nat.not_lt_zero _)⟩ ?_
  rintro k ⟨hk, hall⟩
  refine W.seq (W.seq ?_)
  refine W.region ?_
  refine WL.val (OpVal.opv rfl) rfl rfl rfl ?_
  refine WL.val (OpVal.fieldAddrB rfl) rfl rfl rfl ?_
  refine WL.val (OpVal.loadB rfl (.head _) rfl) rfl rfl rfl ?_
  refine WL.val (OpVal.len rfl (by assumption)) rfl rfl rfl ?_
  refine WL.val (OpVal.opv rfl) rfl rfl rfl ?_
  refine WL.nil ?_
  refine Kseq.go ?_
  refine W.condD rfl rfl (fun hlt => ?_) (fun hge => ?_)
  · have hMk := hM k (by omega)
    refine W.skip (Kseq.go (W.seq (W.block (W.seq ?_))))
    refine W.region ?_
    refine WL.val (OpVal.fieldAddrB rfl) rfl rfl rfl ?_
    refine WL.val (OpVal.loadB rfl (.head _) rfl) rfl rfl rfl ?_
    refine WL.val (OpVal.opv rfl) rfl rfl rfl ?_
    refine WL.val (OpVal.indexAddrN rfl rfl (by assumption) (by omega)) rfl rfl rfl ?_
    refine WL.val (OpVal.fieldAddrN rfl (by assumption) (by omega)) rfl rfl rfl ?_
    refine WL.val (OpVal.loadE rfl (by assumption) (by repeat (first | exact .head _ | refine .tail _ ?_)) (by omega) (by omega)) rfl rfl rfl ?_
    refine WL.val (OpVal.len rfl (by assumption)) rfl rfl rfl ?_
    refine WL.val (OpVal.opv rfl) rfl rfl rfl ?_
    refine WL.nil ?_
    refine Kseq.go ?_
    refine W.condD rfl rfl (fun he => ?_) (fun hne => ?_)
    · refine W.seq ?_
      refine W.region ?_
      refine WL.val (OpVal.opv rfl) rfl rfl rfl ?_
      refine WL.nil ?_
      refine Kseq.go ?_
      refine W.ret ?_; refine Kblock.ret (Kseq.ret (Kloop.ret (Kblock.ret (Kseq.ret ?_)))); refine ⟨.inl rfl, [_], h, ⟨.tmp rfl, trivial⟩, (by repeat (first | exact .head _ | refine .tail _ ?_)), ?_⟩
      have h2 := (ex_iff (p := fun i => decide (12 < (t.pieces.getD i default).marks.length))).2 ⟨k, (by omega : k < t.pieces.length), decide_eq_true (by omega)⟩
      exact congrArg Value.bool (by unfold ThinB; rw [h2]; simp)
    · refine W.skip (Kblock.normal (Kseq.go ?_))
      refine W.region ?_
      refine WL.val (OpVal.opv rfl) rfl rfl rfl ?_
      refine WL.val (OpVal.incr rfl (by omega)) rfl rfl rfl ?_
      refine WL.val (OpVal.opv rfl) rfl rfl rfl ?_
      refine WL.nil ?_
      skip
      refine Kloop.nextC (k + 1) ⟨by omega, fun i hi => ?_⟩ (by omega) ⟨rfl, rfl, trivial⟩ (by simp) (.refl _)
      rcases Nat.lt_succ_iff_lt_or_eq.1 hi with h2 | rfl
      · exact hall i h2
      · exact decide_eq_false (by omega)
  · have h2 : ex t.pieces.length (fun i => decide (12 < (t.pieces.getD i default).marks.length)) = false := ex_no.2 fun i hi => hall i (by omega)
    have hs : Sm t := ⟨by omega, by omega, fun i hi => by have := of_decide_eq_false (hall i (by omega)); omega⟩
    refine W.exit (Kseq.exit (Kloop.exit (Kblock.here (Kseq.go (W.seq ?_)))))
    skip
    refine W.region ?_
    refine WL.val (OpVal.loadBW rfl (.head _) rfl) rfl rfl rfl ?_
    refine WL.val (OpVal.call rfl (fun m hm => faultR_any (hv'.le (by repeat (first | exact hm.1 | replace hm := hm.2))) hs)) rfl rfl rfl ?_
    refine WL.val (OpVal.opv rfl) rfl rfl rfl ?_
    refine WL.val (OpVal.opv rfl) rfl rfl rfl ?_
    refine WL.splitN rfl rfl (fun g32 => ?_) (fun g32 => ?_)
    · refine WL.pass rfl rfl rfl ?_
      refine WL.pass rfl rfl rfl ?_
      refine WL.pass rfl rfl rfl ?_
      refine WL.val (OpVal.opv rfl) rfl rfl rfl ?_
      refine WL.val (OpVal.opv rfl) rfl rfl rfl ?_
      refine WL.nil ?_
      refine Kseq.go ?_
      (refine W.ret ?_; skip; refine ⟨.inl rfl, [_], h, ⟨.tmp rfl, trivial⟩, (by repeat (first | exact .head _ | refine .tail _ ?_)), ?_⟩; exact congrArg Value.bool (by first | (simp [ThinB, h2, h0, -List.getD_eq_getElem?_getD]; done) | (simp_all [-List.getD_eq_getElem?_getD]; done) | (simp [ThinB, h2, h0, -List.getD_eq_getElem?_getD]; omega) | (rw [Bool.eq_iff_iff]; simp [ThinB, h2, h0, -List.getD_eq_getElem?_getD]; omega) | (simp [ThinB, h2, h0, -List.getD_eq_getElem?_getD] at *; omega)))
    · refine WL.val (OpVal.loadBW rfl (.head _) rfl) rfl rfl rfl ?_
      refine WL.val (OpVal.call rfl (fun m hm => many_any (hv'.le (by repeat (first | exact hm.1 | replace hm := hm.2))) hs)) rfl rfl rfl ?_
      refine WL.val (OpVal.opv rfl) rfl rfl rfl ?_
      refine WL.val (OpVal.opv rfl) rfl rfl rfl ?_
      refine WL.val (OpVal.opv rfl) rfl rfl rfl ?_
      refine WL.nil ?_
      refine Kseq.go ?_
      (refine W.ret ?_; skip; refine ⟨.inl rfl, [_], h, ⟨.tmp rfl, trivial⟩, (by repeat (first | exact .head _ | refine .tail _ ?_)), ?_⟩; exact congrArg Value.bool (by first | (simp [ThinB, h2, h0, -List.getD_eq_getElem?_getD]; done) | (simp_all [-List.getD_eq_getElem?_getD]; done) | (simp [ThinB, h2, h0, -List.getD_eq_getElem?_getD]; omega) | (rw [Bool.eq_iff_iff]; simp [ThinB, h2, h0, -List.getD_eq_getElem?_getD]; omega) | (simp [ThinB, h2, h0, -List.getD_eq_getElem?_getD] at *; omega)))

end Go.Proofs.Ytbmohbeocnfefaa

/- The statements' own functions of chapter 3, on: their contracts. -/
namespace Go.Proofs.Ytbmohbeocnfefaa
open Go Go.Eng Go.RowKit

def wv3 (w : Woman) : Value := .agg #[vi w.mark, vi w.lo, vi w.hi]
def pv2 (f : Value) (p : Piece) : Value := .agg #[f, vi p.bundle]
theorem women_of {m : Mem} {v : Value} {ws : List Woman} (h : IsArr m 3 v (ws.map wv3).length (fun i j => ((ws.map wv3).getD i undef).cells.getD j undef)) : IsWomen m v ws := by
  rw [List.length_map] at h
  refine h.congr fun i j hi hj => ?_
  have e : (ws.map wv3).getD i undef = wv3 (ws.getD i default) := by simp [List.getD_eq_getElem?_getD, List.getElem?_eq_getElem hi]
  rw [e]
  match j, hj with
  | 0, _ => rfl
  | 1, _ => rfl
  | 2, _ => rfl
/-- The pieces' cells, their marks being fs. -/
def pcs (fs : List Value) (ps : List Piece) : List Value := List.zipWith pv2 fs ps
theorem pieces_of {m : Mem} {v : Value} {fs : List Value} {ps : List Piece} (hf : fs.length = ps.length) (h : IsArr m 2 v (pcs fs ps).length (fun i j => ((pcs fs ps).getD i undef).cells.getD j undef)) : IsPieces m v (fun i => fs.getD i undef) ps := by
  have e0 : (pcs fs ps).length = ps.length := by simp [pcs, hf]
  rw [e0] at h
  refine h.congr fun i j hi hj => ?_
  have e : (pcs fs ps).getD i undef = pv2 (fs.getD i undef) (ps.getD i default) := by
    have h1 : i < fs.length := by omega
    simp [pcs, List.getD_eq_getElem?_getD, List.getElem?_zipWith, List.getElem?_eq_getElem hi, List.getElem?_eq_getElem h1]
  rw [e]
  match j, hj with
  | 0, _ => rfl
  | 1, _ => rfl
theorem take_snoc {α : Type} [Inhabited α] {l : List α} {k : Nat} (h : k < l.length) : l.take (k + 1) = l.take k ++ [l.getD k default] := by
  rw [List.take_add_one, List.getElem?_eq_getElem h]
  simp [List.getD_eq_getElem?_getD, List.getElem?_eq_getElem h]
def marksL (t : Table) : List (List Int) := t.pieces.map (·.marks)

/-- Table -/
theorem table_any {h : Mem} {v : Value} {t : Table} (hv : IsTable h v t) (hs : Sm t) : FnR Try.prog 9 #[v] h (fun m r => IsTable m r t) := by
  obtain ⟨wv, pv, f, rfl, hW, hP, hM⟩ := hv
  obtain ⟨hs1, hs2, hs3⟩ := hs
  refine FnR.of_W (n := 64) Try.func9 rfl rfl (Nat.le_of_ble_eq_true rfl) fun c hr hD hF => ?_
  refine W.seq ?_
  refine W.region ?_
  refine WL.box rfl rfl rfl rfl (fun b1 => ?_)
  refine WL.alloc rfl rfl rfl (fun b2 => ?_)
  refine WL.nil ?_
  refine Kseq.go (W.seq ?_)
  skip
  refine W.region ?_
  refine WL.val (OpVal.fieldAddrB rfl) rfl rfl rfl ?_
  refine WL.val (OpVal.loadB rfl (.tail _ (.head _)) rfl) rfl rfl rfl ?_
  refine WL.val (OpVal.build3 rfl rfl) rfl rfl rfl ?_
  refine WL.alloc rfl rfl rfl (fun b3 => ?_)
  refine WL.store [_, _, _] rfl (.head _) rfl rfl rfl (Nat.le_of_ble_eq_true rfl) (by first | (simp [Value.cells, Value.oneCell']; done) | exact IsArr.ones hW (by omega) | exact IsArr.ones hP (by omega) | exact IsArr.ones hS (by omega) | exact IsArr.ones hH (by omega) | exact IsArr.ones hL (by omega) | exact IsArr.ones hB (by omega) | exact IsArr.ones hT (by omega) | exact IsArr.ones hm (by omega)) rfl ?_
  refine WL.nil ?_
  refine Kseq.go (W.seq (W.seq ?_))
  skip
  refine W.region ?_
  refine WL.val (OpVal.opv rfl) rfl rfl rfl ?_
  refine WL.nil ?_
  refine Kseq.go (W.block ?_)
  refine W.nilRow 56 3 ?_
  refine W.loop (σ := Nat × Value) (fun s => [(1, .pointer (some ⟨b1, 0, none⟩)), (2, .pointer (some ⟨b2, 0, none⟩)), (3, .pointer (some ⟨b3, 0, none⟩)), (4, .int .i64 (s.1 : Int))]) (fun _ => [h])
    (fun s => [kr 56 3 s.2 ((t.women.take s.1).map wv3), .blk b3 [s.2, .slice none 0 0, .int .i64 t.wrong].toArray 43, .blk b2 _ 43, .blk b1 (Value.agg #[wv, pv, .int .i64 t.wrong]).cells 25]) (fun s => s.1 ≤ t.women.length) (fun s => t.women.length - s.1) (0, .slice none 0 0) ⟨rfl, rfl, rfl, rfl, trivial⟩ (by simp) (.refl _) (Nat.zero_le _) ?_
  rintro ⟨k, a⟩ hk
  dsimp only at hk ⊢
  refine W.seq (W.seq ?_)
  refine W.region ?_
  refine WL.val (OpVal.opv rfl) rfl rfl rfl ?_
  refine WL.val (OpVal.fieldAddrB rfl) rfl rfl rfl ?_
  refine WL.val (OpVal.loadB rfl (.tail _ (.tail _ (.tail _ (.head _)))) rfl) rfl rfl rfl ?_
  refine WL.val (OpVal.len rfl (by assumption)) rfl rfl rfl ?_
  refine WL.val (OpVal.opv rfl) rfl rfl rfl ?_
  refine WL.nil ?_
  refine Kseq.go ?_
  refine W.condD rfl rfl (fun hlt => ?_) (fun hge => ?_)
  · have hlen : ((t.women.take k).map wv3).length = k := by simp; omega
    refine W.skip (Kseq.go (W.seq (W.block (W.seq ?_))))
    refine W.region ?_
    refine WL.val (OpVal.fieldAddrB rfl) rfl rfl rfl ?_
    refine WL.val (OpVal.loadB rfl (.tail _ (.tail _ (.tail _ (.head _)))) rfl) rfl rfl rfl ?_
    refine WL.val (OpVal.opv rfl) rfl rfl rfl ?_
    refine WL.val (OpVal.indexAddrN rfl rfl (by assumption) (by omega)) rfl rfl rfl ?_
    refine WL.val (OpVal.loadEA rfl (by assumption) (by repeat (first | exact .head _ | refine .tail _ ?_)) (by omega)) rfl rfl rfl ?_
    refine WL.alloc rfl rfl rfl (fun b5 => ?_)
    refine WL.store [_, _, _] rfl (.head _) rfl rfl rfl (Nat.le_of_ble_eq_true rfl) (by first | (simp [Value.cells, Value.oneCell']; done) | exact IsArr.ones hW (by omega) | exact IsArr.ones hP (by omega) | exact IsArr.ones hS (by omega) | exact IsArr.ones hH (by omega) | exact IsArr.ones hL (by omega) | exact IsArr.ones hB (by omega) | exact IsArr.ones hT (by omega) | exact IsArr.ones hm (by omega)) rfl ?_
    refine WL.nil ?_
    refine Kseq.go ?_
    skip
    refine W.region ?_
    refine WL.val (OpVal.fieldAddrB rfl) rfl rfl rfl ?_
    refine WL.val (OpVal.loadB rfl (.tail _ (.tail _ (.head _))) rfl) rfl rfl rfl ?_
    refine WL.val (OpVal.fieldAddrB rfl) rfl rfl rfl ?_
    refine WL.val (OpVal.loadB rfl (.head _) rfl) rfl rfl rfl ?_
    refine WL.val (OpVal.fieldAddrB rfl) rfl rfl rfl ?_
    refine WL.val (OpVal.fieldAddrB rfl) rfl rfl rfl ?_
    refine WL.val (OpVal.loadB rfl (.head _) rfl) rfl rfl rfl ?_
    refine WL.val (OpVal.fieldAddrB rfl) rfl rfl rfl ?_
    refine WL.val (OpVal.fieldAddrB rfl) rfl rfl rfl ?_
    refine WL.val (OpVal.loadB rfl (.head _) rfl) rfl rfl rfl ?_
    refine WL.val (OpVal.build2 rfl rfl) rfl rfl rfl ?_
    refine WL.val (OpVal.build3 rfl rfl) rfl rfl rfl ?_
    refine WL.abs (OpAbs.lit [_, _, _] rfl (Nat.le_of_ble_eq_true rfl) rfl rfl (by simp [Value.cells]) (Nat.le_of_ble_eq_true rfl) rfl (by first | (simp [Value.oneCell']; done) | exact List.all_eq_true.1 rfl)) rfl rfl rfl ?_
    rintro m34 _ ⟨hc34, a34, rfl⟩
    (refine WL.appK (wv3 (t.women.getD k default)) rfl (fun _ => .tail _ (.head _)) rfl (by assumption) (by repeat (first | exact .head _ | refine .tail _ ?_)) rfl rfl (by omega) (by omega) (Nat.le_of_ble_eq_true rfl) rfl rfl rfl ?_; intro a35 cp35)
    refine WL.val (OpVal.fieldAddrB rfl) rfl rfl rfl ?_
    refine WL.store [_, _, _] rfl (.tail _ (.tail _ (.head _))) rfl rfl rfl (Nat.le_of_ble_eq_true rfl) (by first | (simp [Value.cells, Value.oneCell']; done) | exact IsArr.ones hW (by omega) | exact IsArr.ones hP (by omega) | exact IsArr.ones hS (by omega) | exact IsArr.ones hH (by omega) | exact IsArr.ones hL (by omega) | exact IsArr.ones hB (by omega) | exact IsArr.ones hT (by omega) | exact IsArr.ones hm (by omega)) rfl ?_
    refine WL.nil ?_
    refine Kblock.normal (Kseq.go ?_)
    skip
    refine W.region ?_
    refine WL.val (OpVal.opv rfl) rfl rfl rfl ?_
    refine WL.val (OpVal.incr rfl (by omega)) rfl rfl rfl ?_
    refine WL.val (OpVal.opv rfl) rfl rfl rfl ?_
    refine WL.nil ?_
    skip
    refine Kloop.next (k + 1, .slice a35 (((t.women.take k).map wv3).length + 1) cp35) (by omega) (by omega) ⟨rfl, rfl, rfl, rfl, trivial⟩ (by simp) ?_
    dsimp only
    rw [take_snoc (by omega : k < t.women.length), List.map_append]
    exact (by repeat (first | exact List.Sublist.refl _ | refine List.Sublist.cons _ ?_ | refine List.Sublist.cons_cons _ ?_))
  refine W.exit (Kseq.exit (Kloop.exit (Kblock.here (Kseq.go (W.seq (W.seq ?_))))))
  have hkw : k = t.women.length := by omega
  subst hkw
  rw [List.take_length]
  refine W.freezeK (.head _) (fun b hb => (hF b hb).elim) (by omega) (by simp [wv3, Value.cells]) (by simp [wv3, Value.cells, Value.oneCell']) fun m1 hm1 => ?_
  have hm1' := women_of hm1
  clear hm1
  obtain ⟨a1, c1, rfl⟩ := IsArr.form hm1'
  skip
  refine W.region ?_
  refine WL.val (OpVal.opv rfl) rfl rfl rfl ?_
  refine WL.nil ?_
  refine Kseq.go (W.block ?_)
  refine W.nilRow 53 2 ?_
  refine W.loop (σ := Nat × Value × Mem × List Value) (fun s => [(1, .pointer (some ⟨b1, 0, none⟩)), (2, .pointer (some ⟨b2, 0, none⟩)), (3, .pointer (some ⟨b3, 0, none⟩)), (6, .int .i64 (s.1 : Int))]) (fun s => [h, m1, s.2.2.1])
    (fun s => [kr 53 2 s.2.1 (pcs s.2.2.2 (t.pieces.take s.1)), .blk b3 [_, s.2.1, .int .i64 t.wrong].toArray 43, .blk b2 _ 43, .blk b1 (Value.agg #[wv, pv, .int .i64 t.wrong]).cells 25]) (fun s => s.1 ≤ t.pieces.length ∧ AllInts s.2.2.1 s.2.2.2 ((marksL t).take s.1)) (fun s => t.pieces.length - s.1) (0, .slice none 0 0, h, []) ⟨rfl, rfl, rfl, rfl, trivial⟩ (by simp) (.refl _) ⟨Nat.zero_le _, by simpa using AllInts.nil h⟩ ?_
  rintro ⟨i, a, m0, fs⟩ ⟨hi, hall⟩
  dsimp only at hi hall ⊢
  have hml : (marksL t).length = t.pieces.length := by simp [marksL]
  have hfl : fs.length = i := by rw [hall.1]; simp [hml]; omega
  refine W.seq (W.seq ?_)
  refine W.region ?_
  refine WL.val (OpVal.opv rfl) rfl rfl rfl ?_
  refine WL.val (OpVal.fieldAddrB rfl) rfl rfl rfl ?_
  refine WL.val (OpVal.loadB rfl (.tail _ (.tail _ (.tail _ (.head _)))) rfl) rfl rfl rfl ?_
  refine WL.val (OpVal.len rfl (by assumption)) rfl rfl rfl ?_
  refine WL.val (OpVal.opv rfl) rfl rfl rfl ?_
  refine WL.nil ?_
  refine Kseq.go ?_
  refine W.condD rfl rfl (fun hlt => ?_) (fun hge => ?_)
  · have hMi := hM i (by omega)
    have hmi := hs3 i (by omega)
    have hlen : (pcs fs (t.pieces.take i)).length = i := by simp [pcs, hfl]; omega
    have hmk : (marksL t).getD i [] = (t.pieces.getD i default).marks := by simp [marksL, List.getD_eq_getElem?_getD, List.getElem?_eq_getElem (show i < t.pieces.length by omega)]
    let A1 : Mem → Value → Prop := fun m r => ∃ lv, IsInts m lv (t.pieces.getD i default).marks ∧ r = .agg #[lv, vi (t.pieces.getD i default).bundle]
    let A2 : Mem → Value → Prop := fun m r => ∃ lv, IsInts m lv (t.pieces.getD i default).marks ∧ IsCells m 2 r 1 [lv, vi (t.pieces.getD i default).bundle]
    refine W.skip (Kseq.go (W.seq (W.block ?_)))
    refine W.draw 17 (by kernel_rfl) (by kernel_rfl) (by kernel_rfl) rfl ?_
    refine DJ.val [] (OpVal.fieldAddrB rfl) rfl rfl rfl rfl ?_
    refine DJ.val [] (OpVal.loadB rfl (.tail _ (.head _)) rfl) rfl rfl rfl rfl ?_
    refine DJ.val [] (OpVal.fieldAddrB rfl) rfl rfl rfl rfl ?_
    refine DJ.val [] (OpVal.loadB rfl (.tail _ (.tail _ (.tail _ (.head _)))) rfl) rfl rfl rfl rfl ?_
    refine DJ.val [] (OpVal.opv rfl) rfl rfl rfl rfl ?_
    refine DJ.val [] (OpVal.indexAddrN rfl rfl (by assumption) (by omega)) rfl rfl rfl rfl ?_
    refine DJ.val [] (OpVal.fieldAddrN rfl (by assumption) (by omega)) rfl rfl rfl rfl ?_
    refine DJ.val [] (OpVal.loadE rfl (by assumption) (by repeat (first | exact .head _ | refine .tail _ ?_)) (by omega) (by omega)) rfl rfl rfl rfl ?_
    refine DJ.abs (A := fun m r => IsInts m r (t.pieces.getD i default).marks) [] (OpAbs.call rfl (fun m hm => list_any (hMi.le (by repeat (first | exact hm.1 | replace hm := hm.2))) (by omega))) rfl rfl rfl rfl ?_
    refine DJ.val [] (OpVal.fieldAddrB rfl) rfl rfl rfl rfl ?_
    refine DJ.val [] (OpVal.loadB rfl (.tail _ (.tail _ (.tail _ (.head _)))) rfl) rfl rfl rfl rfl ?_
    refine DJ.val [] (OpVal.opv rfl) rfl rfl rfl rfl ?_
    refine DJ.val [] (OpVal.indexAddrN rfl rfl (by assumption) (by omega)) rfl rfl rfl rfl ?_
    refine DJ.val [] (OpVal.fieldAddrN rfl (by assumption) (by omega)) rfl rfl rfl rfl ?_
    refine DJ.val [] (OpVal.loadE rfl (by assumption) (by repeat (first | exact .head _ | refine .tail _ ?_)) (by omega) (by omega)) rfl rfl rfl rfl ?_
    refine DJ.abs (A := A1) [(52, fun m r => IsInts m r (t.pieces.getD i default).marks)] (fun m52 v52 h52 => by obtain ⟨a', c', rfl⟩ := IsArr.form h52; exact OpAbs.ofVal (OpVal.build2 rfl rfl) (.head _) ⟨_, h52, rfl⟩) rfl rfl rfl rfl ?_ (hG := ⟨(by repeat (first | exact .head _ | refine .tail _ ?_)), rfl, trivial⟩)
    refine DJ.abs (A := A2) [(59, A1)] (fun m59 v59 h59 => by obtain ⟨lv, h1, rfl⟩ := h59; obtain ⟨a', c', rfl⟩ := IsArr.form h1; refine OpAbs.mono (OpAbs.join (OpAbs.lit [_, _] rfl (Nat.le_of_ble_eq_true rfl) rfl rfl (by simp [Value.cells]) (Nat.le_of_ble_eq_true rfl) rfl (by simp [Value.oneCell'])) (.head _)) ?_; rintro m' v' ⟨m1, k1, k2, k3, _⟩; exact ⟨_, h1.le k2, k3.le k1⟩) rfl rfl rfl rfl ?_ (hG := ⟨(by repeat (first | exact .head _ | refine .tail _ ?_)), rfl, trivial⟩)
    refine DJ.nil ?_
    rintro m60 v60 h60
    rintro m59 v59 h59
    rintro m52 v52 h52
    (obtain ⟨lv, h1, hc60⟩ := h60; refine WL.appK (pv2 lv (t.pieces.getD i default)) rfl (fun _ => .head _) rfl hc60 (by repeat (first | exact .head _ | refine .tail _ ?_)) rfl rfl (by omega) (by omega) (Nat.le_of_ble_eq_true rfl) rfl rfl rfl ?_; intro a61 cp61)
    refine WL.val (OpVal.fieldAddrB rfl) rfl rfl rfl ?_
    refine WL.store [_, _, _] rfl (.tail _ (.head _)) rfl rfl rfl (Nat.le_of_ble_eq_true rfl) (by first | (simp [Value.cells, Value.oneCell']; done) | exact IsArr.ones hW (by omega) | exact IsArr.ones hP (by omega) | exact IsArr.ones hS (by omega) | exact IsArr.ones hH (by omega) | exact IsArr.ones hL (by omega) | exact IsArr.ones hB (by omega) | exact IsArr.ones hT (by omega) | exact IsArr.ones hm (by omega)) rfl ?_
    refine WL.nil ?_
    refine Kblock.normal (Kseq.go ?_)
    refine W.join fun mj hj => ?_
    skip
    refine W.region ?_
    refine WL.val (OpVal.opv rfl) rfl rfl rfl ?_
    refine WL.val (OpVal.incr rfl (by omega)) rfl rfl rfl ?_
    refine WL.val (OpVal.opv rfl) rfl rfl rfl ?_
    refine WL.nil ?_
    skip
    refine Kloop.next (i + 1, .slice a61 ((pcs fs (t.pieces.take i)).length + 1) cp61, mj, fs ++ [lv]) ⟨by omega, ?_⟩ (by omega) ⟨rfl, rfl, rfl, rfl, trivial⟩ (by simp) ?_
    · dsimp only
      rw [take_snoc (by omega : i < (marksL t).length)]
      exact (hall.le (hj _ (by simp))).push (by rw [show (marksL t).getD i default = _ from hmk]; exact h1.le (hj _ (by simp)))
    · dsimp only
      rw [take_snoc (by omega : i < t.pieces.length)]
      rw [show pcs (fs ++ [lv]) (t.pieces.take i ++ [t.pieces.getD i default]) = pcs fs (t.pieces.take i) ++ [pv2 lv (t.pieces.getD i default)] by
        unfold pcs; rw [List.zipWith_append (by simp [hfl]; omega)]; rfl]
      exact (by repeat (first | exact List.Sublist.refl _ | refine List.Sublist.cons _ ?_ | refine List.Sublist.cons_cons _ ?_))
  · refine W.exit (Kseq.exit (Kloop.exit (Kblock.here (Kseq.go (W.seq ?_)))))
    have hip : i = t.pieces.length := by omega
    subst hip
    rw [List.take_of_length_le (by omega)] at hall
    rw [List.take_length]
    refine W.freezeK (.head _) (fun b hb => (hF b hb).elim) (by omega) ?_ ?_ fun m2 hm2 => ?_
    · intro u hu
      obtain ⟨j, hj, rfl⟩ := List.mem_iff_getElem.1 hu
      simp [pcs, pv2, Value.cells]
    · intro u hu
      obtain ⟨j, hj, rfl⟩ := List.mem_iff_getElem.1 hu
      simp [pcs, pv2, Value.cells, Value.oneCell']
      exact hall.one _ (List.getElem_mem _)
    have hm2' := pieces_of hfl hm2
    clear hm2
    obtain ⟨a2, c2, rfl⟩ := IsArr.form hm2'
    refine W.join fun mj hj => ?_
    skip
    refine W.region ?_
    refine WL.val (OpVal.loadBW rfl (.head _) rfl) rfl rfl rfl ?_
    refine WL.store [_, _, _] rfl (.tail _ (.head _)) rfl rfl rfl (Nat.le_of_ble_eq_true rfl) (by first | (simp [Value.cells, Value.oneCell']; done) | exact IsArr.ones hW (by omega) | exact IsArr.ones hP (by omega) | exact IsArr.ones hS (by omega) | exact IsArr.ones hH (by omega) | exact IsArr.ones hL (by omega) | exact IsArr.ones hB (by omega) | exact IsArr.ones hT (by omega) | exact IsArr.ones hm (by omega)) rfl ?_
    refine WL.nil ?_
    refine Kseq.go ?_
    refine W.ret ?_; skip
    refine ⟨.inl rfl, [_], mj, ⟨.agg inferInstance inferInstance rfl (.tail _ (.head _)) rfl, trivial⟩, .head _, _, _, fun i => fs.getD i undef, rfl, hm1'.le (hj _ (by simp)), hm2'.le (hj _ (by simp)), fun i hi => ?_⟩
    have := hall.2 i (by omega)
    rw [show (marksL t).getD i [] = (t.pieces.getD i default).marks by simp [marksL, List.getD_eq_getElem?_getD, List.getElem?_eq_getElem hi]] at this
    exact this.le (hj _ (by simp))
end Go.Proofs.Ytbmohbeocnfefaa

/- The statements' own functions of chapter 3, on: their contracts. -/
namespace Go.Proofs.Ytbmohbeocnfefaa
open Go Go.Eng Go.RowKit

theorem IsLists.nil (m : Mem) : IsLists m (.slice none 0 0) [] := ⟨[], AllInts.nil m, IsArr.nil m 1 _⟩
/-- between -/
theorem between_any {h : Mem} (low high : Int) : FnV Try.prog 14 #[vi low, vi high] h (.agg #[vi low, vi high]) := by
  refine FnR.val ?_
  refine FnR.of_W (n := 8) Try.func14 rfl rfl (Nat.le_of_ble_eq_true rfl) fun c hr hD hF => ?_
  refine W.seq ?_
  refine W.region ?_
  refine WL.alloc rfl rfl rfl (fun b4 => ?_)
  refine WL.nil ?_
  refine Kseq.go (W.seq ?_)
  skip
  refine W.region ?_
  refine WL.val (OpVal.opv rfl) rfl rfl rfl ?_
  refine WL.val (OpVal.opv rfl) rfl rfl rfl ?_
  refine WL.val (OpVal.build2 rfl rfl) rfl rfl rfl ?_
  refine WL.store [_, _] rfl (.head _) rfl rfl rfl (Nat.le_of_ble_eq_true rfl) (by first | (simp [Value.cells, Value.oneCell']; done) | exact IsArr.ones hW (by omega) | exact IsArr.ones hP (by omega) | exact IsArr.ones hS (by omega) | exact IsArr.ones hH (by omega) | exact IsArr.ones hL (by omega) | exact IsArr.ones hB (by omega) | exact IsArr.ones hT (by omega) | exact IsArr.ones hm (by omega)) rfl ?_
  refine WL.nil ?_
  refine Kseq.go ?_
  refine W.ret ?_; skip
  exact ⟨.inl rfl, [_], h, ⟨.agg inferInstance inferInstance rfl (.head _) rfl, trivial⟩, .head _, rfl⟩

theorem ints_lit {m : Mem} {v : Value} {xs : List Int} {n : Nat} (h : IsCells m 1 v n (xs.map vi)) : IsInts m v xs := by
  have hn : n = xs.length := by have := h.1; simp at this; omega
  subst hn
  exact ints_of_cells h.2

/-- best -/
theorem bestL_any {h : Mem} : FnR Try.prog 18 #[] h (fun m r => IsInts m r [0, 0, 1, 2]) := by
  refine FnR.of_W (n := 2) Try.func18 rfl rfl (Nat.le_of_ble_eq_true rfl) fun c hr hD hF => ?_
  refine W.seq ?_
  refine W.region ?_
  refine WL.val (OpVal.opv rfl) rfl rfl rfl ?_
  refine WL.nil ?_
  refine Kseq.go (W.seq ?_)
  skip
  refine W.region ?_
  refine WL.abs (OpAbs.lit [_, _, _, _] rfl (Nat.le_of_ble_eq_true rfl) rfl rfl (by simp [Value.cells]) (Nat.le_of_ble_eq_true rfl) rfl (by first | (simp [Value.oneCell']; done) | exact List.all_eq_true.1 rfl)) rfl rfl rfl ?_
  rintro m1 _ ⟨hc1, a1, rfl⟩
  refine WL.val (OpVal.opv rfl) rfl rfl rfl ?_
  refine WL.nil ?_
  refine Kseq.go ?_
  refine W.ret ?_; skip; refine ⟨.inl rfl, [_], m1, ⟨.tmp rfl, trivial⟩, (by repeat (first | exact .head _ | refine .tail _ ?_)), ?_⟩
  exact ints_lit (xs := [0, 0, 1, 2]) hc1

/-- three -/
theorem three_any {h : Mem} (first last wrong : Int) : FnR Try.prog 13 #[vi first, vi last, vi wrong] h (fun m r => IsTable m r (threeT first last wrong)) := by
  refine FnR.of_W (n := 29) Try.func13 rfl rfl (Nat.le_of_ble_eq_true rfl) fun c hr hD hF => ?_
  refine W.seq ?_
  refine W.region ?_
  refine WL.alloc rfl rfl rfl (fun b6 => ?_)
  refine WL.nil ?_
  refine Kseq.go (W.seq ?_)
  skip
  refine W.region ?_
  refine WL.val (OpVal.opv rfl) rfl rfl rfl ?_
  refine WL.val (OpVal.opv rfl) rfl rfl rfl ?_
  refine WL.val (OpVal.call rfl (fun m hm => between_any _ _)) rfl rfl rfl ?_
  refine WL.val (OpVal.build3 rfl rfl) rfl rfl rfl ?_
  refine WL.val (OpVal.call rfl (fun m hm => between_any _ _)) rfl rfl rfl ?_
  refine WL.val (OpVal.build3 rfl rfl) rfl rfl rfl ?_
  refine WL.val (OpVal.opv rfl) rfl rfl rfl ?_
  refine WL.val (OpVal.opv rfl) rfl rfl rfl ?_
  refine WL.val (OpVal.call rfl (fun m hm => between_any _ _)) rfl rfl rfl ?_
  refine WL.val (OpVal.build3 rfl rfl) rfl rfl rfl ?_
  refine WL.abs (OpAbs.lit [_, _, _, _, _, _, _, _, _] rfl (Nat.le_of_ble_eq_true rfl) rfl rfl (by simp [Value.cells]) (Nat.le_of_ble_eq_true rfl) rfl (by first | (simp [Value.oneCell']; done) | exact List.all_eq_true.1 rfl)) rfl rfl rfl ?_
  rintro m17 _ ⟨hc17, a17, rfl⟩
  refine WL.abs (OpAbs.lit [_] rfl (Nat.le_of_ble_eq_true rfl) rfl rfl (by simp [Value.cells]) (Nat.le_of_ble_eq_true rfl) rfl (by first | (simp [Value.oneCell']; done) | exact List.all_eq_true.1 rfl)) rfl rfl rfl ?_
  rintro m18 _ ⟨hc18, a18, rfl⟩
  refine WL.val (OpVal.build2 rfl rfl) rfl rfl rfl ?_
  refine WL.abs (OpAbs.lit [_, _] rfl (Nat.le_of_ble_eq_true rfl) rfl rfl (by simp [Value.cells]) (Nat.le_of_ble_eq_true rfl) rfl (by first | (simp [Value.oneCell']; done) | exact List.all_eq_true.1 rfl)) rfl rfl rfl ?_
  rintro m20 _ ⟨hc20, a20, rfl⟩
  refine WL.val (OpVal.build2 rfl rfl) rfl rfl rfl ?_
  refine WL.abs (OpAbs.lit [_] rfl (Nat.le_of_ble_eq_true rfl) rfl rfl (by simp [Value.cells]) (Nat.le_of_ble_eq_true rfl) rfl (by first | (simp [Value.oneCell']; done) | exact List.all_eq_true.1 rfl)) rfl rfl rfl ?_
  rintro m22 _ ⟨hc22, a22, rfl⟩
  refine WL.val (OpVal.build2 rfl rfl) rfl rfl rfl ?_
  refine WL.abs (OpAbs.lit [_] rfl (Nat.le_of_ble_eq_true rfl) rfl rfl (by simp [Value.cells]) (Nat.le_of_ble_eq_true rfl) rfl (by first | (simp [Value.oneCell']; done) | exact List.all_eq_true.1 rfl)) rfl rfl rfl ?_
  rintro m24 _ ⟨hc24, a24, rfl⟩
  refine WL.val (OpVal.build2 rfl rfl) rfl rfl rfl ?_
  refine WL.abs (OpAbs.lit [_, _, _, _, _, _, _, _] rfl (Nat.le_of_ble_eq_true rfl) rfl rfl (by simp [Value.cells]) (Nat.le_of_ble_eq_true rfl) rfl (by first | (simp [Value.oneCell']; done) | exact List.all_eq_true.1 rfl)) rfl rfl rfl ?_
  rintro m26 _ ⟨hc26, a26, rfl⟩
  refine WL.val (OpVal.opv rfl) rfl rfl rfl ?_
  refine WL.val (OpVal.build3 rfl rfl) rfl rfl rfl ?_
  refine WL.store [_, _, _] rfl (.head _) rfl rfl rfl (Nat.le_of_ble_eq_true rfl) (by first | (simp [Value.cells, Value.oneCell']; done) | exact IsArr.ones hW (by omega) | exact IsArr.ones hP (by omega) | exact IsArr.ones hS (by omega) | exact IsArr.ones hH (by omega) | exact IsArr.ones hL (by omega) | exact IsArr.ones hB (by omega) | exact IsArr.ones hT (by omega) | exact IsArr.ones hm (by omega)) rfl ?_
  refine WL.nil ?_
  refine Kseq.go ?_
  refine W.join fun mj hj => ?_
  refine W.ret ?_; skip
  refine ⟨.inl rfl, [_], mj, ⟨.agg inferInstance inferInstance rfl (.head _) rfl, trivial⟩, .head _, ?_⟩
  refine ⟨_, _, fun i => [.slice (some ⟨a18, 0, none⟩) 1 1, .slice (some ⟨a20, 0, none⟩) 2 2, .slice (some ⟨a22, 0, none⟩) 1 1, .slice (some ⟨a24, 0, none⟩) 1 1].getD i undef, rfl, ?_, ?_, ?_⟩
  · refine ((hc17.2).congr fun i j hi hj => ?_).le (hj _ (by simp))
    have h1 : i = 0 ∨ i = 1 ∨ i = 2 := by omega
    have h2 : j = 0 ∨ j = 1 ∨ j = 2 := by omega
    rcases h1 with rfl | rfl | rfl <;> rcases h2 with rfl | rfl | rfl <;> rfl
  · refine ((hc26.2).congr fun i j hi hj => ?_).le (hj _ (by simp))
    have h1 : i = 0 ∨ i = 1 ∨ i = 2 ∨ i = 3 := by omega
    have h2 : j = 0 ∨ j = 1 := by omega
    rcases h1 with rfl | rfl | rfl | rfl <;> rcases h2 with rfl | rfl <;> rfl
  · intro i hi
    have h1 : i = 0 ∨ i = 1 ∨ i = 2 ∨ i = 3 := by simp [threeT] at hi; omega
    rcases h1 with rfl | rfl | rfl | rfl
    · exact (ints_lit (xs := [1]) hc18).le (hj _ (by simp))
    · exact (ints_lit (xs := [1, 2]) hc20).le (hj _ (by simp))
    · exact (ints_lit (xs := [1]) hc22).le (hj _ (by simp))
    · exact (ints_lit (xs := [2]) hc24).le (hj _ (by simp))
end Go.Proofs.Ytbmohbeocnfefaa

/- The program's functions of chapter 3: their contracts. -/
namespace Go.Proofs.Ytbmohbeocnfefaa
open Go Go.Eng Go.RowKit

/-- within -/
theorem within_any {h : Mem} (n low high : Int) : FnV Try.prog 42 #[.int .i64 n, .int .i64 low, .int .i64 high] h (.bool (decide (low ≤ n ∧ n ≤ high))) := by
  refine FnR.val ?_
  refine FnR.of_W (n := 15) Try.func42 rfl rfl (Nat.le_of_ble_eq_true rfl) fun c hr hD hF => ?_
  refine W.seq ?_
  refine W.region ?_
  refine WL.val (OpVal.opv rfl) rfl rfl rfl ?_
  refine WL.nil ?_
  refine Kseq.go (W.seq ?_)
  skip
  skip
  refine W.region ?_
  refine WL.val (OpVal.opv rfl) rfl rfl rfl ?_
  refine WL.val (OpVal.opv rfl) rfl rfl rfl ?_
  refine WL.val (OpVal.opv rfl) rfl rfl rfl ?_
  refine WL.val (OpVal.opv rfl) rfl rfl rfl ?_
  refine WL.split rfl rfl (fun g10 => ?_) (fun g10 => ?_)
  · refine WL.val (OpVal.opv rfl) rfl rfl rfl ?_
    refine WL.val (OpVal.opv rfl) rfl rfl rfl ?_
    refine WL.val (OpVal.opv rfl) rfl rfl rfl ?_
    refine WL.val (OpVal.opv rfl) rfl rfl rfl ?_
    refine WL.val (OpVal.opv rfl) rfl rfl rfl ?_
    refine WL.nil ?_
    refine Kseq.go ?_
    (refine W.ret ?_; skip; refine ⟨.inl rfl, [_], h, ⟨.tmp rfl, trivial⟩, (by repeat (first | exact .head _ | refine .tail _ ?_)), ?_⟩; exact congrArg Value.bool (by first | (simp [-List.getD_eq_getElem?_getD]; done) | (simp_all [-List.getD_eq_getElem?_getD]; done) | (simp [-List.getD_eq_getElem?_getD]; omega) | (rw [Bool.eq_iff_iff]; simp [-List.getD_eq_getElem?_getD]; omega) | (simp [-List.getD_eq_getElem?_getD] at *; omega)))
  · refine WL.pass rfl rfl rfl ?_
    refine WL.pass rfl rfl rfl ?_
    refine WL.pass rfl rfl rfl ?_
    refine WL.val (OpVal.opv rfl) rfl rfl rfl ?_
    refine WL.val (OpVal.opv rfl) rfl rfl rfl ?_
    refine WL.nil ?_
    refine Kseq.go ?_
    (refine W.ret ?_; skip; refine ⟨.inl rfl, [_], h, ⟨.tmp rfl, trivial⟩, (by repeat (first | exact .head _ | refine .tail _ ?_)), ?_⟩; exact congrArg Value.bool (by first | (simp [-List.getD_eq_getElem?_getD]; done) | (simp_all [-List.getD_eq_getElem?_getD]; done) | (simp [-List.getD_eq_getElem?_getD]; omega) | (rw [Bool.eq_iff_iff]; simp [-List.getD_eq_getElem?_getD]; omega) | (simp [-List.getD_eq_getElem?_getD] at *; omega)))

/-- mark -/
theorem mark_any {h : Mem} (n : Int) : FnV Try.prog 57 #[.int .i64 n] h (.bool (decide (0 ≤ n ∧ n ≤ 9))) := by
  refine FnR.val ?_
  refine FnR.of_W (n := 5) Try.func57 rfl rfl (Nat.le_of_ble_eq_true rfl) fun c hr hD hF => ?_
  refine W.seq ?_
  refine W.region ?_
  refine WL.val (OpVal.opv rfl) rfl rfl rfl ?_
  refine WL.nil ?_
  refine Kseq.go (W.seq ?_)
  skip
  refine W.region ?_
  refine WL.val (OpVal.opv rfl) rfl rfl rfl ?_
  refine WL.val (OpVal.call rfl (fun m hm => within_any _ _ _)) rfl rfl rfl ?_
  refine WL.val (OpVal.opv rfl) rfl rfl rfl ?_
  refine WL.nil ?_
  refine Kseq.go ?_
  refine W.ret ?_; skip; refine ⟨.inl rfl, [_], h, ⟨.tmp rfl, trivial⟩, (by repeat (first | exact .head _ | refine .tail _ ?_)), ?_⟩
  rfl

/-- slices.Index -/
theorem index_any {h : Mem} {v : Value} {xs : List Int} (x : Int) (hv : IsInts h v xs) : FnR Try.prog 67 #[v, .int .i64 x] h (fun _ r => ∃ i : Int, r = .int .i64 i ∧ (0 ≤ i ↔ x ∈ xs)) := by
  have hlen := hv.bd
  refine FnR.of_W (n := 19) Try.func67 rfl rfl (Nat.le_of_ble_eq_true rfl) fun c hr hD hF => ?_
  refine W.seq ?_
  refine W.region ?_
  refine WL.val (OpVal.opv rfl) rfl rfl rfl ?_
  refine WL.nil ?_
  refine Kseq.go (W.seq (W.seq ?_))
  skip
  refine W.region ?_
  refine WL.val (OpVal.opv rfl) rfl rfl rfl ?_
  refine WL.val (OpVal.len rfl (by assumption)) rfl rfl rfl ?_
  refine WL.val (OpVal.opv rfl) rfl rfl rfl ?_
  refine WL.nil ?_
  refine Kseq.go (W.block ?_)
  refine W.loopC (σ := Nat) (fun k => [(0, v), (1, .int .i64 x), (7, .int .i64 (xs.length : Int)), (8, .int .i64 (k : Int))]) (fun k => k ≤ xs.length ∧ ∀ j, j < k → xs.getD j 0 ≠ x) (fun k => xs.length - k) 0 ⟨rfl, rfl, rfl, rfl, trivial⟩ ⟨Nat.zero_le _, fun j hj => absurd hj (Nat.not_lt_zero _)⟩ ?_
  rintro k ⟨hk, hall⟩
  refine W.seq ?_
  refine W.region ?_
  refine WL.val (OpVal.opv rfl) rfl rfl rfl ?_
  refine WL.nil ?_
  refine Kseq.go (W.seq ?_)
  refine W.condD rfl rfl (fun hlt => ?_) (fun hge => ?_)
  · refine W.skip (Kseq.go (W.seq (W.block (W.seq ?_))))
    refine W.region ?_
    refine WL.val (OpVal.opv rfl) rfl rfl rfl ?_
    refine WL.val (OpVal.opv rfl) rfl rfl rfl ?_
    refine WL.nil ?_
    refine Kseq.go (W.seq ?_)
    skip
    refine W.region ?_
    refine WL.val (OpVal.opv rfl) rfl rfl rfl ?_
    refine WL.val (OpVal.opv rfl) rfl rfl rfl ?_
    refine WL.val (OpVal.opv rfl) rfl rfl rfl ?_
    refine WL.val (OpVal.indexAddrN rfl rfl (by assumption) (by omega)) rfl rfl rfl ?_
    refine WL.val (OpVal.loadE rfl (by assumption) (by repeat (first | exact .head _ | refine .tail _ ?_)) (by omega) (by omega)) rfl rfl rfl ?_
    refine WL.val (OpVal.opv rfl) rfl rfl rfl ?_
    refine WL.nil ?_
    refine Kseq.go ?_
    refine W.condD rfl rfl (fun he => ?_) (fun hne => ?_)
    · refine W.seq ?_
      refine W.region ?_
      refine WL.val (OpVal.opv rfl) rfl rfl rfl ?_
      refine WL.val (OpVal.opv rfl) rfl rfl rfl ?_
      refine WL.nil ?_
      refine Kseq.go ?_
      refine W.ret ?_; refine Kblock.ret (Kseq.ret (Kloop.ret (Kblock.ret (Kseq.ret ?_)))); refine ⟨.inl rfl, [_], h, ⟨.tmp rfl, trivial⟩, (by repeat (first | exact .head _ | refine .tail _ ?_)), ?_⟩
      exact ⟨_, rfl, ⟨fun _ => he ▸ mem_getD (by omega), fun _ => by omega⟩⟩
    · refine W.skip (Kblock.normal (Kseq.go ?_))
      refine W.region ?_
      refine WL.val (OpVal.incr rfl (by omega)) rfl rfl rfl ?_
      refine WL.val (OpVal.opv rfl) rfl rfl rfl ?_
      refine WL.nil ?_
      skip
      refine Kloop.nextC (k + 1) ⟨by omega, fun j hj => ?_⟩ (by omega) ⟨rfl, rfl, rfl, rfl, trivial⟩ (by simp) (.refl _)
      rcases Nat.lt_succ_iff_lt_or_eq.1 hj with h | rfl
      · exact hall j h
      · exact fun e => hne e.symm
  · refine W.exit (Kseq.exit (Kloop.exit (Kblock.here (Kseq.go (W.seq ?_)))))
    refine W.region ?_
    refine WL.val (OpVal.opv rfl) rfl rfl rfl ?_
    refine WL.nil ?_
    refine Kseq.go ?_
    refine W.ret ?_; skip; refine ⟨.inl rfl, [_], h, ⟨.tmp rfl, trivial⟩, (by repeat (first | exact .head _ | refine .tail _ ?_)), ?_⟩
    refine ⟨_, rfl, ⟨fun h => by omega, fun hm => ?_⟩⟩
    obtain ⟨j, hj, he⟩ := getD_of_mem hm
    exact absurd he (hall j (by omega))

/-- slices.Contains -/
theorem contains_any {h : Mem} {v : Value} {xs : List Int} (x : Int) (hv : IsInts h v xs) : FnV Try.prog 55 #[v, .int .i64 x] h (.bool (decide (x ∈ xs))) := by
  refine FnR.val ?_
  refine FnR.of_W (n := 9) Try.func55 rfl rfl (Nat.le_of_ble_eq_true rfl) fun c hr hD hF => ?_
  refine W.seq ?_
  refine W.region ?_
  refine WL.val (OpVal.opv rfl) rfl rfl rfl ?_
  refine WL.nil ?_
  refine Kseq.go (W.seq ?_)
  skip
  refine W.region ?_
  refine WL.val (OpVal.opv rfl) rfl rfl rfl ?_
  refine WL.val (OpVal.opv rfl) rfl rfl rfl ?_
  refine WL.abs (OpAbs.call rfl (fun m hm => index_any _ (hv.le (by repeat (first | exact hm.1 | replace hm := hm.2))))) rfl rfl rfl ?_
  rintro m7 _ ⟨i, rfl, hi⟩
  refine WL.val (OpVal.opv rfl) rfl rfl rfl ?_
  refine WL.val (OpVal.opv rfl) rfl rfl rfl ?_
  refine WL.nil ?_
  refine Kseq.go ?_
  refine W.ret ?_; skip; refine ⟨.inl rfl, [_], h, ⟨.tmp rfl, trivial⟩, (by repeat (first | exact .head _ | refine .tail _ ?_)), ?_⟩
  exact congrArg Value.bool (decide_eq_decide.2 hi)

/-- slices.IndexFunc of posser/bundle.Woman -/
theorem indexFuncW_any {h : Mem} {v : Value} {N : Nat} {f : Nat → Nat → Value} {g : FuncId} [TC Try.prog g] {fs cs : Array Value} {p : Nat → Bool} (hv : IsArr h 3 v N f)
    (hp : ∀ i, i < N → ∀ m, MLe h m → FnV Try.prog g (fs ++ #[.agg ((List.range 3).map (f i)).toArray] ++ cs) m (.bool (p i))) : FnR Try.prog 68 #[v, .func (.func g) fs cs] h (fun _ r => ∃ i : Int, r = .int .i64 i ∧ (0 ≤ i ↔ ex N p = true)) := by
  have hlen := hv.len
  unfold maxLen at hlen
  refine FnR.of_W (n := 19) Try.func68 rfl rfl (Nat.le_of_ble_eq_true rfl) fun c hr hD hF => ?_
  refine W.seq ?_
  refine W.region ?_
  refine WL.val (OpVal.opv rfl) rfl rfl rfl ?_
  refine WL.nil ?_
  refine Kseq.go (W.seq (W.seq ?_))
  skip
  refine W.region ?_
  refine WL.val (OpVal.opv rfl) rfl rfl rfl ?_
  refine WL.val (OpVal.len rfl (by assumption)) rfl rfl rfl ?_
  refine WL.val (OpVal.opv rfl) rfl rfl rfl ?_
  refine WL.nil ?_
  refine Kseq.go (W.block ?_)
  refine W.loopC (σ := Nat) (fun k => [(0, v), (1, .func (.func g) fs cs), (7, .int .i64 (N : Int)), (8, .int .i64 (k : Int))]) (fun k => k ≤ N ∧ ∀ j, j < k → p j = false) (fun k => N - k) 0 ⟨rfl, rfl, rfl, rfl, trivial⟩ ⟨Nat.zero_le _, fun j hj => absurd hj (Nat.not_lt_zero _)⟩ ?_
  rintro k ⟨hk, hall⟩
  refine W.seq ?_
  refine W.region ?_
  refine WL.val (OpVal.opv rfl) rfl rfl rfl ?_
  refine WL.nil ?_
  refine Kseq.go (W.seq ?_)
  refine W.condD rfl rfl (fun hlt => ?_) (fun hge => ?_)
  · refine W.skip (Kseq.go (W.seq (W.block (W.seq ?_))))
    refine W.region ?_
    refine WL.val (OpVal.opv rfl) rfl rfl rfl ?_
    refine WL.val (OpVal.opv rfl) rfl rfl rfl ?_
    refine WL.nil ?_
    refine Kseq.go (W.seq ?_)
    skip
    refine W.region ?_
    refine WL.val (OpVal.opv rfl) rfl rfl rfl ?_
    refine WL.val (OpVal.opv rfl) rfl rfl rfl ?_
    refine WL.val (OpVal.opv rfl) rfl rfl rfl ?_
    refine WL.val (OpVal.indexAddrN rfl rfl (by assumption) (by omega)) rfl rfl rfl ?_
    refine WL.val (OpVal.loadEA rfl (by assumption) (by repeat (first | exact .head _ | refine .tail _ ?_)) (by omega)) rfl rfl rfl ?_
    refine WL.val (OpVal.callC rfl rfl (fun m hm => hp k (by omega) m (by repeat (first | exact hm.1 | replace hm := hm.2)))) rfl rfl rfl ?_
    refine WL.nil ?_
    refine Kseq.go ?_
    refine W.cond rfl rfl (fun he => ?_) (fun hne => ?_)
    · refine W.seq ?_
      refine W.region ?_
      refine WL.val (OpVal.opv rfl) rfl rfl rfl ?_
      refine WL.val (OpVal.opv rfl) rfl rfl rfl ?_
      refine WL.nil ?_
      refine Kseq.go ?_
      refine W.ret ?_; refine Kblock.ret (Kseq.ret (Kloop.ret (Kblock.ret (Kseq.ret ?_)))); refine ⟨.inl rfl, [_], h, ⟨.tmp rfl, trivial⟩, (by repeat (first | exact .head _ | refine .tail _ ?_)), ?_⟩
      exact ⟨_, rfl, ⟨fun _ => ex_iff.2 ⟨k, by omega, he⟩, fun _ => by omega⟩⟩
    · refine W.skip (Kblock.normal (Kseq.go ?_))
      refine W.region ?_
      refine WL.val (OpVal.incr rfl (by omega)) rfl rfl rfl ?_
      refine WL.val (OpVal.opv rfl) rfl rfl rfl ?_
      refine WL.nil ?_
      skip
      refine Kloop.nextC (k + 1) ⟨by omega, fun j hj => ?_⟩ (by omega) ⟨rfl, rfl, rfl, rfl, trivial⟩ (by simp) (.refl _)
      rcases Nat.lt_succ_iff_lt_or_eq.1 hj with h | rfl
      · exact hall j h
      · exact hne
  · refine W.exit (Kseq.exit (Kloop.exit (Kblock.here (Kseq.go (W.seq ?_)))))
    refine W.region ?_
    refine WL.val (OpVal.opv rfl) rfl rfl rfl ?_
    refine WL.nil ?_
    refine Kseq.go ?_
    refine W.ret ?_; skip; refine ⟨.inl rfl, [_], h, ⟨.tmp rfl, trivial⟩, (by repeat (first | exact .head _ | refine .tail _ ?_)), ?_⟩
    refine ⟨_, rfl, ⟨fun h => by omega, fun hm => ?_⟩⟩
    obtain ⟨j, hj, he⟩ := ex_iff.1 hm
    rw [hall j (by omega)] at he; cases he
/-- slices.ContainsFunc of posser/bundle.Woman -/
theorem containsFuncW_any {h : Mem} {v : Value} {N : Nat} {f : Nat → Nat → Value} {g : FuncId} [TC Try.prog g] {fs cs : Array Value} {p : Nat → Bool} (hv : IsArr h 3 v N f)
    (hp : ∀ i, i < N → ∀ m, MLe h m → FnV Try.prog g (fs ++ #[.agg ((List.range 3).map (f i)).toArray] ++ cs) m (.bool (p i))) : FnV Try.prog 58 #[v, .func (.func g) fs cs] h (.bool (ex N p)) := by
  refine FnR.val ?_
  refine FnR.of_W (n := 9) Try.func58 rfl rfl (Nat.le_of_ble_eq_true rfl) fun c hr hD hF => ?_
  refine W.seq ?_
  refine W.region ?_
  refine WL.val (OpVal.opv rfl) rfl rfl rfl ?_
  refine WL.nil ?_
  refine Kseq.go (W.seq ?_)
  skip
  refine W.region ?_
  refine WL.val (OpVal.opv rfl) rfl rfl rfl ?_
  refine WL.val (OpVal.opv rfl) rfl rfl rfl ?_
  refine WL.abs (OpAbs.call rfl (fun m hm => indexFuncW_any (hv.le (by repeat (first | exact hm.1 | replace hm := hm.2))) (fun i hi m' hm' => hp i hi m' (MLe.trans (by repeat (first | exact hm.1 | replace hm := hm.2)) hm')))) rfl rfl rfl ?_
  rintro m7 _ ⟨i, rfl, hi⟩
  refine WL.val (OpVal.opv rfl) rfl rfl rfl ?_
  refine WL.val (OpVal.opv rfl) rfl rfl rfl ?_
  refine WL.nil ?_
  refine Kseq.go ?_
  refine W.ret ?_; skip; refine ⟨.inl rfl, [_], h, ⟨.tmp rfl, trivial⟩, (by repeat (first | exact .head _ | refine .tail _ ?_)), ?_⟩
  exact congrArg Value.bool (by rw [Bool.eq_iff_iff, ← hi]; simp)

/-- all of posser/bundle.Woman, its inner function -/
theorem allInW_any {h : Mem} {b : Nat} {g : FuncId} [TC Try.prog g] {fs cs : Array Value} {x : Value} {r : Bool} (hb : IsBox h b #[.func (.func g) fs cs] 100) (hx : ∃ x0 x1 x2 : Value, x = .agg #[x0, x1, x2])
    (hp : ∀ m, MLe h m → FnV Try.prog g (fs ++ #[x] ++ cs) m (.bool r)) : FnV Try.prog 59 #[x, .pointer (some ⟨b, 0, none⟩)] h (.bool (!r)) := by
  refine FnR.val ?_
  obtain ⟨x0, x1, x2, rfl⟩ := hx
  refine FnR.of_W (n := 8) Try.func59 rfl rfl (Nat.le_of_ble_eq_true rfl) fun c hr hD hF => ?_
  refine W.seq ?_
  refine W.region ?_
  refine WL.box rfl rfl rfl rfl (fun b2 => ?_)
  refine WL.val (OpVal.opv rfl) rfl rfl rfl ?_
  refine WL.nil ?_
  refine Kseq.go (W.seq ?_)
  skip
  refine W.region ?_
  refine WL.val (OpVal.loadP rfl (by assumption) (by repeat (first | exact .head _ | refine .tail _ ?_)) rfl) rfl rfl rfl ?_
  refine WL.val (OpVal.loadBW rfl (.head _) rfl) rfl rfl rfl ?_
  refine WL.val (OpVal.callC rfl rfl (fun m hm => hp m (by repeat (first | exact hm.1 | replace hm := hm.2)))) rfl rfl rfl ?_
  refine WL.val (OpVal.opv rfl) rfl rfl rfl ?_
  refine WL.val (OpVal.opv rfl) rfl rfl rfl ?_
  refine WL.nil ?_
  refine Kseq.go ?_
  refine W.ret ?_; skip; refine ⟨.inl rfl, [_], h, ⟨.tmp rfl, trivial⟩, (by repeat (first | exact .head _ | refine .tail _ ?_)), ?_⟩
  rfl
/-- all of posser/bundle.Woman -/
theorem allW_any {h : Mem} {v : Value} {N : Nat} {f : Nat → Nat → Value} {g : FuncId} [TC Try.prog g] {fs cs : Array Value} {p : Nat → Bool} (hv : IsArr h 3 v N f)
    (hp : ∀ i, i < N → ∀ m, MLe h m → FnV Try.prog g (fs ++ #[.agg ((List.range 3).map (f i)).toArray] ++ cs) m (.bool (p i))) : FnV Try.prog 43 #[v, .func (.func g) fs cs] h (.bool (!ex N fun i => !p i)) := by
  refine FnR.val ?_
  refine FnR.of_W (n := 9) Try.func43 rfl rfl (Nat.le_of_ble_eq_true rfl) fun c hr hD hF => ?_
  refine W.seq ?_
  refine W.region ?_
  refine WL.box rfl rfl rfl rfl (fun b3 => ?_)
  refine WL.val (OpVal.opv rfl) rfl rfl rfl ?_
  refine WL.nil ?_
  refine Kseq.go (W.seq ?_)
  refine W.freezeBox (.head _) (fun b hb => (hF b hb).elim) fun mb hmb => ?_
  skip
  refine W.region ?_
  refine WL.val (OpVal.opv rfl) rfl rfl rfl ?_
  refine WL.val (OpVal.opv rfl) rfl rfl rfl ?_
  refine WL.val (OpVal.call rfl (fun m hm => containsFuncW_any (p := fun i => !p i) (hv.le (by repeat (first | exact hm.1 | replace hm := hm.2))) (fun i hi m' hm' => allInW_any (hmb.le (MLe.trans (by repeat (first | exact hm.1 | replace hm := hm.2)) hm')) ⟨_, _, _, rfl⟩ (fun m2 hm2 => hp i hi m2 (MLe.trans (MLe.trans (by repeat (first | exact hm.1 | replace hm := hm.2)) hm') hm2))))) rfl rfl rfl ?_
  refine WL.val (OpVal.opv rfl) rfl rfl rfl ?_
  refine WL.val (OpVal.opv rfl) rfl rfl rfl ?_
  refine WL.nil ?_
  refine Kseq.go ?_
  refine W.ret ?_; skip; refine ⟨.inl rfl, [_], h, ⟨.tmp rfl, trivial⟩, (by repeat (first | exact .head _ | refine .tail _ ?_)), ?_⟩
  rfl

/-- slices.IndexFunc of posser/bundle.Piece -/
theorem indexFuncP_any {h : Mem} {v : Value} {N : Nat} {f : Nat → Nat → Value} {g : FuncId} [TC Try.prog g] {fs cs : Array Value} {p : Nat → Bool} (hv : IsArr h 2 v N f)
    (hp : ∀ i, i < N → ∀ m, MLe h m → FnV Try.prog g (fs ++ #[.agg ((List.range 2).map (f i)).toArray] ++ cs) m (.bool (p i))) : FnR Try.prog 69 #[v, .func (.func g) fs cs] h (fun _ r => ∃ i : Int, r = .int .i64 i ∧ (0 ≤ i ↔ ex N p = true)) := by
  have hlen := hv.len
  unfold maxLen at hlen
  refine FnR.of_W (n := 19) Try.func69 rfl rfl (Nat.le_of_ble_eq_true rfl) fun c hr hD hF => ?_
  refine W.seq ?_
  refine W.region ?_
  refine WL.val (OpVal.opv rfl) rfl rfl rfl ?_
  refine WL.nil ?_
  refine Kseq.go (W.seq (W.seq ?_))
  skip
  refine W.region ?_
  refine WL.val (OpVal.opv rfl) rfl rfl rfl ?_
  refine WL.val (OpVal.len rfl (by assumption)) rfl rfl rfl ?_
  refine WL.val (OpVal.opv rfl) rfl rfl rfl ?_
  refine WL.nil ?_
  refine Kseq.go (W.block ?_)
  refine W.loopC (σ := Nat) (fun k => [(0, v), (1, .func (.func g) fs cs), (7, .int .i64 (N : Int)), (8, .int .i64 (k : Int))]) (fun k => k ≤ N ∧ ∀ j, j < k → p j = false) (fun k => N - k) 0 ⟨rfl, rfl, rfl, rfl, trivial⟩ ⟨Nat.zero_le _, fun j hj => absurd hj (Nat.not_lt_zero _)⟩ ?_
  rintro k ⟨hk, hall⟩
  refine W.seq ?_
  refine W.region ?_
  refine WL.val (OpVal.opv rfl) rfl rfl rfl ?_
  refine WL.nil ?_
  refine Kseq.go (W.seq ?_)
  refine W.condD rfl rfl (fun hlt => ?_) (fun hge => ?_)
  · refine W.skip (Kseq.go (W.seq (W.block (W.seq ?_))))
    refine W.region ?_
    refine WL.val (OpVal.opv rfl) rfl rfl rfl ?_
    refine WL.val (OpVal.opv rfl) rfl rfl rfl ?_
    refine WL.nil ?_
    refine Kseq.go (W.seq ?_)
    skip
    refine W.region ?_
    refine WL.val (OpVal.opv rfl) rfl rfl rfl ?_
    refine WL.val (OpVal.opv rfl) rfl rfl rfl ?_
    refine WL.val (OpVal.opv rfl) rfl rfl rfl ?_
    refine WL.val (OpVal.indexAddrN rfl rfl (by assumption) (by omega)) rfl rfl rfl ?_
    refine WL.val (OpVal.loadEA rfl (by assumption) (by repeat (first | exact .head _ | refine .tail _ ?_)) (by omega)) rfl rfl rfl ?_
    refine WL.val (OpVal.callC rfl rfl (fun m hm => hp k (by omega) m (by repeat (first | exact hm.1 | replace hm := hm.2)))) rfl rfl rfl ?_
    refine WL.nil ?_
    refine Kseq.go ?_
    refine W.cond rfl rfl (fun he => ?_) (fun hne => ?_)
    · refine W.seq ?_
      refine W.region ?_
      refine WL.val (OpVal.opv rfl) rfl rfl rfl ?_
      refine WL.val (OpVal.opv rfl) rfl rfl rfl ?_
      refine WL.nil ?_
      refine Kseq.go ?_
      refine W.ret ?_; refine Kblock.ret (Kseq.ret (Kloop.ret (Kblock.ret (Kseq.ret ?_)))); refine ⟨.inl rfl, [_], h, ⟨.tmp rfl, trivial⟩, (by repeat (first | exact .head _ | refine .tail _ ?_)), ?_⟩
      exact ⟨_, rfl, ⟨fun _ => ex_iff.2 ⟨k, by omega, he⟩, fun _ => by omega⟩⟩
    · refine W.skip (Kblock.normal (Kseq.go ?_))
      refine W.region ?_
      refine WL.val (OpVal.incr rfl (by omega)) rfl rfl rfl ?_
      refine WL.val (OpVal.opv rfl) rfl rfl rfl ?_
      refine WL.nil ?_
      skip
      refine Kloop.nextC (k + 1) ⟨by omega, fun j hj => ?_⟩ (by omega) ⟨rfl, rfl, rfl, rfl, trivial⟩ (by simp) (.refl _)
      rcases Nat.lt_succ_iff_lt_or_eq.1 hj with h | rfl
      · exact hall j h
      · exact hne
  · refine W.exit (Kseq.exit (Kloop.exit (Kblock.here (Kseq.go (W.seq ?_)))))
    refine W.region ?_
    refine WL.val (OpVal.opv rfl) rfl rfl rfl ?_
    refine WL.nil ?_
    refine Kseq.go ?_
    refine W.ret ?_; skip; refine ⟨.inl rfl, [_], h, ⟨.tmp rfl, trivial⟩, (by repeat (first | exact .head _ | refine .tail _ ?_)), ?_⟩
    refine ⟨_, rfl, ⟨fun h => by omega, fun hm => ?_⟩⟩
    obtain ⟨j, hj, he⟩ := ex_iff.1 hm
    rw [hall j (by omega)] at he; cases he
/-- slices.ContainsFunc of posser/bundle.Piece -/
theorem containsFuncP_any {h : Mem} {v : Value} {N : Nat} {f : Nat → Nat → Value} {g : FuncId} [TC Try.prog g] {fs cs : Array Value} {p : Nat → Bool} (hv : IsArr h 2 v N f)
    (hp : ∀ i, i < N → ∀ m, MLe h m → FnV Try.prog g (fs ++ #[.agg ((List.range 2).map (f i)).toArray] ++ cs) m (.bool (p i))) : FnV Try.prog 60 #[v, .func (.func g) fs cs] h (.bool (ex N p)) := by
  refine FnR.val ?_
  refine FnR.of_W (n := 9) Try.func60 rfl rfl (Nat.le_of_ble_eq_true rfl) fun c hr hD hF => ?_
  refine W.seq ?_
  refine W.region ?_
  refine WL.val (OpVal.opv rfl) rfl rfl rfl ?_
  refine WL.nil ?_
  refine Kseq.go (W.seq ?_)
  skip
  refine W.region ?_
  refine WL.val (OpVal.opv rfl) rfl rfl rfl ?_
  refine WL.val (OpVal.opv rfl) rfl rfl rfl ?_
  refine WL.abs (OpAbs.call rfl (fun m hm => indexFuncP_any (hv.le (by repeat (first | exact hm.1 | replace hm := hm.2))) (fun i hi m' hm' => hp i hi m' (MLe.trans (by repeat (first | exact hm.1 | replace hm := hm.2)) hm')))) rfl rfl rfl ?_
  rintro m7 _ ⟨i, rfl, hi⟩
  refine WL.val (OpVal.opv rfl) rfl rfl rfl ?_
  refine WL.val (OpVal.opv rfl) rfl rfl rfl ?_
  refine WL.nil ?_
  refine Kseq.go ?_
  refine W.ret ?_; skip; refine ⟨.inl rfl, [_], h, ⟨.tmp rfl, trivial⟩, (by repeat (first | exact .head _ | refine .tail _ ?_)), ?_⟩
  exact congrArg Value.bool (by rw [Bool.eq_iff_iff, ← hi]; simp)

/-- all of posser/bundle.Piece, its inner function -/
theorem allInP_any {h : Mem} {b : Nat} {g : FuncId} [TC Try.prog g] {fs cs : Array Value} {x : Value} {r : Bool} (hb : IsBox h b #[.func (.func g) fs cs] 97) (hx : ∃ x0 x1 : Value, x = .agg #[x0, x1])
    (hp : ∀ m, MLe h m → FnV Try.prog g (fs ++ #[x] ++ cs) m (.bool r)) : FnV Try.prog 61 #[x, .pointer (some ⟨b, 0, none⟩)] h (.bool (!r)) := by
  refine FnR.val ?_
  obtain ⟨x0, x1, rfl⟩ := hx
  refine FnR.of_W (n := 8) Try.func61 rfl rfl (Nat.le_of_ble_eq_true rfl) fun c hr hD hF => ?_
  refine W.seq ?_
  refine W.region ?_
  refine WL.box rfl rfl rfl rfl (fun b2 => ?_)
  refine WL.val (OpVal.opv rfl) rfl rfl rfl ?_
  refine WL.nil ?_
  refine Kseq.go (W.seq ?_)
  skip
  refine W.region ?_
  refine WL.val (OpVal.loadP rfl (by assumption) (by repeat (first | exact .head _ | refine .tail _ ?_)) rfl) rfl rfl rfl ?_
  refine WL.val (OpVal.loadBW rfl (.head _) rfl) rfl rfl rfl ?_
  refine WL.val (OpVal.callC rfl rfl (fun m hm => hp m (by repeat (first | exact hm.1 | replace hm := hm.2)))) rfl rfl rfl ?_
  refine WL.val (OpVal.opv rfl) rfl rfl rfl ?_
  refine WL.val (OpVal.opv rfl) rfl rfl rfl ?_
  refine WL.nil ?_
  refine Kseq.go ?_
  refine W.ret ?_; skip; refine ⟨.inl rfl, [_], h, ⟨.tmp rfl, trivial⟩, (by repeat (first | exact .head _ | refine .tail _ ?_)), ?_⟩
  rfl
/-- all of posser/bundle.Piece -/
theorem allP_any {h : Mem} {v : Value} {N : Nat} {f : Nat → Nat → Value} {g : FuncId} [TC Try.prog g] {fs cs : Array Value} {p : Nat → Bool} (hv : IsArr h 2 v N f)
    (hp : ∀ i, i < N → ∀ m, MLe h m → FnV Try.prog g (fs ++ #[.agg ((List.range 2).map (f i)).toArray] ++ cs) m (.bool (p i))) : FnV Try.prog 45 #[v, .func (.func g) fs cs] h (.bool (!ex N fun i => !p i)) := by
  refine FnR.val ?_
  refine FnR.of_W (n := 9) Try.func45 rfl rfl (Nat.le_of_ble_eq_true rfl) fun c hr hD hF => ?_
  refine W.seq ?_
  refine W.region ?_
  refine WL.box rfl rfl rfl rfl (fun b3 => ?_)
  refine WL.val (OpVal.opv rfl) rfl rfl rfl ?_
  refine WL.nil ?_
  refine Kseq.go (W.seq ?_)
  refine W.freezeBox (.head _) (fun b hb => (hF b hb).elim) fun mb hmb => ?_
  skip
  refine W.region ?_
  refine WL.val (OpVal.opv rfl) rfl rfl rfl ?_
  refine WL.val (OpVal.opv rfl) rfl rfl rfl ?_
  refine WL.val (OpVal.call rfl (fun m hm => containsFuncP_any (p := fun i => !p i) (hv.le (by repeat (first | exact hm.1 | replace hm := hm.2))) (fun i hi m' hm' => allInP_any (hmb.le (MLe.trans (by repeat (first | exact hm.1 | replace hm := hm.2)) hm')) ⟨_, _, rfl⟩ (fun m2 hm2 => hp i hi m2 (MLe.trans (MLe.trans (by repeat (first | exact hm.1 | replace hm := hm.2)) hm') hm2))))) rfl rfl rfl ?_
  refine WL.val (OpVal.opv rfl) rfl rfl rfl ?_
  refine WL.val (OpVal.opv rfl) rfl rfl rfl ?_
  refine WL.nil ?_
  refine Kseq.go ?_
  refine W.ret ?_; skip; refine ⟨.inl rfl, [_], h, ⟨.tmp rfl, trivial⟩, (by repeat (first | exact .head _ | refine .tail _ ?_)), ?_⟩
  rfl

/-- slices.IndexFunc of int -/
theorem indexFuncI_any {h : Mem} {v : Value} {N : Nat} {f : Nat → Nat → Value} {g : FuncId} [TC Try.prog g] {fs cs : Array Value} {p : Nat → Bool} (hv : IsArr h 1 v N f)
    (hp : ∀ i, i < N → ∀ m, MLe h m → FnV Try.prog g (fs ++ #[f i 0] ++ cs) m (.bool (p i))) : FnR Try.prog 70 #[v, .func (.func g) fs cs] h (fun _ r => ∃ i : Int, r = .int .i64 i ∧ (0 ≤ i ↔ ex N p = true)) := by
  have hlen := hv.len
  unfold maxLen at hlen
  refine FnR.of_W (n := 19) Try.func70 rfl rfl (Nat.le_of_ble_eq_true rfl) fun c hr hD hF => ?_
  refine W.seq ?_
  refine W.region ?_
  refine WL.val (OpVal.opv rfl) rfl rfl rfl ?_
  refine WL.nil ?_
  refine Kseq.go (W.seq (W.seq ?_))
  skip
  refine W.region ?_
  refine WL.val (OpVal.opv rfl) rfl rfl rfl ?_
  refine WL.val (OpVal.len rfl (by assumption)) rfl rfl rfl ?_
  refine WL.val (OpVal.opv rfl) rfl rfl rfl ?_
  refine WL.nil ?_
  refine Kseq.go (W.block ?_)
  refine W.loopC (σ := Nat) (fun k => [(0, v), (1, .func (.func g) fs cs), (7, .int .i64 (N : Int)), (8, .int .i64 (k : Int))]) (fun k => k ≤ N ∧ ∀ j, j < k → p j = false) (fun k => N - k) 0 ⟨rfl, rfl, rfl, rfl, trivial⟩ ⟨Nat.zero_le _, fun j hj => absurd hj (Nat.not_lt_zero _)⟩ ?_
  rintro k ⟨hk, hall⟩
  refine W.seq ?_
  refine W.region ?_
  refine WL.val (OpVal.opv rfl) rfl rfl rfl ?_
  refine WL.nil ?_
  refine Kseq.go (W.seq ?_)
  refine W.condD rfl rfl (fun hlt => ?_) (fun hge => ?_)
  · refine W.skip (Kseq.go (W.seq (W.block (W.seq ?_))))
    refine W.region ?_
    refine WL.val (OpVal.opv rfl) rfl rfl rfl ?_
    refine WL.val (OpVal.opv rfl) rfl rfl rfl ?_
    refine WL.nil ?_
    refine Kseq.go (W.seq ?_)
    skip
    refine W.region ?_
    refine WL.val (OpVal.opv rfl) rfl rfl rfl ?_
    refine WL.val (OpVal.opv rfl) rfl rfl rfl ?_
    refine WL.val (OpVal.opv rfl) rfl rfl rfl ?_
    refine WL.val (OpVal.indexAddrN rfl rfl (by assumption) (by omega)) rfl rfl rfl ?_
    refine WL.val (OpVal.loadE rfl (by assumption) (by repeat (first | exact .head _ | refine .tail _ ?_)) (by omega) (by omega)) rfl rfl rfl ?_
    refine WL.val (OpVal.callC rfl rfl (fun m hm => hp k (by omega) m (by repeat (first | exact hm.1 | replace hm := hm.2)))) rfl rfl rfl ?_
    refine WL.nil ?_
    refine Kseq.go ?_
    refine W.cond rfl rfl (fun he => ?_) (fun hne => ?_)
    · refine W.seq ?_
      refine W.region ?_
      refine WL.val (OpVal.opv rfl) rfl rfl rfl ?_
      refine WL.val (OpVal.opv rfl) rfl rfl rfl ?_
      refine WL.nil ?_
      refine Kseq.go ?_
      refine W.ret ?_; refine Kblock.ret (Kseq.ret (Kloop.ret (Kblock.ret (Kseq.ret ?_)))); refine ⟨.inl rfl, [_], h, ⟨.tmp rfl, trivial⟩, (by repeat (first | exact .head _ | refine .tail _ ?_)), ?_⟩
      exact ⟨_, rfl, ⟨fun _ => ex_iff.2 ⟨k, by omega, he⟩, fun _ => by omega⟩⟩
    · refine W.skip (Kblock.normal (Kseq.go ?_))
      refine W.region ?_
      refine WL.val (OpVal.incr rfl (by omega)) rfl rfl rfl ?_
      refine WL.val (OpVal.opv rfl) rfl rfl rfl ?_
      refine WL.nil ?_
      skip
      refine Kloop.nextC (k + 1) ⟨by omega, fun j hj => ?_⟩ (by omega) ⟨rfl, rfl, rfl, rfl, trivial⟩ (by simp) (.refl _)
      rcases Nat.lt_succ_iff_lt_or_eq.1 hj with h | rfl
      · exact hall j h
      · exact hne
  · refine W.exit (Kseq.exit (Kloop.exit (Kblock.here (Kseq.go (W.seq ?_)))))
    refine W.region ?_
    refine WL.val (OpVal.opv rfl) rfl rfl rfl ?_
    refine WL.nil ?_
    refine Kseq.go ?_
    refine W.ret ?_; skip; refine ⟨.inl rfl, [_], h, ⟨.tmp rfl, trivial⟩, (by repeat (first | exact .head _ | refine .tail _ ?_)), ?_⟩
    refine ⟨_, rfl, ⟨fun h => by omega, fun hm => ?_⟩⟩
    obtain ⟨j, hj, he⟩ := ex_iff.1 hm
    rw [hall j (by omega)] at he; cases he
/-- slices.ContainsFunc of int -/
theorem containsFuncI_any {h : Mem} {v : Value} {N : Nat} {f : Nat → Nat → Value} {g : FuncId} [TC Try.prog g] {fs cs : Array Value} {p : Nat → Bool} (hv : IsArr h 1 v N f)
    (hp : ∀ i, i < N → ∀ m, MLe h m → FnV Try.prog g (fs ++ #[f i 0] ++ cs) m (.bool (p i))) : FnV Try.prog 65 #[v, .func (.func g) fs cs] h (.bool (ex N p)) := by
  refine FnR.val ?_
  refine FnR.of_W (n := 9) Try.func65 rfl rfl (Nat.le_of_ble_eq_true rfl) fun c hr hD hF => ?_
  refine W.seq ?_
  refine W.region ?_
  refine WL.val (OpVal.opv rfl) rfl rfl rfl ?_
  refine WL.nil ?_
  refine Kseq.go (W.seq ?_)
  skip
  refine W.region ?_
  refine WL.val (OpVal.opv rfl) rfl rfl rfl ?_
  refine WL.val (OpVal.opv rfl) rfl rfl rfl ?_
  refine WL.abs (OpAbs.call rfl (fun m hm => indexFuncI_any (hv.le (by repeat (first | exact hm.1 | replace hm := hm.2))) (fun i hi m' hm' => hp i hi m' (MLe.trans (by repeat (first | exact hm.1 | replace hm := hm.2)) hm')))) rfl rfl rfl ?_
  rintro m7 _ ⟨i, rfl, hi⟩
  refine WL.val (OpVal.opv rfl) rfl rfl rfl ?_
  refine WL.val (OpVal.opv rfl) rfl rfl rfl ?_
  refine WL.nil ?_
  refine Kseq.go ?_
  refine W.ret ?_; skip; refine ⟨.inl rfl, [_], h, ⟨.tmp rfl, trivial⟩, (by repeat (first | exact .head _ | refine .tail _ ?_)), ?_⟩
  exact congrArg Value.bool (by rw [Bool.eq_iff_iff, ← hi]; simp)

/-- all of int, its inner function -/
theorem allInI_any {h : Mem} {b : Nat} {g : FuncId} [TC Try.prog g] {fs cs : Array Value} {x : Value} {r : Bool} (hb : IsBox h b #[.func (.func g) fs cs] 110) 
    (hp : ∀ m, MLe h m → FnV Try.prog g (fs ++ #[x] ++ cs) m (.bool r)) : FnV Try.prog 66 #[x, .pointer (some ⟨b, 0, none⟩)] h (.bool (!r)) := by
  refine FnR.val ?_
  
  refine FnR.of_W (n := 8) Try.func66 rfl rfl (Nat.le_of_ble_eq_true rfl) fun c hr hD hF => ?_
  refine W.seq ?_
  refine W.region ?_
  refine WL.val (OpVal.opv rfl) rfl rfl rfl ?_
  refine WL.nil ?_
  refine Kseq.go (W.seq ?_)
  skip
  refine W.region ?_
  refine WL.val (OpVal.loadP rfl (by assumption) (by repeat (first | exact .head _ | refine .tail _ ?_)) rfl) rfl rfl rfl ?_
  refine WL.val (OpVal.opv rfl) rfl rfl rfl ?_
  refine WL.val (OpVal.callC rfl rfl (fun m hm => hp m (by repeat (first | exact hm.1 | replace hm := hm.2)))) rfl rfl rfl ?_
  refine WL.val (OpVal.opv rfl) rfl rfl rfl ?_
  refine WL.val (OpVal.opv rfl) rfl rfl rfl ?_
  refine WL.nil ?_
  refine Kseq.go ?_
  refine W.ret ?_; skip; refine ⟨.inl rfl, [_], h, ⟨.tmp rfl, trivial⟩, (by repeat (first | exact .head _ | refine .tail _ ?_)), ?_⟩
  rfl
/-- all of int -/
theorem allI_any {h : Mem} {v : Value} {N : Nat} {f : Nat → Nat → Value} {g : FuncId} [TC Try.prog g] {fs cs : Array Value} {p : Nat → Bool} (hv : IsArr h 1 v N f)
    (hp : ∀ i, i < N → ∀ m, MLe h m → FnV Try.prog g (fs ++ #[f i 0] ++ cs) m (.bool (p i))) : FnV Try.prog 53 #[v, .func (.func g) fs cs] h (.bool (!ex N fun i => !p i)) := by
  refine FnR.val ?_
  refine FnR.of_W (n := 9) Try.func53 rfl rfl (Nat.le_of_ble_eq_true rfl) fun c hr hD hF => ?_
  refine W.seq ?_
  refine W.region ?_
  refine WL.box rfl rfl rfl rfl (fun b3 => ?_)
  refine WL.val (OpVal.opv rfl) rfl rfl rfl ?_
  refine WL.nil ?_
  refine Kseq.go (W.seq ?_)
  refine W.freezeBox (.head _) (fun b hb => (hF b hb).elim) fun mb hmb => ?_
  skip
  refine W.region ?_
  refine WL.val (OpVal.opv rfl) rfl rfl rfl ?_
  refine WL.val (OpVal.opv rfl) rfl rfl rfl ?_
  refine WL.val (OpVal.call rfl (fun m hm => containsFuncI_any (p := fun i => !p i) (hv.le (by repeat (first | exact hm.1 | replace hm := hm.2))) (fun i hi m' hm' => allInI_any (hmb.le (MLe.trans (by repeat (first | exact hm.1 | replace hm := hm.2)) hm'))  (fun m2 hm2 => hp i hi m2 (MLe.trans (MLe.trans (by repeat (first | exact hm.1 | replace hm := hm.2)) hm') hm2))))) rfl rfl rfl ?_
  refine WL.val (OpVal.opv rfl) rfl rfl rfl ?_
  refine WL.val (OpVal.opv rfl) rfl rfl rfl ?_
  refine WL.nil ?_
  refine Kseq.go ?_
  refine W.ret ?_; skip; refine ⟨.inl rfl, [_], h, ⟨.tmp rfl, trivial⟩, (by repeat (first | exact .head _ | refine .tail _ ?_)), ?_⟩
  rfl

end Go.Proofs.Ytbmohbeocnfefaa
