/- The reference's functions of chapter 6: Things, AreRising, IsThing, IsHour, Times, Fault. -/
import Derived.Test.YtdnbkjgbehakpaaGreatT115
namespace Go.Proofs.YtdnbkjgbehakpaaGreat
open Go Go.Eng Go.RowKit

/-- Things, of the reference -/
theorem thingsR_any {h : Mem} {v : Value} {r : House} (hv : IsHouse h v r) : FnV Tryz.prog 28 #[v] h (vi r.thingsW) := by
  obtain ⟨wv, pv, kv, tv, bv, sv, f, rfl, hA⟩ := hv
  have hP := hA.P
  refine FnR.val ?_
  refine FnR.of_W (n := 10) Tryz.func28 rfl rfl (Nat.le_of_ble_eq_true rfl) fun c hr hD hF => ?_
  refine W.seq ?_
  refine W.region ?_
  refine WL.box rfl rfl rfl rfl (fun b1 => ?_)
  refine WL.val (OpVal.opv rfl) rfl rfl rfl ?_
  refine WL.nil ?_
  refine Kseq.go (W.seq ?_)
  skip
  refine W.region ?_
  refine WL.val (OpVal.fieldAddrB rfl) rfl rfl rfl ?_
  refine WL.val (OpVal.fieldAddrB rfl) rfl rfl rfl ?_
  refine WL.val (OpVal.loadB rfl (.head _) rfl) rfl rfl rfl ?_
  refine WL.val (OpVal.len rfl hP) rfl rfl rfl ?_
  refine WL.val (OpVal.fieldAddrB rfl) rfl rfl rfl ?_
  refine WL.val (OpVal.loadB rfl (.head _) rfl) rfl rfl rfl ?_
  refine WL.val (OpVal.addW6 rfl rfl) rfl rfl rfl ?_
  refine WL.val (OpVal.opv rfl) rfl rfl rfl ?_
  refine WL.nil ?_
  refine Kseq.go ?_
  refine W.ret ?_; skip; refine ⟨.inl rfl, [_], h, ⟨.tmp rfl, trivial⟩, (by repeat (first | exact .head _ | refine .tail _ ?_)), ?_⟩
  rfl
/-- AreRising -/
theorem areRising_any {h : Mem} {lv : Value} {l : List Int} {limit : Int} (h0 : 0 ≤ limit ∧ limit ≤ 1000000) (hl : IsInts h lv l) : FnV Tryz.prog 54 #[lv, vi limit] h (.bool (risingB l limit)) := by
  have hlb := hl.bd
  refine FnR.val ?_
  refine FnR.of_W (n := 36) Tryz.func54 rfl rfl (Nat.le_of_ble_eq_true rfl) fun c hr hD hF => ?_
  refine W.seq ?_
  refine W.region ?_
  refine WL.val (OpVal.opv rfl) rfl rfl rfl ?_
  refine WL.nil ?_
  refine Kseq.go (W.seq (W.seq ?_))
  skip
  refine W.region ?_
  refine WL.val (OpVal.opv rfl) rfl rfl rfl ?_
  refine WL.nil ?_
  refine Kseq.go (W.block ?_)
  refine W.loop (σ := Nat) (fun k => [(0, lv), (1, vi limit), (5, vi (k : Int))]) (fun _ => [h]) (fun _ => []) (fun k => k ≤ l.length ∧ ∀ i, i < k → risingBad l limit i = false) (fun k => l.length - k) 0 ⟨rfl, rfl, rfl, trivial⟩ (by simp) (List.nil_sublist _) ⟨Nat.zero_le _, fun i hi => absurd hi (Nat.not_lt_zero _)⟩ ?_
  rintro k ⟨hk, hall⟩
  refine W.seq (W.seq ?_)
  refine W.region ?_
  refine WL.val (OpVal.opv rfl) rfl rfl rfl ?_
  refine WL.val (OpVal.opv rfl) rfl rfl rfl ?_
  refine WL.val (OpVal.len rfl hl) rfl rfl rfl ?_
  refine WL.val (OpVal.opv rfl) rfl rfl rfl ?_
  refine WL.nil ?_
  refine Kseq.go ?_
  refine W.condD rfl rfl (fun hlt => ?_) (fun hge => ?_)
  · have hkl : k < l.length := by omega
    refine W.skip (Kseq.go (W.seq (W.block (W.seq ?_))))
    refine W.toS [(0, lv), (1, vi limit), (5, vi (k : Int)), (35, .bool (risingBad l limit k))] ?_ ?_
    · by_cases hk0 : k = 0
      · subst hk0
        cases hin : decide (0 ≤ l.getD 0 0 ∧ l.getD 0 0 ≤ limit - 1) with
        | false =>
          skip
          refine W.draw 21 (by kernel_rfl) (by kernel_rfl) (by kernel_rfl) rfl ?_
          refine DJ.val [] (OpVal.opv rfl) rfl rfl rfl rfl ?_
          refine DJ.val [] (OpVal.opv rfl) rfl rfl rfl rfl ?_
          refine DJ.val [] (OpVal.indexAddrN rfl rfl hl hkl) rfl rfl rfl rfl ?_
          refine DJ.val [] (OpVal.loadE rfl hl (by repeat (first | exact .head _ | refine .tail _ ?_)) hkl (by omega)) rfl rfl rfl rfl ?_
          refine DJ.val [] (OpVal.opv rfl) rfl rfl rfl rfl ?_
          refine DJ.val [] (OpVal.sub rfl rfl (by omega) (by omega)) rfl rfl rfl rfl ?_
          refine DJ.val [] (OpVal.cast (OpVal.call rfl (fun m hm => in_any _ _ _)) (congrArg Value.bool hin)) rfl rfl rfl rfl ?_
          refine DJ.val [] (OpVal.opv rfl) rfl rfl rfl rfl ?_
          refine DJ.val [] (OpVal.opv rfl) rfl rfl rfl rfl ?_
          refine DJ.pass rfl rfl rfl rfl ?_
          refine DJ.pass rfl rfl rfl rfl ?_
          refine DJ.pass rfl rfl rfl rfl ?_
          refine DJ.pass rfl rfl rfl rfl ?_
          refine DJ.pass rfl rfl rfl rfl ?_
          refine DJ.pass rfl rfl rfl rfl ?_
          refine DJ.pass rfl rfl rfl rfl ?_
          refine DJ.pass rfl rfl rfl rfl ?_
          refine DJ.pass rfl rfl rfl rfl ?_
          refine DJ.pass rfl rfl rfl rfl ?_
          refine DJ.pass rfl rfl rfl rfl ?_
          refine DJ.pass rfl rfl rfl rfl ?_
          refine DJ.nil ?_
          refine WL.pass rfl rfl rfl ?_
          refine WL.pass rfl rfl rfl ?_
          refine WL.val (OpVal.opv rfl) rfl rfl rfl ?_
          refine WL.nil ?_
          skip
          exact Keff.intro ⟨rfl, rfl, rfl, congrArg (fun b => some (Value.bool b)) (by unfold risingBad; rw [hin]; rfl), trivial⟩ (by simp) (by repeat (first | exact List.Sublist.refl _ | refine List.Sublist.cons _ ?_ | refine List.Sublist.cons_cons _ ?_))
        | true =>
          skip
          refine W.draw 21 (by kernel_rfl) (by kernel_rfl) (by kernel_rfl) rfl ?_
          refine DJ.val [] (OpVal.opv rfl) rfl rfl rfl rfl ?_
          refine DJ.val [] (OpVal.opv rfl) rfl rfl rfl rfl ?_
          refine DJ.val [] (OpVal.indexAddrN rfl rfl hl hkl) rfl rfl rfl rfl ?_
          refine DJ.val [] (OpVal.loadE rfl hl (by repeat (first | exact .head _ | refine .tail _ ?_)) hkl (by omega)) rfl rfl rfl rfl ?_
          refine DJ.val [] (OpVal.opv rfl) rfl rfl rfl rfl ?_
          refine DJ.val [] (OpVal.sub rfl rfl (by omega) (by omega)) rfl rfl rfl rfl ?_
          refine DJ.val [] (OpVal.cast (OpVal.call rfl (fun m hm => in_any _ _ _)) (congrArg Value.bool hin)) rfl rfl rfl rfl ?_
          refine DJ.val [] (OpVal.opv rfl) rfl rfl rfl rfl ?_
          refine DJ.val [] (OpVal.opv rfl) rfl rfl rfl rfl ?_
          refine DJ.val [] (OpVal.opv rfl) rfl rfl rfl rfl ?_
          refine DJ.val [] (OpVal.cast (OpVal.opv rfl) (show _ = Value.bool false from rfl)) rfl rfl rfl rfl ?_
          refine DJ.val [] (OpVal.opv rfl) rfl rfl rfl rfl ?_
          refine DJ.pass rfl rfl rfl rfl ?_
          refine DJ.pass rfl rfl rfl rfl ?_
          refine DJ.pass rfl rfl rfl rfl ?_
          refine DJ.pass rfl rfl rfl rfl ?_
          refine DJ.pass rfl rfl rfl rfl ?_
          refine DJ.pass rfl rfl rfl rfl ?_
          refine DJ.pass rfl rfl rfl rfl ?_
          refine DJ.pass rfl rfl rfl rfl ?_
          refine DJ.pass rfl rfl rfl rfl ?_
          refine DJ.nil ?_
          refine WL.pass rfl rfl rfl ?_
          refine WL.val (OpVal.opv rfl) rfl rfl rfl ?_
          refine WL.val (OpVal.opv rfl) rfl rfl rfl ?_
          refine WL.nil ?_
          skip
          exact Keff.intro ⟨rfl, rfl, rfl, congrArg (fun b => some (Value.bool b)) (by unfold risingBad; rw [hin]; rfl), trivial⟩ (by simp) (by repeat (first | exact List.Sublist.refl _ | refine List.Sublist.cons _ ?_ | refine List.Sublist.cons_cons _ ?_))
      · have hk1 : k - 1 < l.length := by omega
        skip
        refine W.draw 21 (by kernel_rfl) (by kernel_rfl) (by kernel_rfl) rfl ?_
        refine DJ.val [] (OpVal.opv rfl) rfl rfl rfl rfl ?_
        refine DJ.val [] (OpVal.opv rfl) rfl rfl rfl rfl ?_
        refine DJ.val [] (OpVal.indexAddrN rfl rfl hl hkl) rfl rfl rfl rfl ?_
        refine DJ.val [] (OpVal.loadE rfl hl (by repeat (first | exact .head _ | refine .tail _ ?_)) hkl (by omega)) rfl rfl rfl rfl ?_
        refine DJ.val [] (OpVal.opv rfl) rfl rfl rfl rfl ?_
        refine DJ.val [] (OpVal.sub rfl rfl (by omega) (by omega)) rfl rfl rfl rfl ?_
        refine DJ.val [] (OpVal.call rfl (fun m hm => in_any _ _ _)) rfl rfl rfl rfl ?_
        refine DJ.val [] (OpVal.opv rfl) rfl rfl rfl rfl ?_
        refine DJ.val [] (OpVal.opv rfl) rfl rfl rfl rfl ?_
        refine DJ.splitN rfl rfl (fun g20 => ?_) (fun g20 => ?_)
        · refine DJ.pass rfl rfl rfl rfl ?_
          refine DJ.pass rfl rfl rfl rfl ?_
          refine DJ.pass rfl rfl rfl rfl ?_
          refine DJ.pass rfl rfl rfl rfl ?_
          refine DJ.pass rfl rfl rfl rfl ?_
          refine DJ.pass rfl rfl rfl rfl ?_
          refine DJ.pass rfl rfl rfl rfl ?_
          refine DJ.pass rfl rfl rfl rfl ?_
          refine DJ.pass rfl rfl rfl rfl ?_
          refine DJ.pass rfl rfl rfl rfl ?_
          refine DJ.pass rfl rfl rfl rfl ?_
          refine DJ.pass rfl rfl rfl rfl ?_
          refine DJ.nil ?_
          refine WL.pass rfl rfl rfl ?_
          refine WL.pass rfl rfl rfl ?_
          refine WL.val (OpVal.opv rfl) rfl rfl rfl ?_
          refine WL.nil ?_
          skip
          exact Keff.intro ⟨rfl, rfl, rfl, congrArg (fun b => some (Value.bool b)) (by unfold risingBad; rw [decide_eq_true (show 0 < k by omega)]; first | exact (by first | (simp [true_and, -List.getD_eq_getElem?_getD]; done) | (simp_all [-List.getD_eq_getElem?_getD]; done) | (simp [true_and, -List.getD_eq_getElem?_getD]; omega) | (rw [Bool.eq_iff_iff]; simp [true_and, -List.getD_eq_getElem?_getD]; omega) | (simp [true_and, -List.getD_eq_getElem?_getD] at *; omega)) | simp [*]), trivial⟩ (by simp) (by repeat (first | exact List.Sublist.refl _ | refine List.Sublist.cons _ ?_ | refine List.Sublist.cons_cons _ ?_))
        · refine DJ.val [] (OpVal.opv rfl) rfl rfl rfl rfl ?_
          refine DJ.val [] (OpVal.cast (OpVal.opv rfl) (show _ = Value.bool true from congrArg Value.bool (decide_eq_true (show (0 : Int) < (k : Int) by omega)))) rfl rfl rfl rfl ?_
          refine DJ.val [] (OpVal.opv rfl) rfl rfl rfl rfl ?_
          refine DJ.splitB rfl rfl (fun g23 => ?_) (fun g23 => ?_)
          · refine DJ.val [] (OpVal.opv rfl) rfl rfl rfl rfl ?_
            refine DJ.val [] (OpVal.opv rfl) rfl rfl rfl rfl ?_
            refine DJ.val [] (OpVal.indexAddrN rfl rfl hl hkl) rfl rfl rfl rfl ?_
            refine DJ.val [] (OpVal.loadE rfl hl (by repeat (first | exact .head _ | refine .tail _ ?_)) hkl (by omega)) rfl rfl rfl rfl ?_
            refine DJ.val [] (OpVal.opv rfl) rfl rfl rfl rfl ?_
            refine DJ.val [] (OpVal.opv rfl) rfl rfl rfl rfl ?_
            refine DJ.val [] (OpVal.cast (OpVal.sub rfl rfl (by omega) (by omega)) (show _ = vi ((k - 1 : Nat) : Int) from congrArg (Value.int .i64) (by omega))) rfl rfl rfl rfl ?_
            refine DJ.val [] (OpVal.indexAddrN rfl rfl hl hk1) rfl rfl rfl rfl ?_
            refine DJ.val [] (OpVal.loadE rfl hl (by repeat (first | exact .head _ | refine .tail _ ?_)) hk1 (by omega)) rfl rfl rfl rfl ?_
            refine DJ.nil ?_
            refine WL.val (OpVal.opv rfl) rfl rfl rfl ?_
            refine WL.val (OpVal.opv rfl) rfl rfl rfl ?_
            refine WL.val (OpVal.opv rfl) rfl rfl rfl ?_
            refine WL.nil ?_
            skip
            exact Keff.intro ⟨rfl, rfl, rfl, congrArg (fun b => some (Value.bool b)) (by unfold risingBad; rw [decide_eq_true (show 0 < k by omega)]; first | exact (by first | (simp [true_and, -List.getD_eq_getElem?_getD]; done) | (simp_all [-List.getD_eq_getElem?_getD]; done) | (simp [true_and, -List.getD_eq_getElem?_getD]; omega) | (rw [Bool.eq_iff_iff]; simp [true_and, -List.getD_eq_getElem?_getD]; omega) | (simp [true_and, -List.getD_eq_getElem?_getD] at *; omega)) | simp [*]), trivial⟩ (by simp) (by repeat (first | exact List.Sublist.refl _ | refine List.Sublist.cons _ ?_ | refine List.Sublist.cons_cons _ ?_))
          · refine DJ.pass rfl rfl rfl rfl ?_
            refine DJ.pass rfl rfl rfl rfl ?_
            refine DJ.pass rfl rfl rfl rfl ?_
            refine DJ.pass rfl rfl rfl rfl ?_
            refine DJ.pass rfl rfl rfl rfl ?_
            refine DJ.pass rfl rfl rfl rfl ?_
            refine DJ.pass rfl rfl rfl rfl ?_
            refine DJ.pass rfl rfl rfl rfl ?_
            refine DJ.pass rfl rfl rfl rfl ?_
            refine DJ.nil ?_
            refine WL.pass rfl rfl rfl ?_
            refine WL.val (OpVal.opv rfl) rfl rfl rfl ?_
            refine WL.val (OpVal.opv rfl) rfl rfl rfl ?_
            refine WL.nil ?_
            skip
            exact Keff.intro ⟨rfl, rfl, rfl, congrArg (fun b => some (Value.bool b)) (by unfold risingBad; rw [decide_eq_true (show 0 < k by omega)]; first | exact (by first | (simp [true_and, -List.getD_eq_getElem?_getD]; done) | (simp_all [-List.getD_eq_getElem?_getD]; done) | (simp [true_and, -List.getD_eq_getElem?_getD]; omega) | (rw [Bool.eq_iff_iff]; simp [true_and, -List.getD_eq_getElem?_getD]; omega) | (simp [true_and, -List.getD_eq_getElem?_getD] at *; omega)) | simp [*]), trivial⟩ (by simp) (by repeat (first | exact List.Sublist.refl _ | refine List.Sublist.cons _ ?_ | refine List.Sublist.cons_cons _ ?_))
    refine Kseq.go ?_
    refine W.cond rfl rfl (fun hb => ?_) (fun hb => ?_)
    · refine W.seq ?_
      refine W.region ?_
      refine WL.val (OpVal.opv rfl) rfl rfl rfl ?_
      refine WL.nil ?_
      refine Kseq.go ?_
      refine W.ret ?_; refine Kblock.ret (Kseq.ret (Kloop.ret (Kblock.ret (Kseq.ret ?_)))); refine ⟨.inl rfl, [_], h, ⟨.tmp rfl, trivial⟩, (by repeat (first | exact .head _ | refine .tail _ ?_)), ?_⟩
      refine congrArg Value.bool ?_
      unfold risingB
      rw [ex_iff.2 ⟨k, hkl, hb⟩]; rfl
    · refine W.skip (Kblock.normal (Kseq.go ?_))
      skip
      refine W.region ?_
      refine WL.val (OpVal.opv rfl) rfl rfl rfl ?_
      refine WL.val (OpVal.incr rfl (by omega)) rfl rfl rfl ?_
      refine WL.val (OpVal.opv rfl) rfl rfl rfl ?_
      refine WL.nil ?_
      skip
      refine Kloop.next (k + 1) ⟨hkl, fun i hi => ?_⟩ (by omega) ⟨rfl, rfl, rfl, trivial⟩ (by simp) (by repeat (first | exact List.Sublist.refl _ | refine List.Sublist.cons _ ?_ | refine List.Sublist.cons_cons _ ?_))
      rcases Nat.lt_succ_iff_lt_or_eq.1 hi with h2 | rfl
      · exact hall i h2
      · exact hb
  · have : k = l.length := by omega
    subst this
    refine W.exit (Kseq.exit (Kloop.exit (Kblock.here (Kseq.go (W.seq ?_)))))
    skip
    refine W.region ?_
    refine WL.val (OpVal.opv rfl) rfl rfl rfl ?_
    refine WL.nil ?_
    refine Kseq.go ?_
    refine W.ret ?_; skip; refine ⟨.inl rfl, [_], h, ⟨.tmp rfl, trivial⟩, (by repeat (first | exact .head _ | refine .tail _ ?_)), ?_⟩
    refine congrArg Value.bool ?_
    unfold risingB
    rw [ex_no.2 hall]; rfl
/-- IsThing -/
theorem isThingR_any {h : Mem} {v : Value} {r : House} (n : Int) (hv : IsHouse h v r) : FnV Tryz.prog 78 #[v, vi n] h (.bool (thingW r n)) := by
  have hv' := hv
  obtain ⟨wv, pv, kv, tv, bv, sv, f, rfl, hA⟩ := hv
  refine FnR.val ?_
  refine FnR.of_W (n := 10) Tryz.func78 rfl rfl (Nat.le_of_ble_eq_true rfl) fun c hr hD hF => ?_
  refine W.seq ?_
  refine W.region ?_
  refine WL.box rfl rfl rfl rfl (fun b2 => ?_)
  refine WL.val (OpVal.opv rfl) rfl rfl rfl ?_
  refine WL.nil ?_
  refine Kseq.go (W.seq ?_)
  skip
  refine W.region ?_
  refine WL.val (OpVal.opv rfl) rfl rfl rfl ?_
  refine WL.val (OpVal.loadBW rfl (.head _) rfl) rfl rfl rfl ?_
  refine WL.val (OpVal.call rfl (fun m hm => thingsR_any (hv'.le (by repeat (first | exact hm.1 | replace hm := hm.2))))) rfl rfl rfl ?_
  refine WL.val (OpVal.subW6 rfl rfl) rfl rfl rfl ?_
  refine WL.val (OpVal.call rfl (fun m hm => in_any _ _ _)) rfl rfl rfl ?_
  refine WL.val (OpVal.opv rfl) rfl rfl rfl ?_
  refine WL.nil ?_
  refine Kseq.go ?_
  refine W.ret ?_; skip; refine ⟨.inl rfl, [_], h, ⟨.tmp rfl, trivial⟩, (by repeat (first | exact .head _ | refine .tail _ ?_)), ?_⟩
  rfl
/-- IsHour -/
theorem isHourR_any {h : Mem} {v : Value} {r : House} (n : Int) (hv : IsHouse h v r) : FnV Tryz.prog 79 #[v, vi n] h (.bool (isHour r n)) := by
  obtain ⟨wv, pv, kv, tv, bv, sv, f, rfl, hA⟩ := hv
  refine FnR.val ?_
  refine FnR.of_W (n := 9) Tryz.func79 rfl rfl (Nat.le_of_ble_eq_true rfl) fun c hr hD hF => ?_
  refine W.seq ?_
  refine W.region ?_
  refine WL.box rfl rfl rfl rfl (fun b2 => ?_)
  refine WL.val (OpVal.opv rfl) rfl rfl rfl ?_
  refine WL.nil ?_
  refine Kseq.go (W.seq ?_)
  skip
  refine W.region ?_
  refine WL.val (OpVal.opv rfl) rfl rfl rfl ?_
  refine WL.val (OpVal.fieldAddrB rfl) rfl rfl rfl ?_
  refine WL.val (OpVal.loadB rfl (.head _) rfl) rfl rfl rfl ?_
  refine WL.val (OpVal.call rfl (fun m hm => in_any _ _ _)) rfl rfl rfl ?_
  refine WL.val (OpVal.opv rfl) rfl rfl rfl ?_
  refine WL.nil ?_
  refine Kseq.go ?_
  refine W.ret ?_; skip; refine ⟨.inl rfl, [_], h, ⟨.tmp rfl, trivial⟩, (by repeat (first | exact .head _ | refine .tail _ ?_)), ?_⟩
  rfl
/-- Times -/
theorem times_any {h : Mem} {v : Value} {r : House} (hv : IsHouse h v r) (hs : SmH r) (hz : ∀ i, i < r.tn → 0 ≤ (r.touches.getD i default).lo ∧ (r.touches.getD i default).lo ≤ (r.touches.getD i default).hi ∧ (r.touches.getD i default).hi ≤ 5) :
    FnV Tryz.prog 75 #[v] h (vi (times r)) := by
  have htn : r.tn ≤ 20 := hs.touches
  obtain ⟨wv, pv, kv, tv, bv, sv, f, rfl, hA⟩ := hv
  have hT := hA.T
  refine FnR.val ?_
  refine FnR.of_W (n := 32) Tryz.func75 rfl rfl (Nat.le_of_ble_eq_true rfl) fun c hr hD hF => ?_
  refine W.seq ?_
  refine W.region ?_
  refine WL.box rfl rfl rfl rfl (fun b1 => ?_)
  refine WL.val (OpVal.opv rfl) rfl rfl rfl ?_
  refine WL.nil ?_
  refine Kseq.go (W.seq ?_)
  skip
  refine W.region ?_
  refine WL.val (OpVal.opv rfl) rfl rfl rfl ?_
  refine WL.nil ?_
  refine Kseq.go (W.seq (W.seq ?_))
  skip
  refine W.region ?_
  refine WL.val (OpVal.opv rfl) rfl rfl rfl ?_
  refine WL.nil ?_
  refine Kseq.go (W.block ?_)
  refine W.loop (σ := Nat) (fun k => [(1, .pointer (some ⟨b1, 0, none⟩)), (3, .int .i64 (timesTo r k)), (4, .int .i64 (k : Int))]) (fun _ => [h]) (fun _ => [.blk b1 (hcs wv pv kv tv bv sv r) 31]) (fun k => k ≤ r.tn) (fun k => r.tn - k) 0 ⟨rfl, rfl, rfl, trivial⟩ (by simp) (.refl _) (Nat.zero_le _) ?_
  rintro k hk
  try dsimp only at hk ⊢
  have hp := timesTo_pos (fun i hi => (hz i hi).2.1) k hk
  refine W.seq (W.seq ?_)
  refine W.region ?_
  refine WL.val (OpVal.opv rfl) rfl rfl rfl ?_
  refine WL.val (OpVal.fieldAddrB rfl) rfl rfl rfl ?_
  refine WL.val (OpVal.loadB rfl (.head _) rfl) rfl rfl rfl ?_
  refine WL.val (OpVal.len rfl hT) rfl rfl rfl ?_
  refine WL.val (OpVal.opv rfl) rfl rfl rfl ?_
  refine WL.nil ?_
  refine Kseq.go ?_
  refine W.condD rfl rfl (fun hlt => ?_) (fun hge => ?_)
  · have hkl : k < r.tn := by unfold House.tn; omega
    have hkl' : k < r.touches.length := hkl
    have hzk := hz k hkl
    have hmul : timesTo r k * ((r.touches.getD k default).hi - (r.touches.getD k default).lo + 1) ≤ 3000 * 6 := Int.mul_le_mul hp.2 (by omega) (by omega) (by omega)
    have hmul0 : 0 ≤ timesTo r k * ((r.touches.getD k default).hi - (r.touches.getD k default).lo + 1) := Int.mul_nonneg (by omega) (by omega)
    refine W.skip (Kseq.go (W.seq (W.block ?_)))
    refine W.draw 17 (by kernel_rfl) (by kernel_rfl) (by kernel_rfl) rfl ?_
    refine DJ.val [] (OpVal.opv rfl) rfl rfl rfl rfl ?_
    refine DJ.val [] (OpVal.fieldAddrB rfl) rfl rfl rfl rfl ?_
    refine DJ.val [] (OpVal.loadB rfl (.head _) rfl) rfl rfl rfl rfl ?_
    refine DJ.val [] (OpVal.opv rfl) rfl rfl rfl rfl ?_
    refine DJ.val [] (OpVal.indexAddrN rfl rfl hT hkl') rfl rfl rfl rfl ?_
    refine DJ.val [] (OpVal.fieldAddrN rfl hT hkl') rfl rfl rfl rfl ?_
    refine DJ.val [] (OpVal.fieldAddrN rfl hT hkl') rfl rfl rfl rfl ?_
    refine DJ.val [] (OpVal.loadE rfl hT (by repeat (first | exact .head _ | refine .tail _ ?_)) hkl' (by omega)) rfl rfl rfl rfl ?_
    refine DJ.val [] (OpVal.fieldAddrB rfl) rfl rfl rfl rfl ?_
    refine DJ.val [] (OpVal.loadB rfl (.head _) rfl) rfl rfl rfl rfl ?_
    refine DJ.val [] (OpVal.opv rfl) rfl rfl rfl rfl ?_
    refine DJ.val [] (OpVal.indexAddrN rfl rfl hT hkl') rfl rfl rfl rfl ?_
    refine DJ.val [] (OpVal.fieldAddrN rfl hT hkl') rfl rfl rfl rfl ?_
    refine DJ.val [] (OpVal.fieldAddrN rfl hT hkl') rfl rfl rfl rfl ?_
    refine DJ.val [] (OpVal.loadE rfl hT (by repeat (first | exact .head _ | refine .tail _ ?_)) hkl' (by omega)) rfl rfl rfl rfl ?_
    refine DJ.val [] (OpVal.sub rfl rfl (by omega) (by omega)) rfl rfl rfl rfl ?_
    refine DJ.val [] (OpVal.add rfl rfl (by omega) (by omega)) rfl rfl rfl rfl ?_
    refine DJ.nil ?_
    refine WL.val (OpVal.mul rfl rfl (by omega) (by omega)) rfl rfl rfl ?_
    refine WL.val (OpVal.min2 rfl rfl) rfl rfl rfl ?_
    refine WL.val (OpVal.opv rfl) rfl rfl rfl ?_
    refine WL.nil ?_
    refine Kblock.normal (Kseq.go ?_)
    skip
    refine W.region ?_
    refine WL.val (OpVal.opv rfl) rfl rfl rfl ?_
    refine WL.val (OpVal.incr rfl (by omega)) rfl rfl rfl ?_
    refine WL.val (OpVal.opv rfl) rfl rfl rfl ?_
    refine WL.nil ?_
    skip
    exact Kloop.next (k + 1) (by omega) (by omega) ⟨rfl, congrArg (fun x : Int => some (Value.int .i64 x)) (timesTo_succ r k).symm, rfl, trivial⟩ (by simp) (by repeat (first | exact List.Sublist.refl _ | refine List.Sublist.cons _ ?_ | refine List.Sublist.cons_cons _ ?_))
  refine W.exit (Kseq.exit (Kloop.exit (Kblock.here (Kseq.go (W.seq ?_)))))
  have hkk : k = r.tn := by unfold House.tn at *; omega
  subst hkk
  skip
  refine W.region ?_
  refine WL.val (OpVal.opv rfl) rfl rfl rfl ?_
  refine WL.val (OpVal.opv rfl) rfl rfl rfl ?_
  refine WL.nil ?_
  refine Kseq.go ?_
  refine W.ret ?_; skip; refine ⟨.inl rfl, [_], h, ⟨.tmp rfl, trivial⟩, (by repeat (first | exact .head _ | refine .tail _ ?_)), ?_⟩
  rfl
end Go.Proofs.YtdnbkjgbehakpaaGreat
