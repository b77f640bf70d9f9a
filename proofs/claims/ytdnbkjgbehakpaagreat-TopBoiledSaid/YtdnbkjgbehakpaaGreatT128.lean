/- The reference's functions of chapter 6: Things, AreRising, IsThing, IsHour, Times, Fault. -/
import Derived.Test.YtdnbkjgbehakpaaGreatT113
import Derived.Test.YtdnbkjgbehakpaaGreatT7
namespace Go.Proofs.YtdnbkjgbehakpaaGreat
open Go Go.Eng Go.RowKit

/-- Things, of the reference -/
theorem thingsR_any {h : Mem} {v : Value} {r : House} (hv : IsHouse h v r) : FnV Tryz.prog 28 #[v] h (vi r.thingsW) := by
  obtain ⟨wv, pv, kv, tv, bv, sv, f, rfl, hA⟩ := hv
  have hP := hA.P
  refine FnR.val ?_
  refine FnR.of_W (n := 10) Tryz.func28 rfl rfl (Nat.le_of_ble_eq_true rfl) fun c hr hD hF => ?_
  refine W.seq ?_; refine W.region ?_
  refine WL.box rfl rfl rfl rfl (fun b1 => ?_)
  refine .o rfl ?_; refine WL.nil ?_
  refine Kseq.go (W.seq ?_)
  refine W.region ?_; refine .val (.fieldAddrB rfl) rfl rfl rfl ?_; refine .val (.fieldAddrB rfl) rfl rfl rfl ?_; refine .val (.loadB rfl (.head _) rfl) rfl rfl rfl ?_; refine .val (.len rfl hP) rfl rfl rfl ?_; refine .val (.fieldAddrB rfl) rfl rfl rfl ?_; refine .val (.loadB rfl (.head _) rfl) rfl rfl rfl ?_; refine .val (OpVal.addW6 rfl rfl) rfl rfl rfl ?_; refine .o rfl ?_; refine WL.nil ?_; refine Kseq.go ?_
  refine W.ret ?_; refine ⟨.inl rfl, [_], h, ⟨.tmp rfl, trivial⟩, (by repeat constructor), ?_⟩
  rfl
/-- AreRising -/
theorem areRising_any {h : Mem} {lv : Value} {l : List Int} {limit : Int} (h0 : 0 ≤ limit ∧ limit ≤ 1000000) (hl : IsInts h lv l) : FnV Tryz.prog 54 #[lv, vi limit] h (.bool (risingB l limit)) := by
  have hlb := hl.bd
  refine FnR.val ?_
  refine FnR.of_W (n := 36) Tryz.func54 rfl rfl (Nat.le_of_ble_eq_true rfl) fun c hr hD hF => ?_
  refine W.seq ?_; refine W.region ?_; refine .o rfl ?_; refine WL.nil ?_
  refine Kseq.go (W.seq (W.seq ?_))
  refine W.region ?_; refine .o rfl ?_; refine WL.nil ?_
  refine Kseq.go (W.block ?_)
  refine W.loop (σ := Nat) (fun k => [(0, lv), (1, vi limit), (5, vi (k : Int))]) (fun _ => [h]) (fun _ => []) (fun k => k ≤ l.length ∧ ∀ i, i < k → risingBad l limit i = false) (fun k => l.length - k) 0 ⟨rfl, rfl, rfl, trivial⟩ (by simp) (List.nil_sublist _) ⟨Nat.zero_le _, fun i hi => absurd hi (Nat.not_lt_zero _)⟩ ?_
  rintro k ⟨hk, hall⟩
  refine W.seq (W.seq ?_)
  refine W.region ?_
  iterate 2 refine .o rfl ?_
  refine .val (.len rfl hl) rfl rfl rfl ?_; refine .o rfl ?_; refine WL.nil ?_; refine Kseq.go ?_
  refine W.condD rfl rfl (fun hlt => ?_) (fun hge => ?_)
  · have hkl : k < l.length := by omega
    refine W.skip (Kseq.go (W.seq (W.block (W.seq ?_))))
    refine W.toS [(0, lv), (1, vi limit), (5, vi (k : Int)), (35, .bool (risingBad l limit k))] ?_ ?_
    · by_cases hk0 : k = 0
      · subst hk0
        cases hin : decide (0 ≤ l.getD 0 0 ∧ l.getD 0 0 ≤ limit - 1) with
        | false =>
          refine W.draw 21 (by kernel_rfl) (by kernel_rfl) (by kernel_rfl) rfl ?_; refine .val [] (.opv rfl) rfl rfl rfl rfl ?_; refine .val [] (.opv rfl) rfl rfl rfl rfl ?_; refine .val [] (.indexAddrN rfl rfl hl hkl) rfl rfl rfl rfl ?_; refine .val [] (.loadE rfl hl (by repeat constructor) hkl (by omega)) rfl rfl rfl rfl ?_; refine .val [] (.opv rfl) rfl rfl rfl rfl ?_; refine .val [] (.sub rfl rfl (by omega) (by omega)) rfl rfl rfl rfl ?_; refine .val [] (.cast (.call rfl (fun m hm => in_any _ _ _)) (congrArg Value.bool hin)) rfl rfl rfl rfl ?_; refine .val [] (.opv rfl) rfl rfl rfl rfl ?_; refine .val [] (.opv rfl) rfl rfl rfl rfl ?_; refine DJ.pass rfl rfl rfl rfl ?_; refine DJ.pass rfl rfl rfl rfl ?_; refine DJ.pass rfl rfl rfl rfl ?_; refine DJ.pass rfl rfl rfl rfl ?_; refine DJ.pass rfl rfl rfl rfl ?_; refine DJ.pass rfl rfl rfl rfl ?_; refine DJ.pass rfl rfl rfl rfl ?_; refine DJ.pass rfl rfl rfl rfl ?_
          refine DJ.pass rfl rfl rfl rfl ?_; refine DJ.pass rfl rfl rfl rfl ?_; refine DJ.pass rfl rfl rfl rfl ?_; refine DJ.pass rfl rfl rfl rfl ?_; refine DJ.nil ?_; refine WL.pass rfl rfl rfl ?_; refine WL.pass rfl rfl rfl ?_; refine .o rfl ?_; refine WL.nil ?_
          exact Keff.intro ⟨rfl, rfl, rfl, congrArg (fun b => some (Value.bool b)) (by unfold risingBad; rw [hin]; rfl), trivial⟩ (by simp) (by repeat first | exact .refl _ | refine .cons _ ?_)
        | true =>
          refine W.draw 21 (by kernel_rfl) (by kernel_rfl) (by kernel_rfl) rfl ?_; refine .val [] (.opv rfl) rfl rfl rfl rfl ?_; refine .val [] (.opv rfl) rfl rfl rfl rfl ?_; refine .val [] (.indexAddrN rfl rfl hl hkl) rfl rfl rfl rfl ?_; refine .val [] (.loadE rfl hl (by repeat constructor) hkl (by omega)) rfl rfl rfl rfl ?_; refine .val [] (.opv rfl) rfl rfl rfl rfl ?_; refine .val [] (.sub rfl rfl (by omega) (by omega)) rfl rfl rfl rfl ?_; refine .val [] (.cast (.call rfl (fun m hm => in_any _ _ _)) (congrArg Value.bool hin)) rfl rfl rfl rfl ?_; refine .val [] (.opv rfl) rfl rfl rfl rfl ?_; refine .val [] (.opv rfl) rfl rfl rfl rfl ?_; refine .val [] (.opv rfl) rfl rfl rfl rfl ?_; refine .val [] (.cast (.opv rfl) (show _ = Value.bool false from rfl)) rfl rfl rfl rfl ?_; refine .val [] (.opv rfl) rfl rfl rfl rfl ?_; refine DJ.pass rfl rfl rfl rfl ?_; refine DJ.pass rfl rfl rfl rfl ?_; refine DJ.pass rfl rfl rfl rfl ?_
          refine DJ.pass rfl rfl rfl rfl ?_; refine DJ.pass rfl rfl rfl rfl ?_; refine DJ.pass rfl rfl rfl rfl ?_; refine DJ.pass rfl rfl rfl rfl ?_; refine DJ.pass rfl rfl rfl rfl ?_; refine DJ.pass rfl rfl rfl rfl ?_; refine DJ.nil ?_; refine WL.pass rfl rfl rfl ?_
          iterate 2 refine .o rfl ?_
          refine WL.nil ?_
          exact Keff.intro ⟨rfl, rfl, rfl, congrArg (fun b => some (Value.bool b)) (by unfold risingBad; rw [hin]; rfl), trivial⟩ (by simp) (by repeat first | exact .refl _ | refine .cons _ ?_)
      · have hk1 : k - 1 < l.length := by omega
        refine W.draw 21 (by kernel_rfl) (by kernel_rfl) (by kernel_rfl) rfl ?_; refine .val [] (.opv rfl) rfl rfl rfl rfl ?_; refine .val [] (.opv rfl) rfl rfl rfl rfl ?_; refine .val [] (.indexAddrN rfl rfl hl hkl) rfl rfl rfl rfl ?_; refine .val [] (.loadE rfl hl (by repeat constructor) hkl (by omega)) rfl rfl rfl rfl ?_; refine .val [] (.opv rfl) rfl rfl rfl rfl ?_; refine .val [] (.sub rfl rfl (by omega) (by omega)) rfl rfl rfl rfl ?_; refine .val [] (.call rfl (fun m hm => in_any _ _ _)) rfl rfl rfl rfl ?_; refine .val [] (.opv rfl) rfl rfl rfl rfl ?_; refine .val [] (.opv rfl) rfl rfl rfl rfl ?_
        refine DJ.splitN rfl rfl (fun g20 => ?_) (fun g20 => ?_)
        · refine DJ.pass rfl rfl rfl rfl ?_
          refine DJ.pass rfl rfl rfl rfl ?_; refine DJ.pass rfl rfl rfl rfl ?_; refine DJ.pass rfl rfl rfl rfl ?_; refine DJ.pass rfl rfl rfl rfl ?_; refine DJ.pass rfl rfl rfl rfl ?_; refine DJ.pass rfl rfl rfl rfl ?_; refine DJ.pass rfl rfl rfl rfl ?_; refine DJ.pass rfl rfl rfl rfl ?_; refine DJ.pass rfl rfl rfl rfl ?_; refine DJ.pass rfl rfl rfl rfl ?_; refine DJ.pass rfl rfl rfl rfl ?_; refine DJ.nil ?_; refine WL.pass rfl rfl rfl ?_; refine WL.pass rfl rfl rfl ?_; refine .o rfl ?_; refine WL.nil ?_
          exact Keff.intro ⟨rfl, rfl, rfl, congrArg (fun b => some (Value.bool b)) (by unfold risingBad; rw [decide_eq_true (show 0 < k by omega)]; first | exact (by first | (simp [-List.getD_eq_getElem?_getD]; done) | (simp_all [-List.getD_eq_getElem?_getD]; done) | (simp [-List.getD_eq_getElem?_getD]; omega) | (rw [Bool.eq_iff_iff]; simp [-List.getD_eq_getElem?_getD]; omega) | (simp [-List.getD_eq_getElem?_getD] at *; omega)) | simp [*]), trivial⟩ (by simp) (by repeat first | exact .refl _ | refine .cons _ ?_)
        · refine .val [] (.opv rfl) rfl rfl rfl rfl ?_
          refine .val [] (.cast (.opv rfl) (show _ = Value.bool true from congrArg Value.bool (decide_eq_true (show (0 : Int) < (k : Int) by omega)))) rfl rfl rfl rfl ?_; refine .val [] (.opv rfl) rfl rfl rfl rfl ?_
          refine DJ.splitB rfl rfl (fun g23 => ?_) (fun g23 => ?_)
          · refine .val [] (.opv rfl) rfl rfl rfl rfl ?_
            refine .val [] (.opv rfl) rfl rfl rfl rfl ?_; refine .val [] (.indexAddrN rfl rfl hl hkl) rfl rfl rfl rfl ?_; refine .val [] (.loadE rfl hl (by repeat constructor) hkl (by omega)) rfl rfl rfl rfl ?_; refine .val [] (.opv rfl) rfl rfl rfl rfl ?_; refine .val [] (.opv rfl) rfl rfl rfl rfl ?_; refine .val [] (.cast (.sub rfl rfl (by omega) (by omega)) (show _ = vi ((k - 1 : Nat) : Int) from congrArg (Value.int .i64) (by omega))) rfl rfl rfl rfl ?_; refine .val [] (.indexAddrN rfl rfl hl hk1) rfl rfl rfl rfl ?_; refine .val [] (.loadE rfl hl (by repeat constructor) hk1 (by omega)) rfl rfl rfl rfl ?_; refine DJ.nil ?_
            iterate 3 refine .o rfl ?_
            refine WL.nil ?_
            exact Keff.intro ⟨rfl, rfl, rfl, congrArg (fun b => some (Value.bool b)) (by unfold risingBad; rw [decide_eq_true (show 0 < k by omega)]; first | exact (by first | (simp [-List.getD_eq_getElem?_getD]; done) | (simp_all [-List.getD_eq_getElem?_getD]; done) | (simp [-List.getD_eq_getElem?_getD]; omega) | (rw [Bool.eq_iff_iff]; simp [-List.getD_eq_getElem?_getD]; omega) | (simp [-List.getD_eq_getElem?_getD] at *; omega)) | simp [*]), trivial⟩ (by simp) (by repeat first | exact .refl _ | refine .cons _ ?_)
          · refine DJ.pass rfl rfl rfl rfl ?_
            refine DJ.pass rfl rfl rfl rfl ?_; refine DJ.pass rfl rfl rfl rfl ?_; refine DJ.pass rfl rfl rfl rfl ?_; refine DJ.pass rfl rfl rfl rfl ?_; refine DJ.pass rfl rfl rfl rfl ?_; refine DJ.pass rfl rfl rfl rfl ?_; refine DJ.pass rfl rfl rfl rfl ?_; refine DJ.pass rfl rfl rfl rfl ?_; refine DJ.nil ?_; refine WL.pass rfl rfl rfl ?_
            iterate 2 refine .o rfl ?_
            refine WL.nil ?_
            exact Keff.intro ⟨rfl, rfl, rfl, congrArg (fun b => some (Value.bool b)) (by unfold risingBad; rw [decide_eq_true (show 0 < k by omega)]; first | exact (by first | (simp [-List.getD_eq_getElem?_getD]; done) | (simp_all [-List.getD_eq_getElem?_getD]; done) | (simp [-List.getD_eq_getElem?_getD]; omega) | (rw [Bool.eq_iff_iff]; simp [-List.getD_eq_getElem?_getD]; omega) | (simp [-List.getD_eq_getElem?_getD] at *; omega)) | simp [*]), trivial⟩ (by simp) (by repeat first | exact .refl _ | refine .cons _ ?_)
    refine Kseq.go ?_
    refine W.cond rfl rfl (fun hb => ?_) (fun hb => ?_)
    · refine W.seq ?_
      refine W.region ?_; refine .o rfl ?_; refine WL.nil ?_; refine Kseq.go ?_
      refine W.ret ?_; refine Kblock.ret (Kseq.ret (Kloop.ret (Kblock.ret (Kseq.ret ?_)))); refine ⟨.inl rfl, [_], h, ⟨.tmp rfl, trivial⟩, (by repeat constructor), ?_⟩
      refine congrArg Value.bool ?_
      unfold risingB
      rw [ex_iff.2 ⟨k, hkl, hb⟩]; rfl
    · refine W.skip (Kblock.normal (Kseq.go ?_))
      refine W.region ?_; refine .o rfl ?_; refine .val (.incr rfl (by omega)) rfl rfl rfl ?_; refine .o rfl ?_; refine WL.nil ?_
      refine Kloop.next (k + 1) ⟨hkl, fun i hi => ?_⟩ (by omega) ⟨rfl, rfl, rfl, trivial⟩ (by simp) (by repeat first | exact .refl _ | refine .cons _ ?_)
      rcases Nat.lt_succ_iff_lt_or_eq.1 hi with h2 | rfl
      · exact hall i h2
      · exact hb
  · have : k = l.length := by omega
    subst this
    refine W.exit (Kseq.exit (Kloop.exit (Kblock.here (Kseq.go (W.seq ?_)))))
    refine W.region ?_; refine .o rfl ?_; refine WL.nil ?_; refine Kseq.go ?_
    refine W.ret ?_; refine ⟨.inl rfl, [_], h, ⟨.tmp rfl, trivial⟩, (by repeat constructor), ?_⟩
    refine congrArg Value.bool ?_
    unfold risingB
    rw [ex_no.2 hall]; rfl
/-- IsThing -/
theorem isThingR_any {h : Mem} {v : Value} {r : House} (n : Int) (hv : IsHouse h v r) : FnV Tryz.prog 78 #[v, vi n] h (.bool (thingW r n)) := by
  have hv' := hv
  obtain ⟨wv, pv, kv, tv, bv, sv, f, rfl, hA⟩ := hv
  refine FnR.val ?_
  refine FnR.of_W (n := 10) Tryz.func78 rfl rfl (Nat.le_of_ble_eq_true rfl) fun c hr hD hF => ?_
  refine W.seq ?_; refine W.region ?_
  refine WL.box rfl rfl rfl rfl (fun b2 => ?_)
  refine .o rfl ?_; refine WL.nil ?_
  refine Kseq.go (W.seq ?_)
  refine W.region ?_; refine .o rfl ?_; refine .val (.loadBW rfl (.head _) rfl) rfl rfl rfl ?_; refine .val (.call rfl (fun m hm => thingsR_any (hv'.le (by repeat first | exact hm.1 | replace hm := hm.2)))) rfl rfl rfl ?_; refine .val (OpVal.subW6 rfl rfl) rfl rfl rfl ?_; refine .val (.call rfl (fun m hm => in_any _ _ _)) rfl rfl rfl ?_; refine .o rfl ?_; refine WL.nil ?_; refine Kseq.go ?_
  refine W.ret ?_; refine ⟨.inl rfl, [_], h, ⟨.tmp rfl, trivial⟩, (by repeat constructor), ?_⟩
  rfl
/-- IsHour -/
theorem isHourR_any {h : Mem} {v : Value} {r : House} (n : Int) (hv : IsHouse h v r) : FnV Tryz.prog 79 #[v, vi n] h (.bool (isHour r n)) := by
  obtain ⟨wv, pv, kv, tv, bv, sv, f, rfl, hA⟩ := hv
  refine FnR.val ?_
  refine FnR.of_W (n := 9) Tryz.func79 rfl rfl (Nat.le_of_ble_eq_true rfl) fun c hr hD hF => ?_
  refine W.seq ?_; refine W.region ?_
  refine WL.box rfl rfl rfl rfl (fun b2 => ?_)
  refine .o rfl ?_; refine WL.nil ?_
  refine Kseq.go (W.seq ?_)
  refine W.region ?_; refine .o rfl ?_; refine .val (.fieldAddrB rfl) rfl rfl rfl ?_; refine .val (.loadB rfl (.head _) rfl) rfl rfl rfl ?_; refine .val (.call rfl (fun m hm => in_any _ _ _)) rfl rfl rfl ?_; refine .o rfl ?_; refine WL.nil ?_; refine Kseq.go ?_
  refine W.ret ?_; refine ⟨.inl rfl, [_], h, ⟨.tmp rfl, trivial⟩, (by repeat constructor), ?_⟩
  rfl
/-- Times -/
theorem times_any {h : Mem} {v : Value} {r : House} (hv : IsHouse h v r) (hs : SmH r) (hz : ∀ i, i < r.tn → 0 ≤ (r.touches.getD i default).lo ∧ (r.touches.getD i default).lo ≤ (r.touches.getD i default).hi ∧ (r.touches.getD i default).hi ≤ 5) :
    FnV Tryz.prog 75 #[v] h (vi (times r)) := by
  have htn : r.tn ≤ 20 := hs.touches
  obtain ⟨wv, pv, kv, tv, bv, sv, f, rfl, hA⟩ := hv
  have hT := hA.T
  refine FnR.val ?_
  refine FnR.of_W (n := 32) Tryz.func75 rfl rfl (Nat.le_of_ble_eq_true rfl) fun c hr hD hF => ?_
  refine W.seq ?_; refine W.region ?_
  refine WL.box rfl rfl rfl rfl (fun b1 => ?_)
  refine .o rfl ?_; refine WL.nil ?_
  refine Kseq.go (W.seq ?_)
  refine W.region ?_; refine .o rfl ?_; refine WL.nil ?_
  refine Kseq.go (W.seq (W.seq ?_))
  refine W.region ?_; refine .o rfl ?_; refine WL.nil ?_
  refine Kseq.go (W.block ?_)
  refine W.loop (σ := Nat) (fun k => [(1, .pointer (some ⟨b1, 0, none⟩)), (3, .int .i64 (timesTo r k)), (4, .int .i64 (k : Int))]) (fun _ => [h]) (fun _ => [.blk b1 (hcs wv pv kv tv bv sv r) 31]) (fun k => k ≤ r.tn) (fun k => r.tn - k) 0 ⟨rfl, rfl, rfl, trivial⟩ (by simp) (.refl _) (Nat.zero_le _) ?_
  rintro k hk
  try dsimp only at hk ⊢
  have hp := timesTo_pos (fun i hi => (hz i hi).2.1) k hk
  refine W.seq (W.seq ?_)
  refine W.region ?_; refine .o rfl ?_; refine .val (.fieldAddrB rfl) rfl rfl rfl ?_; refine .val (.loadB rfl (.head _) rfl) rfl rfl rfl ?_; refine .val (.len rfl hT) rfl rfl rfl ?_; refine .o rfl ?_; refine WL.nil ?_; refine Kseq.go ?_
  refine W.condD rfl rfl (fun hlt => ?_) (fun hge => ?_)
  · have hkl : k < r.tn := by unfold House.tn; omega
    have hkl' : k < r.touches.length := hkl
    have hzk := hz k hkl
    have hmul : timesTo r k * ((r.touches.getD k default).hi - (r.touches.getD k default).lo + 1) ≤ 3000 * 6 := Int.mul_le_mul hp.2 (by omega) (by omega) (by omega)
    have hmul0 : 0 ≤ timesTo r k * ((r.touches.getD k default).hi - (r.touches.getD k default).lo + 1) := Int.mul_nonneg (by omega) (by omega)
    refine W.skip (Kseq.go (W.seq (W.block ?_)))
    refine W.draw 17 (by kernel_rfl) (by kernel_rfl) (by kernel_rfl) rfl ?_; refine .val [] (.opv rfl) rfl rfl rfl rfl ?_; refine .val [] (.fieldAddrB rfl) rfl rfl rfl rfl ?_; refine .val [] (.loadB rfl (.head _) rfl) rfl rfl rfl rfl ?_; refine .val [] (.opv rfl) rfl rfl rfl rfl ?_; refine .val [] (.indexAddrN rfl rfl hT hkl') rfl rfl rfl rfl ?_; refine .val [] (.fieldAddrN rfl hT hkl') rfl rfl rfl rfl ?_; refine .val [] (.fieldAddrN rfl hT hkl') rfl rfl rfl rfl ?_; refine .val [] (.loadE rfl hT (by repeat constructor) hkl' (by omega)) rfl rfl rfl rfl ?_; refine .val [] (.fieldAddrB rfl) rfl rfl rfl rfl ?_; refine .val [] (.loadB rfl (.head _) rfl) rfl rfl rfl rfl ?_; refine .val [] (.opv rfl) rfl rfl rfl rfl ?_; refine .val [] (.indexAddrN rfl rfl hT hkl') rfl rfl rfl rfl ?_; refine .val [] (.fieldAddrN rfl hT hkl') rfl rfl rfl rfl ?_; refine .val [] (.fieldAddrN rfl hT hkl') rfl rfl rfl rfl ?_
    refine .val [] (.loadE rfl hT (by repeat constructor) hkl' (by omega)) rfl rfl rfl rfl ?_; refine .val [] (.sub rfl rfl (by omega) (by omega)) rfl rfl rfl rfl ?_; refine .val [] (.add rfl rfl (by omega) (by omega)) rfl rfl rfl rfl ?_; refine DJ.nil ?_; refine .val (.mul rfl rfl (by omega) (by omega)) rfl rfl rfl ?_; refine .val (.min2 rfl rfl) rfl rfl rfl ?_; refine .o rfl ?_; refine WL.nil ?_
    refine Kblock.normal (Kseq.go ?_)
    refine W.region ?_; refine .o rfl ?_; refine .val (.incr rfl (by omega)) rfl rfl rfl ?_; refine .o rfl ?_; refine WL.nil ?_
    exact Kloop.next (k + 1) (by omega) (by omega) ⟨rfl, congrArg (fun x : Int => some (Value.int .i64 x)) (timesTo_succ r k).symm, rfl, trivial⟩ (by simp) (by repeat first | exact .refl _ | refine .cons _ ?_)
  refine W.exit (Kseq.exit (Kloop.exit (Kblock.here (Kseq.go (W.seq ?_)))))
  have hkk : k = r.tn := by unfold House.tn at *; omega
  subst hkk
  refine W.region ?_
  iterate 2 refine .o rfl ?_
  refine WL.nil ?_; refine Kseq.go ?_
  refine W.ret ?_; refine ⟨.inl rfl, [_], h, ⟨.tmp rfl, trivial⟩, (by repeat constructor), ?_⟩
  rfl
end Go.Proofs.YtdnbkjgbehakpaaGreat

/- The reference's functions of chapter 6: Fault. -/
namespace Go.Proofs.YtdnbkjgbehakpaaGreat
open Go Go.Eng Go.RowKit

theorem ask_nil {t : Table} (hV : Valid t) : truths t = [] ↔ ask t = [] := by rw [ask_truths hV]
theorem ex_hit {n k : Nat} {p : Nat → Bool} (hk : k < n) (h : p k = true) : ex n p = true := ex_iff.2 ⟨k, hk, h⟩
/-- Fault -/
theorem fault6R_any {h : Mem} {v : Value} {r : House} (hv : IsHouse h v r) (hs : SmH r) : FnV Tryz.prog 20 #[v] h (vi (fault6 r)) := by
  have hst := hs.table
  have hwn := hst.1
  have hv' := hv
  obtain ⟨wv, pv, kv, tv, bv, sv, f, rfl, hA⟩ := hv
  have hW := hA.W
  have hK := hA.K
  have hT := hA.T
  have hB := hA.B
  have hS := hA.S
  have hTab := hA.table
  have hl := hs.touches
  have hl2 := hs.boiled
  have hl3 := hs.signs
  refine FnR.val ?_
  refine FnR.of_W (n := 175) Tryz.func20 rfl rfl (Nat.le_of_ble_eq_true rfl) fun c hr hD hF => ?_
  refine W.seq ?_; refine W.region ?_
  refine WL.box rfl rfl rfl rfl (fun b1 => ?_)
  refine .o rfl ?_; refine WL.nil ?_
  refine Kseq.go (W.seq (W.seq ?_))
  refine W.toS [(1, .pointer (some ⟨b1, 0, none⟩)), (33, .bool (lim6 r))] ?_ ?_
  · skip
    refine W.region ?_; refine .val (.fieldAddrB rfl) rfl rfl rfl ?_; refine .val (.loadB rfl (.head _) rfl) rfl rfl rfl ?_
    iterate 2 refine .o rfl ?_
    refine WL.split rfl rfl (fun g11 => ?_) (fun g11 => ?_)
    · refine WL.pass rfl rfl rfl ?_
      refine WL.pass rfl rfl rfl ?_; refine WL.pass rfl rfl rfl ?_
      iterate 2 refine .o rfl ?_
      refine WL.pass rfl rfl rfl ?_; refine WL.pass rfl rfl rfl ?_; refine WL.pass rfl rfl rfl ?_; refine WL.pass rfl rfl rfl ?_
      iterate 2 refine .o rfl ?_
      refine WL.pass rfl rfl rfl ?_; refine WL.pass rfl rfl rfl ?_; refine WL.pass rfl rfl rfl ?_; refine WL.pass rfl rfl rfl ?_
      iterate 2 refine .o rfl ?_
      refine WL.pass rfl rfl rfl ?_; refine WL.pass rfl rfl rfl ?_; refine WL.pass rfl rfl rfl ?_; refine WL.pass rfl rfl rfl ?_; refine .o rfl ?_; refine WL.nil ?_
      exact Keff.intro ⟨rfl, congrArg (fun b => some (Value.bool b)) (by unfold lim6; exact (by first | (simp [-List.getD_eq_getElem?_getD]; done) | (simp_all [-List.getD_eq_getElem?_getD]; done) | (simp [-List.getD_eq_getElem?_getD]; omega) | (rw [Bool.eq_iff_iff]; simp [-List.getD_eq_getElem?_getD]; omega) | (simp [-List.getD_eq_getElem?_getD] at *; omega))), trivial⟩ (by simp) (by repeat first | exact .refl _ | refine .cons _ ?_)
    · refine .val (.fieldAddrB rfl) rfl rfl rfl ?_
      refine .val (.loadB rfl (.head _) rfl) rfl rfl rfl ?_
      iterate 3 refine .o rfl ?_
      refine WL.split rfl rfl (fun g16 => ?_) (fun g16 => ?_)
      · refine WL.pass rfl rfl rfl ?_
        refine WL.pass rfl rfl rfl ?_; refine WL.pass rfl rfl rfl ?_; refine WL.pass rfl rfl rfl ?_
        iterate 2 refine .o rfl ?_
        refine WL.pass rfl rfl rfl ?_; refine WL.pass rfl rfl rfl ?_; refine WL.pass rfl rfl rfl ?_; refine WL.pass rfl rfl rfl ?_
        iterate 2 refine .o rfl ?_
        refine WL.pass rfl rfl rfl ?_; refine WL.pass rfl rfl rfl ?_; refine WL.pass rfl rfl rfl ?_; refine WL.pass rfl rfl rfl ?_; refine .o rfl ?_; refine WL.nil ?_
        exact Keff.intro ⟨rfl, congrArg (fun b => some (Value.bool b)) (by unfold lim6; exact (by first | (simp [-List.getD_eq_getElem?_getD]; done) | (simp_all [-List.getD_eq_getElem?_getD]; done) | (simp [-List.getD_eq_getElem?_getD]; omega) | (rw [Bool.eq_iff_iff]; simp [-List.getD_eq_getElem?_getD]; omega) | (simp [-List.getD_eq_getElem?_getD] at *; omega))), trivial⟩ (by simp) (by repeat first | exact .refl _ | refine .cons _ ?_)
      · refine .val (.fieldAddrB rfl) rfl rfl rfl ?_
        refine .val (.loadB rfl (.head _) rfl) rfl rfl rfl ?_; refine .val (.len rfl hT) rfl rfl rfl ?_
        iterate 3 refine .o rfl ?_
        refine WL.split rfl rfl (fun g22 => ?_) (fun g22 => ?_)
        · refine WL.pass rfl rfl rfl ?_
          refine WL.pass rfl rfl rfl ?_; refine WL.pass rfl rfl rfl ?_; refine WL.pass rfl rfl rfl ?_
          iterate 2 refine .o rfl ?_
          refine WL.pass rfl rfl rfl ?_; refine WL.pass rfl rfl rfl ?_; refine WL.pass rfl rfl rfl ?_; refine WL.pass rfl rfl rfl ?_; refine .o rfl ?_; refine WL.nil ?_
          exact Keff.intro ⟨rfl, congrArg (fun b => some (Value.bool b)) (by unfold lim6; exact (by first | (simp [-List.getD_eq_getElem?_getD]; done) | (simp_all [-List.getD_eq_getElem?_getD]; done) | (simp [-List.getD_eq_getElem?_getD]; omega) | (rw [Bool.eq_iff_iff]; simp [-List.getD_eq_getElem?_getD]; omega) | (simp [-List.getD_eq_getElem?_getD] at *; omega))), trivial⟩ (by simp) (by repeat first | exact .refl _ | refine .cons _ ?_)
        · refine .val (.fieldAddrB rfl) rfl rfl rfl ?_
          refine .val (.loadB rfl (.head _) rfl) rfl rfl rfl ?_; refine .val (.len rfl hB) rfl rfl rfl ?_
          iterate 3 refine .o rfl ?_
          refine WL.split rfl rfl (fun g28 => ?_) (fun g28 => ?_)
          · refine WL.pass rfl rfl rfl ?_
            refine WL.pass rfl rfl rfl ?_; refine WL.pass rfl rfl rfl ?_; refine WL.pass rfl rfl rfl ?_; refine .o rfl ?_; refine WL.nil ?_
            exact Keff.intro ⟨rfl, congrArg (fun b => some (Value.bool b)) (by unfold lim6; exact (by first | (simp [-List.getD_eq_getElem?_getD]; done) | (simp_all [-List.getD_eq_getElem?_getD]; done) | (simp [-List.getD_eq_getElem?_getD]; omega) | (rw [Bool.eq_iff_iff]; simp [-List.getD_eq_getElem?_getD]; omega) | (simp [-List.getD_eq_getElem?_getD] at *; omega))), trivial⟩ (by simp) (by repeat first | exact .refl _ | refine .cons _ ?_)
          · refine .val (.fieldAddrB rfl) rfl rfl rfl ?_
            refine .val (.loadB rfl (.head _) rfl) rfl rfl rfl ?_; refine .val (.len rfl hS) rfl rfl rfl ?_
            iterate 2 refine .o rfl ?_
            refine WL.nil ?_
            exact Keff.intro ⟨rfl, congrArg (fun b => some (Value.bool b)) (by unfold lim6; exact (by first | (simp [-List.getD_eq_getElem?_getD]; done) | (simp_all [-List.getD_eq_getElem?_getD]; done) | (simp [-List.getD_eq_getElem?_getD]; omega) | (rw [Bool.eq_iff_iff]; simp [-List.getD_eq_getElem?_getD]; omega) | (simp [-List.getD_eq_getElem?_getD] at *; omega))), trivial⟩ (by simp) (by repeat first | exact .refl _ | refine .cons _ ?_)
  rw [fault6_eq]
  refine Kseq.go ?_
  refine W.cond rfl rfl (fun h1 => ?_) (fun h1 => ?_)
  · refine W.seq ?_
    refine W.region ?_; refine .o rfl ?_; refine WL.nil ?_; refine Kseq.go ?_
    refine W.ret ?_; refine Kseq.ret ?_; refine ⟨.inl rfl, [_], h, ⟨.tmp rfl, trivial⟩, (by repeat constructor), ?_⟩
    rw [if_pos h1]; rfl
  refine W.skip (Kseq.go (W.seq (W.seq ?_)))
  rw [if_neg (by simpa using h1)]
  have hlim := h1
  unfold lim6 at hlim
  rw [decide_eq_false_iff_not] at hlim
  refine W.region ?_; refine .val (.fieldAddrB rfl) rfl rfl rfl ?_; refine .val (.loadBA (vs := [wv, pv, vi r.table.wrong]) rfl (.head _) rfl rfl) rfl rfl rfl ?_; refine .val (.call rfl (fun m hm => faultR_any (hTab.le (by repeat first | exact hm.1 | replace hm := hm.2)) hst)) rfl rfl rfl ?_; refine .o rfl ?_; refine WL.nil ?_
  refine Kseq.go (W.seq ?_)
  refine W.region ?_
  iterate 2 refine .o rfl ?_
  refine WL.nil ?_; refine Kseq.go ?_
  refine W.cond rfl rfl (fun h2 => ?_) (fun h2 => ?_)
  · have he : fault r.table ≠ 0 := by simpa using h2
    have hE : askE r.table = fault r.table := by unfold askE; rw [if_neg he]
    rw [hE, if_pos he]
    refine W.seq ?_; refine W.region ?_
    iterate 2 refine .o rfl ?_
    refine WL.nil ?_; refine Kseq.go ?_
    refine W.ret ?_; refine Kseq.ret ?_; refine ⟨.inl rfl, [_], h, ⟨.tmp rfl, trivial⟩, (by repeat constructor), ?_⟩
    rfl
  have he : fault r.table = 0 := by simpa using h2
  have hV := fault_zero.1 he
  refine W.skip (Kseq.go (W.seq (W.seq ?_)))
  refine W.region ?_; refine .val (.fieldAddrB rfl) rfl rfl rfl ?_; refine .val (.loadBA (vs := [wv, pv, vi r.table.wrong]) rfl (.head _) rfl rfl) rfl rfl rfl ?_; refine WL.abs (OpAbs.call rfl (fun m hm => truths_any (hTab.le (by repeat first | exact hm.1 | replace hm := hm.2)) hst hV.owned)) rfl rfl rfl ?_
  rintro m42 v42 h42
  refine .val ((by obtain ⟨vs, _, hArr⟩ := h42; exact OpVal.len rfl hArr)) rfl rfl rfl ?_
  refine .o rfl ?_; refine WL.nil ?_; refine Kseq.go ?_
  refine W.condD rfl rfl (fun h2 => ?_) (fun h2 => ?_)
  · have hnil : ask r.table = [] := (ask_nil hV).1 (List.length_eq_zero_iff.1 (by omega))
    have hE : askE r.table = 11 := by unfold askE; rw [if_pos he, if_pos hnil]
    rw [hE, if_pos (by decide)]
    refine W.seq ?_; refine W.region ?_; refine .o rfl ?_; refine WL.nil ?_; refine Kseq.go ?_
    refine W.ret ?_; refine Kseq.ret ?_; refine ⟨.inl rfl, [_], h, ⟨.tmp rfl, trivial⟩, (by repeat constructor), ?_⟩
    rfl
  have hsome : ask r.table ≠ [] := fun e => h2 (by rw [(ask_nil hV).2 e]; rfl)
  rw [if_neg (by simpa using askE_zero.2 ⟨hV, hsome⟩)]
  refine W.skip (Kseq.go (W.seq (W.seq ?_)))
  refine W.toS [(1, .pointer (some ⟨b1, 0, none⟩)), (67, .bool (arg6 r))] ?_ ?_
  · skip
    refine W.region ?_; refine .val (.fieldAddrB rfl) rfl rfl rfl ?_; refine .val (.loadB rfl (.head _) rfl) rfl rfl rfl ?_
    iterate 2 refine .o rfl ?_
    refine WL.split rfl rfl (fun g48 => ?_) (fun g48 => ?_)
    · refine WL.pass rfl rfl rfl ?_
      refine WL.pass rfl rfl rfl ?_; refine WL.pass rfl rfl rfl ?_
      iterate 2 refine .o rfl ?_
      refine WL.pass rfl rfl rfl ?_; refine WL.pass rfl rfl rfl ?_; refine WL.pass rfl rfl rfl ?_
      iterate 2 refine .o rfl ?_
      refine WL.pass rfl rfl rfl ?_; refine WL.pass rfl rfl rfl ?_; refine WL.pass rfl rfl rfl ?_; refine WL.pass rfl rfl rfl ?_; refine WL.pass rfl rfl rfl ?_; refine WL.pass rfl rfl rfl ?_; refine WL.pass rfl rfl rfl ?_; refine WL.pass rfl rfl rfl ?_; refine .o rfl ?_; refine WL.nil ?_
      exact Keff.intro ⟨rfl, congrArg (fun b => some (Value.bool b)) (by unfold arg6; first | exact (by first | (simp [-List.getD_eq_getElem?_getD]; done) | (simp_all [-List.getD_eq_getElem?_getD]; done) | (simp [-List.getD_eq_getElem?_getD]; omega) | (rw [Bool.eq_iff_iff]; simp [-List.getD_eq_getElem?_getD]; omega) | (simp [-List.getD_eq_getElem?_getD] at *; omega)) | (rw [Bool.eq_iff_iff]; simp only [Bool.not_eq_true', decide_eq_true_eq]; constructor; (intro h; exact .inr (.inr (.inr h))); (rintro (h | h | h | h) <;> first | omega | exact h))), trivial⟩ (by simp) (by repeat first | exact .refl _ | refine .cons _ ?_)
    · refine .val (.fieldAddrB rfl) rfl rfl rfl ?_
      refine .val (.loadB rfl (.head _) rfl) rfl rfl rfl ?_
      iterate 3 refine .o rfl ?_
      refine WL.split rfl rfl (fun g53 => ?_) (fun g53 => ?_)
      · refine WL.pass rfl rfl rfl ?_
        refine WL.pass rfl rfl rfl ?_; refine WL.pass rfl rfl rfl ?_
        iterate 2 refine .o rfl ?_
        refine WL.pass rfl rfl rfl ?_; refine WL.pass rfl rfl rfl ?_; refine WL.pass rfl rfl rfl ?_; refine WL.pass rfl rfl rfl ?_; refine WL.pass rfl rfl rfl ?_; refine WL.pass rfl rfl rfl ?_; refine WL.pass rfl rfl rfl ?_; refine WL.pass rfl rfl rfl ?_; refine .o rfl ?_; refine WL.nil ?_
        exact Keff.intro ⟨rfl, congrArg (fun b => some (Value.bool b)) (by unfold arg6; first | exact (by first | (simp [-List.getD_eq_getElem?_getD]; done) | (simp_all [-List.getD_eq_getElem?_getD]; done) | (simp [-List.getD_eq_getElem?_getD]; omega) | (rw [Bool.eq_iff_iff]; simp [-List.getD_eq_getElem?_getD]; omega) | (simp [-List.getD_eq_getElem?_getD] at *; omega)) | (rw [Bool.eq_iff_iff]; simp only [Bool.not_eq_true', decide_eq_true_eq]; constructor; (intro h; exact .inr (.inr (.inr h))); (rintro (h | h | h | h) <;> first | omega | exact h))), trivial⟩ (by simp) (by repeat first | exact .refl _ | refine .cons _ ?_)
      · refine .val (.loadBW rfl (.head _) rfl) rfl rfl rfl ?_
        refine .val (.cast (.call rfl (fun m hm => thingsR_any (hv'.le (by repeat first | exact hm.1 | replace hm := hm.2)))) (congrArg (Value.int .i64) (FitH.eq ⟨by unfold House.things; omega, by unfold House.things House.np; have := hst.2.1; omega⟩))) rfl rfl rfl ?_
        iterate 3 refine .o rfl ?_
        refine WL.split rfl rfl (fun g58 => ?_) (fun g58 => ?_)
        · refine WL.pass rfl rfl rfl ?_
          refine WL.pass rfl rfl rfl ?_; refine WL.pass rfl rfl rfl ?_; refine WL.pass rfl rfl rfl ?_; refine WL.pass rfl rfl rfl ?_; refine WL.pass rfl rfl rfl ?_; refine WL.pass rfl rfl rfl ?_; refine WL.pass rfl rfl rfl ?_; refine .o rfl ?_; refine WL.nil ?_
          exact Keff.intro ⟨rfl, congrArg (fun b => some (Value.bool b)) (by unfold arg6; first | exact (by first | (simp [-List.getD_eq_getElem?_getD]; done) | (simp_all [-List.getD_eq_getElem?_getD]; done) | (simp [-List.getD_eq_getElem?_getD]; omega) | (rw [Bool.eq_iff_iff]; simp [-List.getD_eq_getElem?_getD]; omega) | (simp [-List.getD_eq_getElem?_getD] at *; omega)) | (rw [Bool.eq_iff_iff]; simp only [Bool.not_eq_true', decide_eq_true_eq]; constructor; (intro h; exact .inr (.inr (.inr h))); (rintro (h | h | h | h) <;> first | omega | exact h))), trivial⟩ (by simp) (by repeat first | exact .refl _ | refine .cons _ ?_)
        · refine .val (.fieldAddrB rfl) rfl rfl rfl ?_
          refine .val (.loadB rfl (.head _) rfl) rfl rfl rfl ?_; refine .val (.fieldAddrB rfl) rfl rfl rfl ?_; refine .val (.fieldAddrB rfl) rfl rfl rfl ?_; refine .val (.loadB rfl (.head _) rfl) rfl rfl rfl ?_; refine .val (.len rfl hW) rfl rfl rfl ?_; refine .val (.call rfl (fun m hm => areRising_any (by omega) (hK.le (by repeat first | exact hm.1 | replace hm := hm.2)))) rfl rfl rfl ?_
          iterate 2 refine .o rfl ?_
          refine WL.nil ?_
          exact Keff.intro ⟨rfl, congrArg (fun b => some (Value.bool b)) (by unfold arg6; first | exact (by first | (simp [-List.getD_eq_getElem?_getD]; done) | (simp_all [-List.getD_eq_getElem?_getD]; done) | (simp [-List.getD_eq_getElem?_getD]; omega) | (rw [Bool.eq_iff_iff]; simp [-List.getD_eq_getElem?_getD]; omega) | (simp [-List.getD_eq_getElem?_getD] at *; omega)) | (rw [Bool.eq_iff_iff]; simp only [Bool.not_eq_true', decide_eq_true_eq]; constructor; (intro h; exact .inr (.inr (.inr h))); (rintro (h | h | h | h) <;> first | omega | exact h))), trivial⟩ (by simp) (by repeat first | exact .refl _ | refine .cons _ ?_)
  refine Kseq.go ?_
  refine W.cond rfl rfl (fun h3 => ?_) (fun h3 => ?_)
  · refine W.seq ?_
    refine W.region ?_; refine .o rfl ?_; refine WL.nil ?_; refine Kseq.go ?_
    refine W.ret ?_; refine Kseq.ret ?_; refine ⟨.inl rfl, [_], h, ⟨.tmp rfl, trivial⟩, (by repeat constructor), ?_⟩
    rw [if_pos h3]; rfl
  refine W.skip (Kseq.go (W.seq (W.seq ?_)))
  rw [if_neg (by simpa using h3)]
  have harg := h3
  unfold arg6 at harg
  rw [decide_eq_false_iff_not] at harg
  have hfit : FitH r := ⟨by unfold House.things at *; omega, by omega⟩
  refine W.region ?_; refine .o rfl ?_; refine WL.nil ?_
  refine Kseq.go (W.block ?_)
  refine W.loop (σ := Nat) (fun k => [(1, .pointer (some ⟨b1, 0, none⟩)), (4, vi (k : Int))]) (fun _ => [h]) (fun _ => [.blk b1 (hcs wv pv kv tv bv sv r) 31]) (fun k => k ≤ r.touches.length ∧ ∀ i, i < k → (!touchOk r (r.touches.getD i default)) = false) (fun k => r.touches.length - k) 0 ⟨rfl, rfl, trivial⟩ (by simp) (by repeat first | exact .refl _ | refine .cons _ ?_) ⟨Nat.zero_le _, fun i hi => absurd hi (Nat.not_lt_zero _)⟩ ?_
  rintro k ⟨hk, hall⟩
  refine W.seq (W.seq ?_)
  refine W.region ?_; refine .o rfl ?_; refine .val (.fieldAddrB rfl) rfl rfl rfl ?_; refine .val (.loadB rfl (.head _) rfl) rfl rfl rfl ?_; refine .val (.len rfl hT) rfl rfl rfl ?_; refine .o rfl ?_; refine WL.nil ?_; refine Kseq.go ?_
  refine W.condD rfl rfl (fun hlt => ?_) (fun hge => ?_)
  · have hkl : k < r.touches.length := by omega
    obtain ⟨t, ht⟩ : ∃ t, r.touches.getD k default = t := ⟨_, rfl⟩
    refine W.skip (Kseq.go (W.seq (W.block (W.seq ?_))))
    refine W.region ?_; refine .val (.fieldAddrB rfl) rfl rfl rfl ?_; refine .val (.loadB rfl (.head _) rfl) rfl rfl rfl ?_; refine .o rfl ?_; refine .val (.indexAddrN rfl rfl hT hkl) rfl rfl rfl ?_
    refine .val (.cast (.loadEA rfl hT (by repeat constructor) hkl) (show _ = Value.agg #[vi t.a, vi t.b, vi t.lo, vi t.hi] from by rw [← ht]; rfl)) rfl rfl rfl ?_
    refine WL.alloc rfl rfl rfl (fun b5 => ?_)
    refine WL.store [_, _, _, _] rfl (.head _) rfl rfl rfl (Nat.le_of_ble_eq_true rfl) (by first | (simp [Value.cells, Value.oneCell']; done) | exact IsArr.ones hW (by omega) | exact IsArr.ones hP (by omega) | exact IsArr.ones hS (by omega) | exact IsArr.ones hH (by omega) | exact IsArr.ones hL (by omega) | exact IsArr.ones hB (by omega) | exact IsArr.ones hT (by omega) | exact IsArr.ones hm (by omega)) rfl ?_
    refine WL.nil ?_
    refine Kseq.go (W.seq ?_)
    obtain ⟨p1, e1⟩ : ∃ p, isThing r t.a = p := ⟨_, rfl⟩
    obtain ⟨p2, e2⟩ : ∃ p, isThing r t.b = p := ⟨_, rfl⟩
    obtain ⟨p3, e3⟩ : ∃ p, isHour r t.lo = p := ⟨_, rfl⟩
    obtain ⟨p4, e4⟩ : ∃ p, isHour r t.hi = p := ⟨_, rfl⟩
    refine W.toS [(1, .pointer (some ⟨b1, 0, none⟩)), (4, vi (k : Int)), (123, .bool (!touchOk r t))] ?_ ?_
    · skip
      refine W.region ?_; refine .val (.loadBW rfl (.tail _ (.head _)) rfl) rfl rfl rfl ?_; refine .val (.fieldAddrB rfl) rfl rfl rfl ?_; refine .val (.loadB rfl (.head _) rfl) rfl rfl rfl ?_; refine .val (.cast (.call rfl (fun m hm => isThingR_any _ (hv'.le (by repeat first | exact hm.1 | replace hm := hm.2)))) (congrArg Value.bool ((thingW_eq hfit _).trans e1))) rfl rfl rfl ?_
      iterate 2 refine .o rfl ?_
      refine WL.splitB rfl rfl (fun g85 => ?_) (fun g85 => ?_)
      · refine WL.pass rfl rfl rfl ?_
        refine WL.pass rfl rfl rfl ?_; refine WL.pass rfl rfl rfl ?_; refine WL.pass rfl rfl rfl ?_; refine WL.pass rfl rfl rfl ?_
        iterate 2 refine .o rfl ?_
        refine WL.pass rfl rfl rfl ?_; refine WL.pass rfl rfl rfl ?_; refine WL.pass rfl rfl rfl ?_; refine WL.pass rfl rfl rfl ?_; refine WL.pass rfl rfl rfl ?_
        iterate 2 refine .o rfl ?_
        refine WL.pass rfl rfl rfl ?_; refine WL.pass rfl rfl rfl ?_; refine WL.pass rfl rfl rfl ?_; refine WL.pass rfl rfl rfl ?_; refine WL.pass rfl rfl rfl ?_; refine WL.pass rfl rfl rfl ?_
        iterate 2 refine .o rfl ?_
        refine WL.pass rfl rfl rfl ?_; refine WL.pass rfl rfl rfl ?_; refine WL.pass rfl rfl rfl ?_; refine WL.pass rfl rfl rfl ?_; refine WL.pass rfl rfl rfl ?_; refine WL.pass rfl rfl rfl ?_
        iterate 2 refine .o rfl ?_
        refine WL.pass rfl rfl rfl ?_; refine WL.pass rfl rfl rfl ?_; refine WL.pass rfl rfl rfl ?_; refine WL.pass rfl rfl rfl ?_; refine WL.pass rfl rfl rfl ?_; refine WL.pass rfl rfl rfl ?_; refine WL.pass rfl rfl rfl ?_; refine .o rfl ?_; refine WL.nil ?_
        exact Keff.intro ⟨rfl, rfl, congrArg (fun b => some (Value.bool b)) (by unfold touchOk; rw [e1, e2, e3, e4]; clear hall hlim harg e1 e2 e3 e4; first | exact (by first | (simp [-List.getD_eq_getElem?_getD]; done) | (simp_all [-List.getD_eq_getElem?_getD]; done) | (simp [-List.getD_eq_getElem?_getD]; omega) | (rw [Bool.eq_iff_iff]; simp [-List.getD_eq_getElem?_getD]; omega) | (simp [-List.getD_eq_getElem?_getD] at *; omega)) | (simp_all; rw [← decide_not]; exact decide_eq_decide.2 (by omega))), trivial⟩ (by simp) (by repeat first | exact .refl _ | refine .cons _ ?_)
      · refine .val (.loadBW rfl (.tail _ (.head _)) rfl) rfl rfl rfl ?_
        refine .val (.fieldAddrB rfl) rfl rfl rfl ?_; refine .val (.loadB rfl (.head _) rfl) rfl rfl rfl ?_; refine .val (.cast (.call rfl (fun m hm => isThingR_any _ (hv'.le (by repeat first | exact hm.1 | replace hm := hm.2)))) (congrArg Value.bool ((thingW_eq hfit _).trans e2))) rfl rfl rfl ?_
        iterate 3 refine .o rfl ?_
        refine WL.splitB rfl rfl (fun g92 => ?_) (fun g92 => ?_)
        · refine WL.pass rfl rfl rfl ?_
          refine WL.pass rfl rfl rfl ?_; refine WL.pass rfl rfl rfl ?_; refine WL.pass rfl rfl rfl ?_; refine WL.pass rfl rfl rfl ?_
          iterate 2 refine .o rfl ?_
          refine WL.pass rfl rfl rfl ?_; refine WL.pass rfl rfl rfl ?_; refine WL.pass rfl rfl rfl ?_; refine WL.pass rfl rfl rfl ?_; refine WL.pass rfl rfl rfl ?_; refine WL.pass rfl rfl rfl ?_
          iterate 2 refine .o rfl ?_
          refine WL.pass rfl rfl rfl ?_; refine WL.pass rfl rfl rfl ?_; refine WL.pass rfl rfl rfl ?_; refine WL.pass rfl rfl rfl ?_; refine WL.pass rfl rfl rfl ?_; refine WL.pass rfl rfl rfl ?_
          iterate 2 refine .o rfl ?_
          refine WL.pass rfl rfl rfl ?_; refine WL.pass rfl rfl rfl ?_; refine WL.pass rfl rfl rfl ?_; refine WL.pass rfl rfl rfl ?_; refine WL.pass rfl rfl rfl ?_; refine WL.pass rfl rfl rfl ?_; refine WL.pass rfl rfl rfl ?_; refine .o rfl ?_; refine WL.nil ?_
          exact Keff.intro ⟨rfl, rfl, congrArg (fun b => some (Value.bool b)) (by unfold touchOk; rw [e1, e2, e3, e4]; clear hall hlim harg e1 e2 e3 e4; first | exact (by first | (simp [-List.getD_eq_getElem?_getD]; done) | (simp_all [-List.getD_eq_getElem?_getD]; done) | (simp [-List.getD_eq_getElem?_getD]; omega) | (rw [Bool.eq_iff_iff]; simp [-List.getD_eq_getElem?_getD]; omega) | (simp [-List.getD_eq_getElem?_getD] at *; omega)) | (simp_all; rw [← decide_not]; exact decide_eq_decide.2 (by omega))), trivial⟩ (by simp) (by repeat first | exact .refl _ | refine .cons _ ?_)
        · refine .val (.fieldAddrB rfl) rfl rfl rfl ?_
          refine .val (.loadB rfl (.head _) rfl) rfl rfl rfl ?_; refine .val (.fieldAddrB rfl) rfl rfl rfl ?_; refine .val (.loadB rfl (.head _) rfl) rfl rfl rfl ?_
          iterate 3 refine .o rfl ?_
          refine WL.split rfl rfl (fun g99 => ?_) (fun g99 => ?_)
          · refine WL.pass rfl rfl rfl ?_
            refine WL.pass rfl rfl rfl ?_; refine WL.pass rfl rfl rfl ?_; refine WL.pass rfl rfl rfl ?_; refine WL.pass rfl rfl rfl ?_; refine WL.pass rfl rfl rfl ?_
            iterate 2 refine .o rfl ?_
            refine WL.pass rfl rfl rfl ?_; refine WL.pass rfl rfl rfl ?_; refine WL.pass rfl rfl rfl ?_; refine WL.pass rfl rfl rfl ?_; refine WL.pass rfl rfl rfl ?_; refine WL.pass rfl rfl rfl ?_
            iterate 2 refine .o rfl ?_
            refine WL.pass rfl rfl rfl ?_; refine WL.pass rfl rfl rfl ?_; refine WL.pass rfl rfl rfl ?_; refine WL.pass rfl rfl rfl ?_; refine WL.pass rfl rfl rfl ?_; refine WL.pass rfl rfl rfl ?_; refine WL.pass rfl rfl rfl ?_; refine .o rfl ?_; refine WL.nil ?_
            exact Keff.intro ⟨rfl, rfl, congrArg (fun b => some (Value.bool b)) (by unfold touchOk; rw [e1, e2, e3, e4]; clear hall hlim harg e1 e2 e3 e4; first | exact (by first | (simp [-List.getD_eq_getElem?_getD]; done) | (simp_all [-List.getD_eq_getElem?_getD]; done) | (simp [-List.getD_eq_getElem?_getD]; omega) | (rw [Bool.eq_iff_iff]; simp [-List.getD_eq_getElem?_getD]; omega) | (simp [-List.getD_eq_getElem?_getD] at *; omega)) | (simp_all; rw [← decide_not]; exact decide_eq_decide.2 (by omega))), trivial⟩ (by simp) (by repeat first | exact .refl _ | refine .cons _ ?_)
          · refine .val (.loadBW rfl (.tail _ (.head _)) rfl) rfl rfl rfl ?_
            refine .val (.fieldAddrB rfl) rfl rfl rfl ?_; refine .val (.fieldAddrB rfl) rfl rfl rfl ?_; refine .val (.loadB rfl (.head _) rfl) rfl rfl rfl ?_; refine .val (.cast (.call rfl (fun m hm => isHourR_any _ (hv'.le (by repeat first | exact hm.1 | replace hm := hm.2)))) (congrArg Value.bool e3)) rfl rfl rfl ?_
            iterate 3 refine .o rfl ?_
            refine WL.splitB rfl rfl (fun g107 => ?_) (fun g107 => ?_)
            · refine WL.pass rfl rfl rfl ?_
              refine WL.pass rfl rfl rfl ?_; refine WL.pass rfl rfl rfl ?_; refine WL.pass rfl rfl rfl ?_; refine WL.pass rfl rfl rfl ?_; refine WL.pass rfl rfl rfl ?_
              iterate 2 refine .o rfl ?_
              refine WL.pass rfl rfl rfl ?_; refine WL.pass rfl rfl rfl ?_; refine WL.pass rfl rfl rfl ?_; refine WL.pass rfl rfl rfl ?_; refine WL.pass rfl rfl rfl ?_; refine WL.pass rfl rfl rfl ?_; refine WL.pass rfl rfl rfl ?_; refine .o rfl ?_; refine WL.nil ?_
              exact Keff.intro ⟨rfl, rfl, congrArg (fun b => some (Value.bool b)) (by unfold touchOk; rw [e1, e2, e3, e4]; clear hall hlim harg e1 e2 e3 e4; first | exact (by first | (simp [-List.getD_eq_getElem?_getD]; done) | (simp_all [-List.getD_eq_getElem?_getD]; done) | (simp [-List.getD_eq_getElem?_getD]; omega) | (rw [Bool.eq_iff_iff]; simp [-List.getD_eq_getElem?_getD]; omega) | (simp [-List.getD_eq_getElem?_getD] at *; omega)) | (simp_all; rw [← decide_not]; exact decide_eq_decide.2 (by omega))), trivial⟩ (by simp) (by repeat first | exact .refl _ | refine .cons _ ?_)
            · refine .val (.loadBW rfl (.tail _ (.head _)) rfl) rfl rfl rfl ?_
              refine .val (.fieldAddrB rfl) rfl rfl rfl ?_; refine .val (.fieldAddrB rfl) rfl rfl rfl ?_; refine .val (.loadB rfl (.head _) rfl) rfl rfl rfl ?_; refine .val (.cast (.call rfl (fun m hm => isHourR_any _ (hv'.le (by repeat first | exact hm.1 | replace hm := hm.2)))) (congrArg Value.bool e4)) rfl rfl rfl ?_
              iterate 3 refine .o rfl ?_
              refine WL.splitB rfl rfl (fun g115 => ?_) (fun g115 => ?_)
              · refine WL.pass rfl rfl rfl ?_
                refine WL.pass rfl rfl rfl ?_; refine WL.pass rfl rfl rfl ?_; refine WL.pass rfl rfl rfl ?_; refine WL.pass rfl rfl rfl ?_; refine WL.pass rfl rfl rfl ?_; refine WL.pass rfl rfl rfl ?_; refine .o rfl ?_; refine WL.nil ?_
                exact Keff.intro ⟨rfl, rfl, congrArg (fun b => some (Value.bool b)) (by unfold touchOk; rw [e1, e2, e3, e4]; clear hall hlim harg e1 e2 e3 e4; first | exact (by first | (simp [-List.getD_eq_getElem?_getD]; done) | (simp_all [-List.getD_eq_getElem?_getD]; done) | (simp [-List.getD_eq_getElem?_getD]; omega) | (rw [Bool.eq_iff_iff]; simp [-List.getD_eq_getElem?_getD]; omega) | (simp [-List.getD_eq_getElem?_getD] at *; omega)) | (simp_all; rw [← decide_not]; exact decide_eq_decide.2 (by omega))), trivial⟩ (by simp) (by repeat first | exact .refl _ | refine .cons _ ?_)
              · refine .val (.fieldAddrB rfl) rfl rfl rfl ?_
                refine .val (.fieldAddrB rfl) rfl rfl rfl ?_; refine .val (.loadB rfl (.head _) rfl) rfl rfl rfl ?_; refine .val (.fieldAddrB rfl) rfl rfl rfl ?_; refine .val (.fieldAddrB rfl) rfl rfl rfl ?_; refine .val (.loadB rfl (.head _) rfl) rfl rfl rfl ?_
                iterate 2 refine .o rfl ?_
                refine WL.nil ?_
                exact Keff.intro ⟨rfl, rfl, congrArg (fun b => some (Value.bool b)) (by unfold touchOk; rw [e1, e2, e3, e4]; clear hall hlim harg e1 e2 e3 e4; first | exact (by first | (simp [-List.getD_eq_getElem?_getD]; done) | (simp_all [-List.getD_eq_getElem?_getD]; done) | (simp [-List.getD_eq_getElem?_getD]; omega) | (rw [Bool.eq_iff_iff]; simp [-List.getD_eq_getElem?_getD]; omega) | (simp [-List.getD_eq_getElem?_getD] at *; omega)) | (simp_all; rw [← decide_not]; exact decide_eq_decide.2 (by omega))), trivial⟩ (by simp) (by repeat first | exact .refl _ | refine .cons _ ?_)
    refine Kseq.go ?_
    refine W.cond rfl rfl (fun hb => ?_) (fun hb => ?_)
    · have hbad : bad6 r = true := by unfold bad6 badOf; rw [ex_hit hkl (by rw [ht]; exact hb)]; rfl
      refine W.seq ?_; refine W.region ?_; refine .o rfl ?_; refine WL.nil ?_; refine Kseq.go ?_
      refine W.ret ?_; refine Kblock.ret (Kseq.ret (Kloop.ret (Kblock.ret (Kseq.ret ?_)))); refine ⟨.inl rfl, [_], h, ⟨.tmp rfl, trivial⟩, (by repeat constructor), ?_⟩
      rw [if_pos hbad]; rfl
    · refine W.skip (Kblock.normal (Kseq.go ?_))
      refine W.region ?_; refine .o rfl ?_; refine .val (.incr rfl (by omega)) rfl rfl rfl ?_; refine .o rfl ?_; refine WL.nil ?_
      refine Kloop.next (k + 1) ⟨hkl, fun i hi => ?_⟩ (by omega) ⟨rfl, rfl, trivial⟩ (by simp) (by repeat first | exact .refl _ | refine .cons _ ?_)
      rcases Nat.lt_succ_iff_lt_or_eq.1 hi with h2 | rfl
      · exact hall i h2
      · rw [ht]; exact hb
  have hkk : k = r.touches.length := by omega
  subst hkk
  have hbT : badOf r.touches (touchOk r) = false := ex_no.2 hall
  refine W.exit (Kseq.exit (Kloop.exit (Kblock.here (Kseq.go (W.seq (W.seq ?_))))))
  refine W.region ?_; refine .o rfl ?_; refine WL.nil ?_
  refine Kseq.go (W.block ?_)
  refine W.loop (σ := Nat) (fun k => [(1, .pointer (some ⟨b1, 0, none⟩)), (6, vi (k : Int))]) (fun _ => [h]) (fun _ => [.blk b1 (hcs wv pv kv tv bv sv r) 31]) (fun k => k ≤ r.boiled.length ∧ ∀ i, i < k → (!boilOk r (r.boiled.getD i default)) = false) (fun k => r.boiled.length - k) 0 ⟨rfl, rfl, trivial⟩ (by simp) (by repeat first | exact .refl _ | refine .cons _ ?_) ⟨Nat.zero_le _, fun i hi => absurd hi (Nat.not_lt_zero _)⟩ ?_
  rintro k ⟨hk, hall⟩
  refine W.seq (W.seq ?_)
  refine W.region ?_; refine .o rfl ?_; refine .val (.fieldAddrB rfl) rfl rfl rfl ?_; refine .val (.loadB rfl (.head _) rfl) rfl rfl rfl ?_; refine .val (.len rfl hB) rfl rfl rfl ?_; refine .o rfl ?_; refine WL.nil ?_; refine Kseq.go ?_
  refine W.condD rfl rfl (fun hlt => ?_) (fun hge => ?_)
  · have hkl : k < r.boiled.length := by omega
    obtain ⟨t, ht⟩ : ∃ t, r.boiled.getD k default = t := ⟨_, rfl⟩
    obtain ⟨p1, e1⟩ : ∃ p, isThing r t.thing = p := ⟨_, rfl⟩
    obtain ⟨p2, e2⟩ : ∃ p, isHour r t.hour = p := ⟨_, rfl⟩
    refine W.skip (Kseq.go (W.seq (W.block (W.seq ?_))))
    refine W.toS [(1, .pointer (some ⟨b1, 0, none⟩)), (6, vi (k : Int)), (150, .bool (!boilOk r t))] ?_ ?_
    · skip
      refine W.draw 17 (by kernel_rfl) (by kernel_rfl) (by kernel_rfl) rfl ?_; refine .val [] (.loadBW rfl (.head _) rfl) rfl rfl rfl rfl ?_; refine .val [] (.fieldAddrB rfl) rfl rfl rfl rfl ?_; refine .val [] (.loadB rfl (.head _) rfl) rfl rfl rfl rfl ?_; refine .val [] (.opv rfl) rfl rfl rfl rfl ?_; refine .val [] (.indexAddrN rfl rfl hB hkl) rfl rfl rfl rfl ?_; refine .val [] (.fieldAddrN rfl hB hkl) rfl rfl rfl rfl ?_
      refine .val [] (.cast (.loadE rfl hB (by repeat constructor) hkl (by omega)) (show _ = vi t.thing from by rw [← ht]; rfl)) rfl rfl rfl rfl ?_
      refine .val [] (.cast (.call rfl (fun m hm => isThingR_any _ (hv'.le (by repeat first | exact hm.1 | replace hm := hm.2)))) (congrArg Value.bool ((thingW_eq hfit _).trans e1))) rfl rfl rfl rfl ?_; refine .val [] (.opv rfl) rfl rfl rfl rfl ?_; refine .val [] (.opv rfl) rfl rfl rfl rfl ?_
      refine DJ.splitB rfl rfl (fun g140 => ?_) (fun g140 => ?_)
      · refine DJ.pass rfl rfl rfl rfl ?_
        refine DJ.pass rfl rfl rfl rfl ?_; refine DJ.pass rfl rfl rfl rfl ?_; refine DJ.pass rfl rfl rfl rfl ?_; refine DJ.pass rfl rfl rfl rfl ?_; refine DJ.pass rfl rfl rfl rfl ?_; refine DJ.pass rfl rfl rfl rfl ?_; refine DJ.nil ?_; refine WL.pass rfl rfl rfl ?_; refine WL.pass rfl rfl rfl ?_; refine .o rfl ?_; refine WL.nil ?_
        exact Keff.intro ⟨rfl, rfl, congrArg (fun b => some (Value.bool b)) (by unfold boilOk; rw [e1, e2]; clear hall hlim harg e1 e2; first | exact (by first | (simp [-List.getD_eq_getElem?_getD]; done) | (simp_all [-List.getD_eq_getElem?_getD]; done) | (simp [-List.getD_eq_getElem?_getD]; omega) | (rw [Bool.eq_iff_iff]; simp [-List.getD_eq_getElem?_getD]; omega) | (simp [-List.getD_eq_getElem?_getD] at *; omega)) | (simp [*]; done)), trivial⟩ (by simp) (by repeat first | exact .refl _ | refine .cons _ ?_)
      · refine .val [] (.loadBW rfl (.head _) rfl) rfl rfl rfl rfl ?_
        refine .val [] (.fieldAddrB rfl) rfl rfl rfl rfl ?_; refine .val [] (.loadB rfl (.head _) rfl) rfl rfl rfl rfl ?_; refine .val [] (.opv rfl) rfl rfl rfl rfl ?_; refine .val [] (.indexAddrN rfl rfl hB hkl) rfl rfl rfl rfl ?_; refine .val [] (.fieldAddrN rfl hB hkl) rfl rfl rfl rfl ?_
        refine .val [] (.cast (.loadE rfl hB (by repeat constructor) hkl (by omega)) (show _ = vi t.hour from by rw [← ht]; rfl)) rfl rfl rfl rfl ?_
        refine DJ.nil ?_; refine .val (.cast (.call rfl (fun m hm => isHourR_any _ (hv'.le (by repeat first | exact hm.1 | replace hm := hm.2)))) (congrArg Value.bool e2)) rfl rfl rfl ?_
        iterate 2 refine .o rfl ?_
        refine WL.nil ?_
        exact Keff.intro ⟨rfl, rfl, congrArg (fun b => some (Value.bool b)) (by unfold boilOk; rw [e1, e2]; clear hall hlim harg e1 e2; first | exact (by first | (simp [-List.getD_eq_getElem?_getD]; done) | (simp_all [-List.getD_eq_getElem?_getD]; done) | (simp [-List.getD_eq_getElem?_getD]; omega) | (rw [Bool.eq_iff_iff]; simp [-List.getD_eq_getElem?_getD]; omega) | (simp [-List.getD_eq_getElem?_getD] at *; omega)) | (simp [*]; done)), trivial⟩ (by simp) (by repeat first | exact .refl _ | refine .cons _ ?_)
    refine Kseq.go ?_
    refine W.cond rfl rfl (fun hb => ?_) (fun hb => ?_)
    · have hbad : bad6 r = true := by unfold bad6; rw [show badOf r.boiled (boilOk r) = true from ex_hit hkl (by rw [ht]; exact hb)]; simp
      refine W.seq ?_; refine W.region ?_; refine .o rfl ?_; refine WL.nil ?_; refine Kseq.go ?_
      refine W.ret ?_; refine Kblock.ret (Kseq.ret (Kloop.ret (Kblock.ret (Kseq.ret ?_)))); refine ⟨.inl rfl, [_], h, ⟨.tmp rfl, trivial⟩, (by repeat constructor), ?_⟩
      rw [if_pos hbad]; rfl
    · refine W.skip (Kblock.normal (Kseq.go ?_))
      refine W.region ?_; refine .o rfl ?_; refine .val (.incr rfl (by omega)) rfl rfl rfl ?_; refine .o rfl ?_; refine WL.nil ?_
      refine Kloop.next (k + 1) ⟨hkl, fun i hi => ?_⟩ (by omega) ⟨rfl, rfl, trivial⟩ (by simp) (by repeat first | exact .refl _ | refine .cons _ ?_)
      rcases Nat.lt_succ_iff_lt_or_eq.1 hi with h2 | rfl
      · exact hall i h2
      · rw [ht]; exact hb
  have hkk : k = r.boiled.length := by omega
  subst hkk
  have hbB : badOf r.boiled (boilOk r) = false := ex_no.2 hall
  refine W.exit (Kseq.exit (Kloop.exit (Kblock.here (Kseq.go (W.seq (W.seq ?_))))))
  refine W.region ?_; refine .o rfl ?_; refine WL.nil ?_
  refine Kseq.go (W.block ?_)
  refine W.loop (σ := Nat) (fun k => [(1, .pointer (some ⟨b1, 0, none⟩)), (7, vi (k : Int))]) (fun _ => [h]) (fun _ => [.blk b1 (hcs wv pv kv tv bv sv r) 31]) (fun k => k ≤ r.signs.length ∧ ∀ i, i < k → (!signOk r (r.signs.getD i default)) = false) (fun k => r.signs.length - k) 0 ⟨rfl, rfl, trivial⟩ (by simp) (by repeat first | exact .refl _ | refine .cons _ ?_) ⟨Nat.zero_le _, fun i hi => absurd hi (Nat.not_lt_zero _)⟩ ?_
  rintro k ⟨hk, hall⟩
  refine W.seq (W.seq ?_)
  refine W.region ?_; refine .o rfl ?_; refine .val (.fieldAddrB rfl) rfl rfl rfl ?_; refine .val (.loadB rfl (.head _) rfl) rfl rfl rfl ?_; refine .val (.len rfl hS) rfl rfl rfl ?_; refine .o rfl ?_; refine WL.nil ?_; refine Kseq.go ?_
  refine W.condD rfl rfl (fun hlt => ?_) (fun hge => ?_)
  · have hkl : k < r.signs.length := by omega
    refine W.skip (Kseq.go (W.seq (W.block (W.seq ?_))))
    refine W.draw 7 (by kernel_rfl) (by kernel_rfl) (by kernel_rfl) rfl ?_; refine .val [] (.loadBW rfl (.head _) rfl) rfl rfl rfl rfl ?_; refine .val [] (.fieldAddrB rfl) rfl rfl rfl rfl ?_; refine .val [] (.loadB rfl (.head _) rfl) rfl rfl rfl rfl ?_; refine .val [] (.opv rfl) rfl rfl rfl rfl ?_; refine .val [] (.indexAddrN rfl rfl hS hkl) rfl rfl rfl rfl ?_; refine .val [] (.fieldAddrN rfl hS hkl) rfl rfl rfl rfl ?_; refine .val [] (.cast (.loadE rfl hS (by repeat constructor) hkl (by omega)) (show _ = vi (r.signs.getD k default).thing from rfl)) rfl rfl rfl rfl ?_; refine DJ.nil ?_; refine .val (.cast (.call rfl (fun m hm => isThingR_any _ (hv'.le (by repeat first | exact hm.1 | replace hm := hm.2)))) (congrArg Value.bool (thingW_eq hfit _))) rfl rfl rfl ?_; refine .o rfl ?_; refine WL.nil ?_; refine Kseq.go ?_
    refine W.cond rfl rfl (fun hb => ?_) (fun hb => ?_)
    · have hbad : bad6 r = true := by unfold bad6; rw [show badOf r.signs (signOk r) = true from ex_hit hkl hb]; simp
      refine W.seq ?_; refine W.region ?_; refine .o rfl ?_; refine WL.nil ?_; refine Kseq.go ?_
      refine W.ret ?_; refine Kblock.ret (Kseq.ret (Kloop.ret (Kblock.ret (Kseq.ret ?_)))); refine ⟨.inl rfl, [_], h, ⟨.tmp rfl, trivial⟩, (by repeat constructor), ?_⟩
      rw [if_pos hbad]; rfl
    · refine W.skip (Kblock.normal (Kseq.go ?_))
      refine W.region ?_; refine .o rfl ?_; refine .val (.incr rfl (by omega)) rfl rfl rfl ?_; refine .o rfl ?_; refine WL.nil ?_
      refine Kloop.next (k + 1) ⟨hkl, fun i hi => ?_⟩ (by omega) ⟨rfl, rfl, trivial⟩ (by simp) (by repeat first | exact .refl _ | refine .cons _ ?_)
      rcases Nat.lt_succ_iff_lt_or_eq.1 hi with h2 | rfl
      · exact hall i h2
      · exact hb
  have hkk : k = r.signs.length := by omega
  subst hkk
  have hbS : badOf r.signs (signOk r) = false := ex_no.2 hall
  have hok : bad6 r = false := by unfold bad6; rw [hbT, hbB, hbS]; rfl
  rw [if_neg (by rw [hok]; exact Bool.false_ne_true)]
  have hz := touchZ hbT (by omega)
  have hmp := manyTo_pos r.table r.table.pieces.length
  have hmp' : 0 ≤ many r.table ∧ many r.table ≤ 3000 := hmp
  have htp := timesTo_pos (fun i hi => (hz i hi).2.1) r.tn (Nat.le_refl _)
  have htp' : 1 ≤ times r ∧ times r ≤ 3000 := htp
  have hmul : many r.table * times r ≤ 3000 * 3000 := Int.mul_le_mul hmp'.2 htp'.2 (by omega) (by omega)
  have hmul0 : 0 ≤ many r.table * times r := Int.mul_nonneg hmp'.1 (by omega)
  refine W.exit (Kseq.exit (Kloop.exit (Kblock.here (Kseq.go (W.seq (W.seq ?_))))))
  refine W.draw 4 (by kernel_rfl) (by kernel_rfl) (by kernel_rfl) rfl ?_; refine .val [] (.fieldAddrB rfl) rfl rfl rfl rfl ?_; refine .val [] (.loadBA (vs := [wv, pv, vi r.table.wrong]) rfl (.head _) rfl rfl) rfl rfl rfl rfl ?_; refine .val [] (.call rfl (fun m hm => many_any (hTab.le (by repeat first | exact hm.1 | replace hm := hm.2)) hst)) rfl rfl rfl rfl ?_; refine .val [] (.loadBW rfl (.head _) rfl) rfl rfl rfl rfl ?_; refine DJ.nil ?_; refine .val (.call rfl (fun m hm => times_any (hv'.le (by repeat first | exact hm.1 | replace hm := hm.2)) hs hz)) rfl rfl rfl ?_; refine .val (.mul rfl rfl (by omega) (by omega)) rfl rfl rfl ?_; refine .val (.min2 rfl rfl) rfl rfl rfl ?_; refine .o rfl ?_; refine WL.nil ?_; refine Kseq.go ?_
  refine W.condD rfl rfl (fun h5 => ?_) (fun h5 => ?_)
  · refine W.seq ?_
    refine W.region ?_; refine .o rfl ?_; refine WL.nil ?_; refine Kseq.go ?_
    refine W.ret ?_; refine Kseq.ret ?_; refine ⟨.inl rfl, [_], h, ⟨.tmp rfl, trivial⟩, (by repeat constructor), ?_⟩
    rw [if_pos (by omega)]; rfl
  refine W.skip (Kseq.go (W.seq ?_))
  refine W.region ?_; refine .o rfl ?_; refine WL.nil ?_; refine Kseq.go ?_
  refine W.ret ?_; refine ⟨.inl rfl, [_], h, ⟨.tmp rfl, trivial⟩, (by repeat constructor), ?_⟩
  rw [if_neg (by omega)]; rfl
end Go.Proofs.YtdnbkjgbehakpaaGreat
