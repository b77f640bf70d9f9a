/- The reference's functions of chapter 6: IsHarmed, IsSafe, AreSafe; the statements' functions within, sure. -/
import Derived.Test.YtdnbkjgbehakpaaGreatP41
import Derived.Test.YtdnbkjgbehakpaaGreatT146
import Derived.Test.YtdnbkjgbehakpaaGreatT132
namespace Go.Proofs.YtdnbkjgbehakpaaGreat
open Go Go.Eng Go.RowKit

theorem truths_nil {r : House} (hV : ValidH r) : truths6 r = [] ↔ ask6 r = [] := by
  rw [List.eq_nil_iff_forall_not_mem, List.eq_nil_iff_forall_not_mem]
  exact ⟨fun h c hc => h c (hV.truths.2 hc), fun h c hc => h c (hV.truths.1 hc)⟩
theorem truths_scene {r : House} (hV : ValidH r) {c : Course} (h : c ∈ truths6 r) : c ∈ scenes r := (List.mem_filter.1 (hV.truths.1 h)).1
/-- within -/
theorem within6L_any {h : Mem} {v : Value} {r : House} (hour : Int) (hv : IsHouse h v r) (hs : SmH r) : FnR Tryz.prog 53 #[v, vi hour] h (fun m q => ∃ lv, q = .tuple #[lv, vi (ask6E r (isHour r hour))] ∧ (ask6E r (isHour r hour) = 0 → IsCourses m lv (truths6 r))) := by
  have hv' := hv
  obtain ⟨wv, pv, kv, tv, bv, sv, f, rfl, hA⟩ := hv
  refine FnR.of_W (n := 23) Tryz.func53 rfl rfl (Nat.le_of_ble_eq_true rfl) fun c hr hD hF => ?_
  refine W.seq ?_; refine W.region ?_
  refine WL.box rfl rfl rfl rfl (fun b2 => ?_)
  iterate 2 refine .o rfl ?_
  refine WL.nil ?_
  refine Kseq.go (W.seq (W.seq ?_))
  refine W.freezeBox (.head _) (fun b hb => (hF b hb).elim) fun m2 h2 => ?_
  refine W.region ?_; refine .val (.loadPW rfl h2 (by repeat constructor) rfl) rfl rfl rfl ?_; refine .val (.call rfl (fun m hm => fault6L_any (hv'.le (by repeat first | exact hm.1 | replace hm := hm.2)) hs)) rfl rfl rfl ?_; refine .o rfl ?_; refine WL.nil ?_
  refine Kseq.go (W.seq ?_)
  refine W.region ?_
  iterate 2 refine .o rfl ?_
  refine WL.nil ?_; refine Kseq.go ?_
  refine W.cond rfl rfl (fun he => ?_) (fun hne => ?_)
  · have he' : fault6 r ≠ 0 := by simpa using he
    have e : ask6E r (isHour r hour) = fault6 r := by unfold ask6E; rw [if_pos he']
    refine W.seq ?_; refine W.region ?_
    iterate 3 refine .o rfl ?_
    refine WL.nil ?_; refine Kseq.go ?_
    refine W.ret ?_; refine Kseq.ret ?_; refine ⟨.inl rfl, [_, _], h, ⟨.tmp rfl, .tmp rfl, trivial⟩, (by repeat constructor), ?_⟩
    exact ⟨_, by rw [e]; rfl, fun h0 => absurd (e.symm.trans h0) he'⟩
  have hf : fault6 r = 0 := by simpa using hne
  have hV := fault6_zero.1 hf
  refine W.skip (Kseq.go (W.seq (W.seq ?_)))
  cases hh : isHour r hour with
  | false =>
    have e : ask6E r false = 2 := by unfold ask6E; rw [if_neg (by simpa using hf), if_pos rfl]
    refine W.region ?_; refine .val (.loadPW rfl h2 (by repeat constructor) rfl) rfl rfl rfl ?_; refine .o rfl ?_; refine .val (.cast (.call rfl (fun m hm => isHourR_any hour (hv'.le (by repeat first | exact hm.1 | replace hm := hm.2)))) (congrArg Value.bool hh)) rfl rfl rfl ?_; refine .o rfl ?_; refine WL.nil ?_; refine Kseq.go ?_; refine W.condT rfl rfl ?_; refine W.seq ?_; refine W.region ?_
    iterate 2 refine .o rfl ?_
    refine WL.nil ?_; refine Kseq.go ?_
    refine W.ret ?_; refine Kseq.ret ?_; refine ⟨.inl rfl, [_, _], h, ⟨.tmp rfl, .tmp rfl, trivial⟩, (by repeat constructor), ?_⟩
    exact ⟨_, by rw [e]; rfl, fun h0 => by rw [e] at h0; cases h0⟩
  | true =>
    have e : ask6E r true = if ask6 r = [] then 11 else 0 := by unfold ask6E; rw [hf]; simp
    refine W.region ?_; refine .val (.loadPW rfl h2 (by repeat constructor) rfl) rfl rfl rfl ?_; refine .o rfl ?_; refine .val (.cast (.call rfl (fun m hm => isHourR_any hour (hv'.le (by repeat first | exact hm.1 | replace hm := hm.2)))) (congrArg Value.bool hh)) rfl rfl rfl ?_; refine .o rfl ?_; refine WL.nil ?_; refine Kseq.go ?_; refine W.condF rfl rfl ?_
    refine W.skip (Kseq.go (W.seq ?_))
    refine W.region ?_; refine .val (.loadPW rfl h2 (by repeat constructor) rfl) rfl rfl rfl ?_; refine WL.abs (OpAbs.call rfl (fun m hm => truthsR6_any (hv'.le (by repeat first | exact hm.1 | replace hm := hm.2)) hV hs)) rfl rfl rfl ?_
    rintro m18 v18 h18
    refine .o rfl ?_; refine WL.nil ?_
    refine Kseq.go (W.seq (W.seq ?_))
    have hbd := h18.bd
    obtain ⟨vs0, hvs0, hvA⟩ := id h18
    by_cases h0 : ask6 r = []
    · rw [if_pos h0] at e
      have hl0 : (truths6 r).length = 0 := by rw [(truths_nil hV).2 h0]; rfl
      refine W.region ?_; refine .o rfl ?_; refine .val (.cast (.len rfl hvA) (congrArg (fun x : Nat => vi (x : Int)) hl0)) rfl rfl rfl ?_; refine .o rfl ?_; refine WL.nil ?_; refine Kseq.go ?_; refine W.condT rfl rfl ?_; refine W.seq ?_; refine W.region ?_
      iterate 2 refine .o rfl ?_
      refine WL.nil ?_; refine Kseq.go ?_
      refine W.ret ?_; refine Kseq.ret ?_; refine ⟨.inl rfl, [_, _], h, ⟨.tmp rfl, .tmp rfl, trivial⟩, (by repeat constructor), ?_⟩
      exact ⟨_, by rw [e]; rfl, fun h1 => by rw [e] at h1; cases h1⟩
    · rw [if_neg h0] at e
      have hl0 : (truths6 r).length ≠ 0 := fun h1 => h0 ((truths_nil hV).1 (List.length_eq_zero_iff.1 h1))
      refine W.region ?_; refine .o rfl ?_; refine .val (.len rfl hvA) rfl rfl rfl ?_; refine .val (.cast (.opv rfl) (congrArg Value.bool (decide_eq_false (by omega)))) rfl rfl rfl ?_; refine WL.nil ?_; refine Kseq.go ?_; refine W.condF rfl rfl ?_
      refine W.skip (Kseq.go (W.seq ?_))
      refine W.region ?_
      iterate 3 refine .o rfl ?_
      refine WL.nil ?_; refine Kseq.go ?_
      refine W.ret ?_; refine ⟨.inl rfl, [_, _], m18, ⟨.tmp rfl, .tmp rfl, trivial⟩, (by repeat constructor), ?_⟩
      exact ⟨_, by rw [e]; rfl, fun _ => h18⟩
/-- IsHarmed -/
theorem isHarmedR_any {h : Mem} {v cv : Value} {r : House} {q : Course} {s : Nat} (w : Int) (hv : IsHouse h v r) (hc : IsCourseV h cv q) (hs : s < 2 ^ 20) (hq : q.owners.length ≤ 20) : FnV Tryz.prog 95 #[v, cv, vi (s : Int), vi w] h (.bool (harmR r q s w)) := by
  obtain ⟨wv, pv, kv, tv, bv, sv, f, rfl, hA⟩ := hv
  obtain ⟨ov, hv2, rfl, hO, hH⟩ := hc
  have hK := hA.K
  refine FnR.val ?_
  refine FnR.of_W (n := 36) Tryz.func95 rfl rfl (Nat.le_of_ble_eq_true rfl) fun c hr hD hF => ?_
  refine W.seq ?_; refine W.region ?_
  refine WL.box rfl rfl rfl rfl (fun b4 => ?_)
  refine WL.box rfl rfl rfl rfl (fun b5 => ?_)
  refine .o rfl ?_; refine WL.nil ?_
  refine Kseq.go (W.seq (W.seq ?_))
  refine W.freezeBox (.head _) (fun b hb => (hF b hb).elim) fun m5 h5 => ?_
  refine W.freezeBox (.head _) (fun b hb => (hF b hb).elim) fun m4 h4 => ?_
  cases hsk : decide (w ∈ r.sick) with
  | true =>
    refine W.region ?_; refine .val (.fieldAddrB rfl) rfl rfl rfl ?_; refine .val (.loadP rfl h4 (by repeat constructor) rfl) rfl rfl rfl ?_; refine .o rfl ?_; refine .val (.cast (.call rfl (fun m hm => has_any _ (hK.le (by repeat first | exact hm.1 | replace hm := hm.2)))) (congrArg Value.bool hsk)) rfl rfl rfl ?_; refine WL.nil ?_; refine Kseq.go ?_; refine W.condT rfl rfl ?_; refine W.seq ?_; refine W.region ?_; refine .o rfl ?_; refine WL.nil ?_; refine Kseq.go ?_
    refine W.ret ?_; refine Kseq.ret ?_; refine ⟨.inl rfl, [_], h, ⟨.tmp rfl, trivial⟩, (by repeat constructor), ?_⟩
    exact congrArg Value.bool (by unfold harmR; rw [hsk]; rfl)
  | false =>
  have hval : harmR r q s w = ex q.owners.length fun i => decide (q.owners.getD i 0 = w) && s.testBit i := by unfold harmR; rw [hsk]; rfl
  rw [hval]
  refine W.region ?_; refine .val (.fieldAddrB rfl) rfl rfl rfl ?_; refine .val (.loadP rfl h4 (by repeat constructor) rfl) rfl rfl rfl ?_; refine .o rfl ?_; refine .val (.cast (.call rfl (fun m hm => has_any _ (hK.le (by repeat first | exact hm.1 | replace hm := hm.2)))) (congrArg Value.bool hsk)) rfl rfl rfl ?_; refine WL.nil ?_; refine Kseq.go ?_; refine W.condF rfl rfl ?_
  refine W.skip (Kseq.go (W.seq (W.seq ?_)))
  refine W.region ?_; refine .o rfl ?_; refine WL.nil ?_
  refine Kseq.go (W.block ?_)
  let g : Nat → Bool := fun i => decide (q.owners.getD i 0 = w) && s.testBit i
  refine W.loop (σ := Nat) (fun k => [(2, vi (s : Int)), (3, vi w), (5, .pointer (some ⟨b5, 0, none⟩)), (9, vi (k : Int))]) (fun _ => [m4, m5, h]) (fun _ => []) (fun k => k ≤ q.owners.length ∧ ∀ i, i < k → g i = false) (fun k => q.owners.length - k) 0 ⟨rfl, rfl, rfl, rfl, trivial⟩ (by simp) (List.nil_sublist _) ⟨Nat.zero_le _, fun i hi => absurd hi (Nat.not_lt_zero _)⟩ ?_
  rintro k ⟨hk, hall⟩
  refine W.seq (W.seq ?_)
  refine W.region ?_; refine .o rfl ?_; refine .val (.fieldAddrB rfl) rfl rfl rfl ?_; refine .val (.loadP rfl h5 (by repeat constructor) rfl) rfl rfl rfl ?_; refine .val (.len rfl hO) rfl rfl rfl ?_; refine .o rfl ?_; refine WL.nil ?_; refine Kseq.go ?_
  refine W.condD rfl rfl (fun hlt => ?_) (fun hge => ?_)
  · have hkl : k < q.owners.length := by omega
    have hpi : 2 ^ k ≤ 2 ^ 20 := Nat.pow_le_pow_right (by omega) (by omega)
    have hpo : 0 < 2 ^ k := Nat.pow_pos (by omega)
    refine W.skip (Kseq.go (W.seq (W.block (W.seq ?_))))
    refine W.toS [(2, vi (s : Int)), (3, vi w), (5, .pointer (some ⟨b5, 0, none⟩)), (9, vi (k : Int)), (35, .bool (g k))] ?_ ?_
    · skip
      refine W.region ?_; refine .val (.fieldAddrB rfl) rfl rfl rfl ?_; refine .val (.loadP rfl h5 (by repeat constructor) rfl) rfl rfl rfl ?_; refine .o rfl ?_; refine .val (.indexAddrN rfl rfl hO hkl) rfl rfl rfl ?_; refine .val (.loadE rfl hO (by repeat constructor) hkl (by omega)) rfl rfl rfl ?_; refine .o rfl ?_; refine .val (.cast (.opv rfl) (show _ = Value.bool (decide (q.owners.getD k 0 = w)) from rfl)) rfl rfl rfl ?_; refine .o rfl ?_
      refine WL.split rfl rfl (fun g28 => ?_) (fun g28 => ?_)
      · refine .o rfl ?_
        refine .o rfl ?_; refine .val (.conv rfl (wrap_u64 (by omega) (by omega))) rfl rfl rfl ?_
        refine .val ((OpVal.shl rfl rfl (by omega) (by rw [pow_cast]; omega) (by rw [pow_cast]; omega)).cast (congrArg (Value.int .i64) (pow_cast k))) rfl rfl rfl ?_
        refine .val (.band rfl rfl (by omega) (by omega)) rfl rfl rfl ?_
        refine .val (.cast (.opv rfl) (show _ = Value.bool (s.testBit k) from congrArg Value.bool (by rw [← decide_not, Bool.eq_iff_iff, decide_eq_true_eq, ← and_one6]; omega))) rfl rfl rfl ?_
        refine .o rfl ?_; refine WL.nil ?_
        exact Keff.intro ⟨rfl, rfl, rfl, rfl, congrArg (fun b => some (Value.bool b)) (by show _ = (decide (q.owners.getD k 0 = w) && s.testBit k); first | exact (by first | (simp [-List.getD_eq_getElem?_getD]; done) | (simp_all [-List.getD_eq_getElem?_getD]; done) | (simp [-List.getD_eq_getElem?_getD]; omega) | (rw [Bool.eq_iff_iff]; simp [-List.getD_eq_getElem?_getD]; omega) | (simp [-List.getD_eq_getElem?_getD] at *; omega)) | (simp [*]; done) | (simp_all; done)), trivial⟩ (by simp) (by repeat first | exact .refl _ | refine .cons _ ?_)
      · refine WL.pass rfl rfl rfl ?_
        refine WL.pass rfl rfl rfl ?_; refine WL.pass rfl rfl rfl ?_; refine WL.pass rfl rfl rfl ?_; refine WL.pass rfl rfl rfl ?_; refine WL.pass rfl rfl rfl ?_; refine .o rfl ?_; refine WL.nil ?_
        exact Keff.intro ⟨rfl, rfl, rfl, rfl, congrArg (fun b => some (Value.bool b)) (by show _ = (decide (q.owners.getD k 0 = w) && s.testBit k); first | exact (by first | (simp [-List.getD_eq_getElem?_getD]; done) | (simp_all [-List.getD_eq_getElem?_getD]; done) | (simp [-List.getD_eq_getElem?_getD]; omega) | (rw [Bool.eq_iff_iff]; simp [-List.getD_eq_getElem?_getD]; omega) | (simp [-List.getD_eq_getElem?_getD] at *; omega)) | (simp [*]; done) | (simp_all; done)), trivial⟩ (by simp) (by repeat first | exact .refl _ | refine .cons _ ?_)
    refine Kseq.go ?_
    refine W.cond rfl rfl (fun hb2 => ?_) (fun hb2 => ?_)
    · refine W.seq ?_
      refine W.region ?_; refine .o rfl ?_; refine WL.nil ?_; refine Kseq.go ?_
      refine W.ret ?_; refine Kblock.ret (Kseq.ret (Kloop.ret (Kblock.ret (Kseq.ret ?_)))); refine ⟨.inl rfl, [_], h, ⟨.tmp rfl, trivial⟩, (by repeat constructor), ?_⟩
      exact congrArg Value.bool (ex_iff.2 ⟨k, hkl, hb2⟩).symm
    · refine W.skip (Kblock.normal (Kseq.go ?_))
      refine W.region ?_; refine .o rfl ?_; refine .val (.incr rfl (by omega)) rfl rfl rfl ?_; refine .o rfl ?_; refine WL.nil ?_
      refine Kloop.next (k + 1) ⟨hkl, fun i hi => ?_⟩ (by omega) ⟨rfl, rfl, rfl, rfl, trivial⟩ (by simp) (by repeat first | exact .refl _ | refine .cons _ ?_)
      rcases Nat.lt_succ_iff_lt_or_eq.1 hi with h2 | rfl
      · exact hall i h2
      · exact hb2
  · have hkk : k = q.owners.length := by omega
    subst hkk
    refine W.exit (Kseq.exit (Kloop.exit (Kblock.here (Kseq.go (W.seq ?_)))))
    refine W.region ?_; refine .o rfl ?_; refine WL.nil ?_; refine Kseq.go ?_
    refine W.ret ?_; refine ⟨.inl rfl, [_], h, ⟨.tmp rfl, trivial⟩, (by repeat constructor), ?_⟩
    exact congrArg Value.bool (ex_no.2 hall).symm
/-- IsSafe -/
theorem isSafeR_any {h : Mem} {v cv mv : Value} {r : House} {q : Course} {more : List Boil} (hv : IsHouse h v r) (hV : ValidH r) (hc : IsCourseV h cv q) (hq1 : q.owners.length = r.np) (hq2 : q.hours.length = r.tn) (hmo : IsBoils h mv more) (hml : more.length ≤ 1000) : FnV Tryz.prog 70 #[v, cv, mv] h (.bool (safeR r q (lastN r q more))) := by
  have hv' := hv
  have hc' := hc
  obtain ⟨wv, pv, kv, tv, bv, sv, f, rfl, hA⟩ := hv
  obtain ⟨ov, hv2, rfl, hO, hH⟩ := hc
  have hW := hA.W
  have hL := lastN_lt hV hq1 more
  have hth := hV.th
  have hp10 : 2 ^ r.th ≤ 2 ^ 10 := Nat.pow_le_pow_right (by omega) (by omega)
  have hwn := hV.table.women
  refine FnR.val ?_
  refine FnR.of_W (n := 26) Tryz.func70 rfl rfl (Nat.le_of_ble_eq_true rfl) fun c hr hD hF => ?_
  refine W.seq ?_; refine W.region ?_
  refine WL.box rfl rfl rfl rfl (fun b3 => ?_)
  refine WL.box rfl rfl rfl rfl (fun b4 => ?_)
  refine .o rfl ?_; refine WL.nil ?_
  refine Kseq.go (W.seq ?_)
  refine W.freezeBox (.head _) (fun b hb => (hF b hb).elim) fun m4 h4 => ?_
  refine W.freezeBox (.head _) (fun b hb => (hF b hb).elim) fun m3 h3 => ?_
  refine W.region ?_; refine .val (.loadPW rfl h3 (by repeat constructor) rfl) rfl rfl rfl ?_; refine .val (.loadPW rfl h4 (by repeat constructor) rfl) rfl rfl rfl ?_; refine .o rfl ?_; refine .val (.call rfl (fun m hm => lastR_any (hv'.le (by repeat first | exact hm.1 | replace hm := hm.2)) hV (hc'.le (by repeat first | exact hm.1 | replace hm := hm.2)) hq1 hq2 (hmo.le (by repeat first | exact hm.1 | replace hm := hm.2)) hml)) rfl rfl rfl ?_; refine .o rfl ?_; refine WL.nil ?_
  refine Kseq.go (W.seq (W.seq ?_))
  generalize lastN r q more = s at *
  refine W.region ?_; refine .o rfl ?_; refine WL.nil ?_
  refine Kseq.go (W.block ?_)
  refine W.loop (σ := Nat) (fun k => [(3, .pointer (some ⟨b3, 0, none⟩)), (4, .pointer (some ⟨b4, 0, none⟩)), (7, vi (s : Int)), (8, vi (k : Int))]) (fun _ => [m3, m4, h]) (fun _ => []) (fun k => k ≤ r.table.women.length ∧ ∀ i, i < k → harmR r q s ((i : Nat) : Int) = false) (fun k => r.table.women.length - k) 0 ⟨rfl, rfl, rfl, rfl, trivial⟩ (by simp) (List.nil_sublist _) ⟨Nat.zero_le _, fun i hi => absurd hi (Nat.not_lt_zero _)⟩ ?_
  rintro k ⟨hk, hall⟩
  refine W.seq (W.seq ?_)
  refine W.region ?_; refine .o rfl ?_; refine .val (.fieldAddrB rfl) rfl rfl rfl ?_; refine .val (.fieldAddrB rfl) rfl rfl rfl ?_; refine .val (.loadP rfl h3 (by repeat constructor) rfl) rfl rfl rfl ?_; refine .val (.len rfl hW) rfl rfl rfl ?_; refine .o rfl ?_; refine WL.nil ?_; refine Kseq.go ?_
  refine W.condD rfl rfl (fun hlt => ?_) (fun hge => ?_)
  · have hkl : k < r.table.women.length := by omega
    refine W.skip (Kseq.go (W.seq (W.block (W.seq ?_))))
    refine W.region ?_; refine .val (.loadPW rfl h3 (by repeat constructor) rfl) rfl rfl rfl ?_; refine .val (.loadPW rfl h4 (by repeat constructor) rfl) rfl rfl rfl ?_
    iterate 2 refine .o rfl ?_
    refine .val (.call rfl (fun m hm => isHarmedR_any _ (hv'.le (by repeat first | exact hm.1 | replace hm := hm.2)) (hc'.le (by repeat first | exact hm.1 | replace hm := hm.2)) (by omega) (by omega))) rfl rfl rfl ?_; refine WL.nil ?_; refine Kseq.go ?_
    refine W.cond rfl rfl (fun hb2 => ?_) (fun hb2 => ?_)
    · refine W.seq ?_
      refine W.region ?_; refine .o rfl ?_; refine WL.nil ?_; refine Kseq.go ?_
      refine W.ret ?_; refine Kblock.ret (Kseq.ret (Kloop.ret (Kblock.ret (Kseq.ret ?_)))); refine ⟨.inl rfl, [_], h, ⟨.tmp rfl, trivial⟩, (by repeat constructor), ?_⟩
      unfold safeR
      rw [ex_iff.2 ⟨k, hkl, hb2⟩]; rfl
    · refine W.skip (Kblock.normal (Kseq.go ?_))
      refine W.region ?_; refine .o rfl ?_; refine .val (.incr rfl (by omega)) rfl rfl rfl ?_; refine .o rfl ?_; refine WL.nil ?_
      refine Kloop.next (k + 1) ⟨hkl, fun i hi => ?_⟩ (by omega) ⟨rfl, rfl, rfl, rfl, trivial⟩ (by simp) (by repeat first | exact .refl _ | refine .cons _ ?_)
      rcases Nat.lt_succ_iff_lt_or_eq.1 hi with h2 | rfl
      · exact hall i h2
      · exact hb2
  · have hkk : k = r.table.women.length := by omega
    subst hkk
    refine W.exit (Kseq.exit (Kloop.exit (Kblock.here (Kseq.go (W.seq ?_)))))
    refine W.region ?_; refine .o rfl ?_; refine WL.nil ?_; refine Kseq.go ?_
    refine W.ret ?_; refine ⟨.inl rfl, [_], h, ⟨.tmp rfl, trivial⟩, (by repeat constructor), ?_⟩
    unfold safeR
    rw [ex_no.2 hall]; rfl
/-- AreSafe, of all truths -/
theorem areSafeR_any {h : Mem} {v lv mv : Value} {r : House} {more : List Boil} (hv : IsHouse h v r) (hV : ValidH r) (hl : IsCourses h lv (truths6 r)) (hmo : IsBoils h mv more) (hml : more.length ≤ 1000) : FnV Tryz.prog 55 #[v, lv, mv] h (.bool (safeL r (ask6 r) more)) := by
  have hv' := hv
  obtain ⟨wv, pv, kv, tv, bv, sv, f, rfl, hA⟩ := hv
  have hbd := hl.bd
  obtain ⟨vs, hvs, hvA⟩ := hl
  refine FnR.val ?_
  refine FnR.of_W (n := 22) Tryz.func55 rfl rfl (Nat.le_of_ble_eq_true rfl) fun c hr hD hF => ?_
  refine W.seq ?_; refine W.region ?_
  refine WL.box rfl rfl rfl rfl (fun b3 => ?_)
  refine .o rfl ?_; refine WL.nil ?_
  refine Kseq.go (W.seq (W.seq ?_))
  refine W.freezeBox (.head _) (fun b hb => (hF b hb).elim) fun m3 h3 => ?_
  refine W.region ?_; refine .o rfl ?_; refine WL.nil ?_
  refine Kseq.go (W.block ?_)
  refine W.loop (σ := Nat) (fun k => [(1, lv), (2, mv), (3, .pointer (some ⟨b3, 0, none⟩)), (7, vi (k : Int))]) (fun _ => [m3, h]) (fun _ => []) (fun k => k ≤ (truths6 r).length ∧ ∀ i, i < k → safeB r ((truths6 r).getD i default) (lastN r ((truths6 r).getD i default) more) = true) (fun k => (truths6 r).length - k) 0 ⟨rfl, rfl, rfl, rfl, trivial⟩ (by simp) (List.nil_sublist _) ⟨Nat.zero_le _, fun i hi => absurd hi (Nat.not_lt_zero _)⟩ ?_
  rintro k ⟨hk, hall⟩
  refine W.seq (W.seq ?_)
  refine W.region ?_
  iterate 2 refine .o rfl ?_
  refine .val (.len rfl hvA) rfl rfl rfl ?_; refine .o rfl ?_; refine WL.nil ?_; refine Kseq.go ?_
  refine W.condD rfl rfl (fun hlt => ?_) (fun hge => ?_)
  · have hkl : k < (truths6 r).length := by omega
    have hci := hvs.2 k hkl
    have hm := getDc hkl
    obtain ⟨c, hce⟩ : ∃ c, (truths6 r).getD k default = c := ⟨_, rfl⟩
    rw [hce] at hci hm
    have hcm := truths_scene hV hm
    have hfit := scene_fit hcm
    have hsr := safeR_eq (s := lastN r c more) hcm
    have hcv := hci
    obtain ⟨ov, hv2, eci, hO, hH⟩ := hci
    refine W.skip (Kseq.go (W.seq (W.block (W.seq ?_))))
    refine W.draw 6 (by kernel_rfl) (by kernel_rfl) (by kernel_rfl) rfl ?_; refine .val [] (.loadPW rfl h3 (by repeat constructor) rfl) rfl rfl rfl rfl ?_; refine .val [] (.opv rfl) rfl rfl rfl rfl ?_; refine .val [] (.opv rfl) rfl rfl rfl rfl ?_; refine .val [] (.indexAddrN rfl rfl hvA hkl) rfl rfl rfl rfl ?_
    refine .val [] (.cast (.loadEA rfl hvA (by repeat constructor) hkl) (show _ = Value.agg #[ov, hv2] from by simp only [eci]; rfl)) rfl rfl rfl rfl ?_
    refine .val [] (.opv rfl) rfl rfl rfl rfl ?_; refine DJ.nil ?_; refine .val (.cast (.call rfl (fun m hm => isSafeR_any (hv'.le (by repeat first | exact hm.1 | replace hm := hm.2)) hV (IsCourseV.le (eci ▸ hcv) (by repeat first | exact hm.1 | replace hm := hm.2)) hfit.owners hfit.hours (hmo.le (by repeat first | exact hm.1 | replace hm := hm.2)) hml)) (congrArg Value.bool hsr)) rfl rfl rfl ?_; refine .o rfl ?_; refine WL.nil ?_; refine Kseq.go ?_
    refine W.cond rfl rfl (fun hb2 => ?_) (fun hb2 => ?_)
    · refine W.seq ?_
      refine W.region ?_; refine .o rfl ?_; refine WL.nil ?_; refine Kseq.go ?_
      refine W.ret ?_; refine Kblock.ret (Kseq.ret (Kloop.ret (Kblock.ret (Kseq.ret ?_)))); refine ⟨.inl rfl, [_], h, ⟨.tmp rfl, trivial⟩, (by repeat constructor), ?_⟩
      refine congrArg Value.bool ?_
      symm
      rw [← Bool.not_eq_true, safeL_iff]
      intro hsf
      have := hsf c (hV.truths.1 hm)
      rw [this] at hb2; cases hb2
    · refine W.skip (Kblock.normal (Kseq.go ?_))
      refine W.region ?_; refine .o rfl ?_; refine .val (.incr rfl (by omega)) rfl rfl rfl ?_; refine .o rfl ?_; refine WL.nil ?_
      refine Kloop.next (k + 1) ⟨hkl, fun i hi => ?_⟩ (by omega) ⟨rfl, rfl, rfl, rfl, trivial⟩ (by simp) (by repeat first | exact .refl _ | refine .cons _ ?_)
      rcases Nat.lt_succ_iff_lt_or_eq.1 hi with h2 | rfl
      · exact hall i h2
      · rw [hce]; simpa using hb2
  · have hkk : k = (truths6 r).length := by omega
    subst hkk
    refine W.exit (Kseq.exit (Kloop.exit (Kblock.here (Kseq.go (W.seq ?_)))))
    refine W.region ?_; refine .o rfl ?_; refine WL.nil ?_; refine Kseq.go ?_
    refine W.ret ?_; refine ⟨.inl rfl, [_], h, ⟨.tmp rfl, trivial⟩, (by repeat constructor), ?_⟩
    refine congrArg Value.bool ?_
    symm
    rw [safeL_iff]
    intro c hc
    obtain ⟨i, hi, rfl⟩ := of_memc (hV.truths.2 hc)
    exact hall i hi
end Go.Proofs.YtdnbkjgbehakpaaGreat
