/- The reference's functions of chapter 6: IsOrder, longer, Order; the statement SickOrders. -/
import Derived.Test.YtdnbkjgbehakpaaGreatT150
import Derived.Test.YtdnbkjgbehakpaaGreatT124
import Derived.Test.YtdnbkjgbehakpaaGreatE18
import Derived.Test.YtdnbkjgbehakpaaGreatPH1
namespace Go.Proofs.YtdnbkjgbehakpaaGreat
open Go Go.Eng Go.RowKit

def isOrdB (r : House) (hour : Int) (x : List Int) : Bool := ordB r x && (decide (x.length ≤ 3) && decide (hour + x.length - 1 ≤ r.last))
/-- An order that keeps all safe, as the reference looks. -/
def okR (r : House) (hour : Int) (x : List Int) : Bool := isOrdB r hour x && safeL r (ask6 r) (rowL x hour)
/-- IsOrder -/
theorem isOrder_any {h : Mem} {v lv : Value} {r : House} {hour : Int} {x : List Int} (hv : IsHouse h v r) (hV : ValidH r) (hl : IsInts h lv x) (hh : 0 ≤ hour ∧ hour ≤ 1000) (hx : x.length ≤ 1000) : FnV Tryz.prog 60 #[v, lv, vi hour] h (.bool (isOrdB r hour x)) := by
  have hv' := hv
  obtain ⟨wv, pv, kv, tv, bv, sv, f, rfl, hA⟩ := hv
  have hfit := hV.fitZ
  refine FnR.val ?_
  refine FnR.of_W (n := 34) Tryz.func60 rfl rfl (Nat.le_of_ble_eq_true rfl) fun c hr hD hF => ?_
  refine W.seq ?_; refine W.region ?_
  refine WL.box rfl rfl rfl rfl (fun b3 => ?_)
  refine .o rfl ?_; refine WL.nil ?_
  refine Kseq.go (W.seq (W.seq ?_))
  refine W.freezeBox (.head _) (fun b hb => (hF b hb).elim) fun m3 h3 => ?_
  refine W.region ?_; refine .o rfl ?_; refine WL.nil ?_
  refine Kseq.go (W.block ?_)
  let g : Nat → Bool := fun i => !isThing r (x.getD i 0)
  refine W.loop (σ := Nat) (fun k => [(1, lv), (2, vi hour), (3, .pointer (some ⟨b3, 0, none⟩)), (7, vi (k : Int))]) (fun _ => [m3, h]) (fun _ => []) (fun k => k ≤ x.length ∧ ∀ i, i < k → g i = false) (fun k => x.length - k) 0 ⟨rfl, rfl, rfl, rfl, trivial⟩ (by simp) (List.nil_sublist _) ⟨Nat.zero_le _, fun i hi => absurd hi (Nat.not_lt_zero _)⟩ ?_
  rintro k ⟨hk, hall⟩
  refine W.seq (W.seq ?_)
  refine W.region ?_
  iterate 2 refine .o rfl ?_
  refine .val (.len rfl hl) rfl rfl rfl ?_; refine .o rfl ?_; refine WL.nil ?_; refine Kseq.go ?_
  refine W.condD rfl rfl (fun hlt => ?_) (fun hge => ?_)
  · have hkl : k < x.length := by omega
    refine W.skip (Kseq.go (W.seq (W.block (W.seq ?_))))
    refine W.draw 5 (by kernel_rfl) (by kernel_rfl) (by kernel_rfl) rfl ?_; refine .val [] (.loadPW rfl h3 (by repeat constructor) rfl) rfl rfl rfl rfl ?_; refine .val [] (.opv rfl) rfl rfl rfl rfl ?_; refine .val [] (.opv rfl) rfl rfl rfl rfl ?_; refine .val [] (.indexAddrN rfl rfl hl hkl) rfl rfl rfl rfl ?_; refine .val [] (.loadE rfl hl (by repeat constructor) hkl (by omega)) rfl rfl rfl rfl ?_; refine DJ.nil ?_; refine .val (.cast (.call rfl (fun m hm => isThingR_any _ (hv'.le (by repeat first | exact hm.1 | replace hm := hm.2)))) (congrArg Value.bool (thingW_eq hfit _))) rfl rfl rfl ?_; refine .val (.cast (.opv rfl) (show _ = Value.bool (g k) from rfl)) rfl rfl rfl ?_; refine WL.nil ?_; refine Kseq.go ?_
    refine W.cond rfl rfl (fun hb => ?_) (fun hb => ?_)
    · have e : isOrdB r hour x = false := by unfold isOrdB ordB; rw [ex_iff.2 ⟨k, hkl, hb⟩]; rfl
      refine W.seq ?_; refine W.region ?_; refine .o rfl ?_; refine WL.nil ?_; refine Kseq.go ?_
      refine W.ret ?_; refine Kblock.ret (Kseq.ret (Kloop.ret (Kblock.ret (Kseq.ret ?_)))); refine ⟨.inl rfl, [_], h, ⟨.tmp rfl, trivial⟩, (by repeat constructor), ?_⟩
      rw [e]; rfl
    · refine W.skip (Kblock.normal (Kseq.go ?_))
      refine W.region ?_; refine .o rfl ?_; refine .val (.incr rfl (by omega)) rfl rfl rfl ?_; refine .o rfl ?_; refine WL.nil ?_
      refine Kloop.next (k + 1) ⟨hkl, fun i hi => ?_⟩ (by omega) ⟨rfl, rfl, rfl, rfl, trivial⟩ (by simp) (by repeat first | exact .refl _ | refine .cons _ ?_)
      rcases Nat.lt_succ_iff_lt_or_eq.1 hi with h2 | rfl
      · exact hall i h2
      · exact hb
  · have hkk : k = x.length := by omega
    subst hkk
    have hord : ordB r x = true := by unfold ordB; rw [ex_no.2 hall]; rfl
    refine W.exit (Kseq.exit (Kloop.exit (Kblock.here (Kseq.go (W.seq ?_)))))
    by_cases h3l : x.length ≤ 3
    · have e : isOrdB r hour x = decide (hour + x.length - 1 ≤ r.last) := by unfold isOrdB; rw [hord, decide_eq_true h3l]; rfl
      refine W.region ?_; refine .o rfl ?_; refine .val (.len rfl hl) rfl rfl rfl ?_; refine .val (.cast (.opv rfl) (congrArg Value.bool (decide_eq_true (by omega)))) rfl rfl rfl ?_
      iterate 3 refine .o rfl ?_
      refine .val (.len rfl hl) rfl rfl rfl ?_; refine .val (.add rfl rfl (by omega) (by omega)) rfl rfl rfl ?_; refine .val (.sub rfl rfl (by omega) (by omega)) rfl rfl rfl ?_; refine .val (.fieldAddrB rfl) rfl rfl rfl ?_; refine .val (.loadP rfl h3 (by repeat constructor) rfl) rfl rfl rfl ?_
      iterate 3 refine .o rfl ?_
      refine WL.nil ?_; refine Kseq.go ?_
      refine W.ret ?_; refine ⟨.inl rfl, [_], h, ⟨.tmp rfl, trivial⟩, (by repeat constructor), ?_⟩
      rw [e]; rfl
    · have e : isOrdB r hour x = false := by unfold isOrdB; rw [decide_eq_false h3l]; simp
      refine W.region ?_; refine .o rfl ?_; refine .val (.len rfl hl) rfl rfl rfl ?_; refine .val (.cast (.opv rfl) (congrArg Value.bool (decide_eq_false (by omega)))) rfl rfl rfl ?_; refine .o rfl ?_; refine WL.pass rfl rfl rfl ?_; refine WL.pass rfl rfl rfl ?_; refine WL.pass rfl rfl rfl ?_; refine WL.pass rfl rfl rfl ?_; refine WL.pass rfl rfl rfl ?_; refine WL.pass rfl rfl rfl ?_; refine WL.pass rfl rfl rfl ?_; refine WL.pass rfl rfl rfl ?_
      iterate 2 refine .o rfl ?_
      refine WL.nil ?_; refine Kseq.go ?_
      refine W.ret ?_; refine ⟨.inl rfl, [_], h, ⟨.tmp rfl, trivial⟩, (by repeat constructor), ?_⟩
      rw [e]; rfl
/-- longer -/
theorem longer_any {r : House} (hV : ValidH r) {hour : Int} (hh : 0 ≤ hour ∧ hour ≤ 1000) : ∀ (m : Nat) {h : Mem} {v lv ov : Value} {out : List Int}, out.length + m ≤ 100 → IsHouse h v r → IsCourses h lv (truths6 r) → IsInts h ov out →
    FnR Tryz.prog 112 #[v, lv, vi hour, ov, vi (m : Int)] h (fun mm q => ∃ xv b, q = .tuple #[xv, .bool b] ∧ (b = true → ∃ c, seqR (okR r hour) r.th m out = some c ∧ IsInts mm xv c) ∧ (b = false → seqR (okR r hour) r.th m out = none)) := by
  intro m
  induction m with
  | zero =>
    intro h v lv ov out hlen hv hl ho
    have hv' := hv
    obtain ⟨wv, pv, kv, tv, bv, sv, f, rfl, hA⟩ := hv
    refine FnR.of_W (n := 53) Tryz.func112 rfl rfl (Nat.le_of_ble_eq_true rfl) fun c hr hD hF => ?_
    refine W.seq ?_; refine W.region ?_
    refine WL.box rfl rfl rfl rfl (fun b5 => ?_)
    iterate 2 refine .o rfl ?_
    refine WL.nil ?_
    refine Kseq.go (W.seq (W.seq ?_))
    refine W.freezeBox (.head _) (fun b hb => (hF b hb).elim) fun m5 h5 => ?_
    refine W.region ?_
    iterate 2 refine .o rfl ?_
    refine WL.nil ?_; refine Kseq.go ?_; refine W.condT rfl rfl ?_
    let l0 : List (Nat × Value) := [(1, lv), (2, vi hour), (3, ov), (5, .pointer (some ⟨b5, 0, none⟩)), (10, .slice none 0 0), (11, .bool false)]
    let l1 : List (Nat × Value) := (10, ov) :: [(1, lv), (2, vi hour), (3, ov), (5, .pointer (some ⟨b5, 0, none⟩)), (11, .bool false)]
    refine W.weaken l0 [m5, h] [] (by repeat (first | exact trivial | refine ⟨rfl, ?_⟩)) (by simp) (List.nil_sublist _) ?_
    cases hA1 : isOrdB r hour out with
    | false =>
      have hok : okR r hour out = false := by unfold okR; rw [hA1]; rfl
      refine W.seq ?_; refine W.drawN (γ := Ph1 Unit) .a 14 [13] (Ph1.sel l0 (fun _ => l1)) (Ph1.sel [] (fun _ => [])) Ph1.num (by kernel_rfl) (by kernel_rfl) (by kernel_rfl) rfl Ph1.le (Ph1.all rfl (fun _ => rfl)) rfl rfl ?_; refine DJN.val [] (Ph1.all (fun hg => OpVal.opv rfl) (fun x1 hg => Bool.noConfusion (show false = true from hg))) (Ph1.all (fun hg => rfl) (fun x1 hg => Bool.noConfusion (show false = true from hg))) rfl rfl (Ph1.all rfl (fun _ => rfl)) rfl ?_; refine DJN.val [] (Ph1.all (fun hg => OpVal.loadPW rfl h5 (by repeat constructor) rfl) (fun x1 hg => OpVal.loadPW rfl h5 (by repeat constructor) rfl)) (Ph1.all (fun hg => rfl) (fun x1 hg => rfl)) rfl rfl (Ph1.all rfl (fun _ => rfl)) rfl ?_; refine DJN.val [] (Ph1.all (fun hg => OpVal.opv rfl) (fun x1 hg => OpVal.opv rfl)) (Ph1.all (fun hg => rfl) (fun x1 hg => rfl)) rfl rfl (Ph1.all rfl (fun _ => rfl)) rfl ?_; refine DJN.val [] (Ph1.all (fun hg => OpVal.opv rfl) (fun x1 hg => OpVal.opv rfl)) (Ph1.all (fun hg => rfl) (fun x1 hg => rfl)) rfl rfl (Ph1.all rfl (fun _ => rfl)) rfl ?_
      refine DJN.val [] (Ph1.all (fun hg => OpVal.cast (.call rfl (fun m hm => isOrder_any (hv'.le (by repeat first | exact hm.1 | replace hm := hm.2)) hV (ho.le (by repeat first | exact hm.1 | replace hm := hm.2)) hh (by omega))) (congrArg Value.bool hA1)) (fun x1 hg => OpVal.cast (.call rfl (fun m hm => isOrder_any (hv'.le (by repeat first | exact hm.1 | replace hm := hm.2)) hV (ho.le (by repeat first | exact hm.1 | replace hm := hm.2)) hh (by omega))) (congrArg Value.bool hA1))) (Ph1.all (fun hg => rfl) (fun x1 hg => rfl)) rfl rfl (Ph1.all rfl (fun _ => rfl)) rfl ?_; refine DJN.val [] (Ph1.all (fun hg => OpVal.opv rfl) (fun x1 hg => OpVal.opv rfl)) (Ph1.all (fun hg => rfl) (fun x1 hg => rfl)) rfl rfl (Ph1.all rfl (fun _ => rfl)) rfl ?_; refine DJN.pass (Ph1.all (fun hg => rfl) (fun x1 hg => rfl)) rfl rfl (Ph1.all rfl (fun _ => rfl)) rfl ?_; refine DJN.pass (Ph1.all (fun hg => rfl) (fun x1 hg => rfl)) rfl rfl (Ph1.all rfl (fun _ => rfl)) rfl ?_
      refine DJN.pass (Ph1.all (fun hg => rfl) (fun x1 hg => rfl)) rfl rfl (Ph1.all rfl (fun _ => rfl)) rfl ?_; refine DJN.pass (Ph1.all (fun hg => rfl) (fun x1 hg => rfl)) rfl rfl (Ph1.all rfl (fun _ => rfl)) rfl ?_; refine DJN.pass (Ph1.all (fun hg => rfl) (fun x1 hg => rfl)) rfl rfl (Ph1.all rfl (fun _ => rfl)) rfl ?_; refine DJN.pass (Ph1.all (fun hg => rfl) (fun x1 hg => Bool.noConfusion (show false = true from hg))) rfl rfl (Ph1.all rfl (fun _ => rfl)) rfl ?_; refine DJN.val [] (Ph1.all (fun hg => OpVal.opv rfl) (fun x1 hg => OpVal.opv rfl)) (Ph1.all (fun hg => rfl) (fun x1 hg => rfl)) rfl rfl (Ph1.all rfl (fun _ => rfl)) rfl ?_; refine DJN.eff 0 [(17, _)] ⟨rfl, trivial⟩ rfl rfl [] trivial (Ph1.all (fun hg => ⟨rfl, fun M2 hM2 => ?_⟩) (fun x1 hg => absurd hg (by simp [Ph1.num]))) ?_
      · (refine .o rfl ?_; exact WL.nil ⟨.b (), rfl, Keff.intro (by repeat (first | exact trivial | refine ⟨rfl, ?_⟩)) (fun x hx => hx) (.refl _)⟩)
      refine DJN.nil (Ph1.all (fun hg => absurd hg (by simp [Ph1.num])) (fun x1 hg => ?_))
      refine .o rfl ?_; refine WL.nil ?_; refine Kseq.go ?_
      refine W.ret ?_; refine Kseq.ret ?_; refine ⟨.inl rfl, [_, _], h, ⟨.tmp rfl, .tmp rfl, trivial⟩, (by repeat constructor), ?_⟩
      exact ⟨_, false, rfl, fun h => by (cases h), fun _ => by simp only [seqR]; rw [if_neg (by rw [hok]; simp)]⟩
    | true =>
      obtain ⟨sf, hsf⟩ : ∃ sf, safeL r (ask6 r) (rowL out hour) = sf := ⟨_, rfl⟩
      have hok : okR r hour out = sf := by unfold okR; rw [hA1, hsf]; rfl
      refine W.seq ?_; refine W.drawN (γ := Ph1 Unit) .a 14 [13] (Ph1.sel l0 (fun _ => l1)) (Ph1.sel [] (fun _ => [])) Ph1.num (by kernel_rfl) (by kernel_rfl) (by kernel_rfl) rfl Ph1.le (Ph1.all rfl (fun _ => rfl)) rfl rfl ?_; refine DJN.val [] (Ph1.all (fun hg => OpVal.opv rfl) (fun x1 hg => Bool.noConfusion (show false = true from hg))) (Ph1.all (fun hg => rfl) (fun x1 hg => Bool.noConfusion (show false = true from hg))) rfl rfl (Ph1.all rfl (fun _ => rfl)) rfl ?_; refine DJN.val [] (Ph1.all (fun hg => OpVal.loadPW rfl h5 (by repeat constructor) rfl) (fun x1 hg => OpVal.loadPW rfl h5 (by repeat constructor) rfl)) (Ph1.all (fun hg => rfl) (fun x1 hg => rfl)) rfl rfl (Ph1.all rfl (fun _ => rfl)) rfl ?_; refine DJN.val [] (Ph1.all (fun hg => OpVal.opv rfl) (fun x1 hg => OpVal.opv rfl)) (Ph1.all (fun hg => rfl) (fun x1 hg => rfl)) rfl rfl (Ph1.all rfl (fun _ => rfl)) rfl ?_; refine DJN.val [] (Ph1.all (fun hg => OpVal.opv rfl) (fun x1 hg => OpVal.opv rfl)) (Ph1.all (fun hg => rfl) (fun x1 hg => rfl)) rfl rfl (Ph1.all rfl (fun _ => rfl)) rfl ?_
      refine DJN.val [] (Ph1.all (fun hg => OpVal.cast (.call rfl (fun m hm => isOrder_any (hv'.le (by repeat first | exact hm.1 | replace hm := hm.2)) hV (ho.le (by repeat first | exact hm.1 | replace hm := hm.2)) hh (by omega))) (congrArg Value.bool hA1)) (fun x1 hg => OpVal.cast (.call rfl (fun m hm => isOrder_any (hv'.le (by repeat first | exact hm.1 | replace hm := hm.2)) hV (ho.le (by repeat first | exact hm.1 | replace hm := hm.2)) hh (by omega))) (congrArg Value.bool hA1))) (Ph1.all (fun hg => rfl) (fun x1 hg => rfl)) rfl rfl (Ph1.all rfl (fun _ => rfl)) rfl ?_; refine DJN.val [] (Ph1.all (fun hg => OpVal.opv rfl) (fun x1 hg => OpVal.opv rfl)) (Ph1.all (fun hg => rfl) (fun x1 hg => rfl)) rfl rfl (Ph1.all rfl (fun _ => rfl)) rfl ?_; refine DJN.val [] (Ph1.all (fun hg => OpVal.loadPW rfl h5 (by repeat constructor) rfl) (fun x1 hg => OpVal.loadPW rfl h5 (by repeat constructor) rfl)) (Ph1.all (fun hg => rfl) (fun x1 hg => rfl)) rfl rfl (Ph1.all rfl (fun _ => rfl)) rfl ?_
      refine DJN.val [] (Ph1.all (fun hg => OpVal.opv rfl) (fun x1 hg => OpVal.opv rfl)) (Ph1.all (fun hg => rfl) (fun x1 hg => rfl)) rfl rfl (Ph1.all rfl (fun _ => rfl)) rfl ?_; refine DJN.val [] (Ph1.all (fun hg => OpVal.opv rfl) (fun x1 hg => OpVal.opv rfl)) (Ph1.all (fun hg => rfl) (fun x1 hg => rfl)) rfl rfl (Ph1.all rfl (fun _ => rfl)) rfl ?_; refine DJN.val [] (Ph1.all (fun hg => OpVal.opv rfl) (fun x1 hg => OpVal.opv rfl)) (Ph1.all (fun hg => rfl) (fun x1 hg => rfl)) rfl rfl (Ph1.all rfl (fun _ => rfl)) rfl ?_; refine DJN.abs (A := fun m q => IsBoils m q (rowL out hour)) [] (Ph1.all (fun hg => (OpAbs.call rfl (fun m hm => rowR_any hh (ho.le (by repeat first | exact hm.1 | replace hm := hm.2)) (by omega)))) (fun x1 hg => (OpAbs.call rfl (fun m hm => rowR_any hh (ho.le (by repeat first | exact hm.1 | replace hm := hm.2)) (by omega))))) (Ph1.all (fun hg => rfl) (fun x1 hg => rfl)) rfl rfl (Ph1.all rfl (fun _ => rfl)) rfl ?_
      refine DJN.val [(27, fun m q => IsBoils m q (rowL out hour))] (Ph1.all (fun hg => fun m27 v27 h27 => OpVal.cast (.call rfl (fun m hm => areSafeR_any (hv'.le (by repeat first | exact hm.1 | replace hm := hm.2)) hV (hl.le (by repeat first | exact hm.1 | replace hm := hm.2)) (h27.le (by repeat first | exact hm.1 | replace hm := hm.2)) (by simp [rowL]; omega))) (congrArg Value.bool hsf)) (fun x1 hg => Bool.noConfusion (show false = true from hg))) (Ph1.all (fun hg => rfl) (fun x1 hg => Bool.noConfusion (show false = true from hg))) rfl rfl (Ph1.all rfl (fun _ => rfl)) rfl ?_ (hG := ⟨(by repeat constructor), rfl, trivial⟩)
      refine DJN.val [] (Ph1.all (fun hg => OpVal.opv rfl) (fun x1 hg => OpVal.opv rfl)) (Ph1.all (fun hg => rfl) (fun x1 hg => rfl)) rfl rfl (Ph1.all rfl (fun _ => rfl)) rfl ?_; refine DJN.eff 0 [(17, _)] ⟨rfl, trivial⟩ rfl rfl [] trivial (Ph1.all (fun hg => ⟨rfl, fun M2 hM2 => ?_⟩) (fun x1 hg => absurd hg (by simp [Ph1.num]))) ?_
      · (refine .o rfl ?_; exact WL.nil ⟨.b (), rfl, Keff.intro (by repeat (first | exact trivial | refine ⟨rfl, ?_⟩)) (fun x hx => hx) (.refl _)⟩)
      refine DJN.nil (Ph1.all (fun hg => absurd hg (by simp [Ph1.num])) (fun x1 hg => ?_))
      rintro m27 v27 h27
      refine .o rfl ?_; refine WL.nil ?_; refine Kseq.go ?_
      refine W.ret ?_; refine Kseq.ret ?_; refine ⟨.inl rfl, [_, _], h, ⟨.tmp rfl, .tmp rfl, trivial⟩, (by repeat constructor), ?_⟩
      refine ⟨_, sf, rfl, fun e => ⟨out, ?_, ho⟩, fun e => ?_⟩
      · simp only [seqR]; rw [if_pos (by rw [hok]; exact e)]
      · simp only [seqR]; rw [if_neg (by rw [hok, e]; simp)]
  | succ m ih =>
    intro h v lv ov out hlen hv hl ho
    have hv' := hv
    obtain ⟨wv, pv, kv, tv, bv, sv, f, rfl, hA⟩ := hv
    have hthw := hV.thW
    have h10 := hV.th.2.2
    refine FnR.of_W (n := 53) Tryz.func112 rfl rfl (Nat.le_of_ble_eq_true rfl) fun c hr hD hF => ?_
    refine W.seq ?_; refine W.region ?_
    refine WL.box rfl rfl rfl rfl (fun b5 => ?_)
    iterate 2 refine .o rfl ?_
    refine WL.nil ?_
    refine Kseq.go (W.seq (W.seq ?_))
    refine W.freezeBox (.head _) (fun b hb => (hF b hb).elim) fun m5 h5 => ?_
    refine W.region ?_
    iterate 2 refine .o rfl ?_
    refine WL.nil ?_; refine Kseq.go ?_
    refine W.condD rfl rfl (fun he => absurd he (by omega)) (fun _ => ?_)
    refine W.skip (Kseq.go (W.seq (W.seq ?_)))
    refine W.region ?_; refine .o rfl ?_; refine WL.nil ?_
    refine Kseq.go (W.block ?_)
    refine W.loop (σ := Nat) (fun i => [(1, lv), (2, vi hour), (3, ov), (4, vi ((m + 1 : Nat) : Int)), (5, .pointer (some ⟨b5, 0, none⟩)), (12, vi (i : Int))]) (fun _ => [m5, h]) (fun _ => []) (fun i => i ≤ r.th ∧ ∀ j, j < i → seqR (okR r hour) r.th m (out ++ [(j : Int)]) = none) (fun i => r.th - i) 0 ⟨rfl, rfl, rfl, rfl, rfl, rfl, trivial⟩ (by simp) (List.nil_sublist _) ⟨Nat.zero_le _, fun j hj => absurd hj (Nat.not_lt_zero _)⟩ ?_
    rintro i ⟨hi, hprev⟩
    refine W.seq (W.seq ?_)
    refine W.region ?_; refine .o rfl ?_; refine .val (.loadPW rfl h5 (by repeat constructor) rfl) rfl rfl rfl ?_; refine .val (.cast (.call rfl (fun m hm => thingsR_any (hv'.le (by repeat first | exact hm.1 | replace hm := hm.2)))) (congrArg (Value.int .i64) hthw)) rfl rfl rfl ?_; refine .o rfl ?_; refine WL.nil ?_; refine Kseq.go ?_
    refine W.condD rfl rfl (fun hlt => ?_) (fun hge => ?_)
    · have hil : i < r.th := by omega
      let l0 : List (Nat × Value) := [(1, lv), (2, vi hour), (3, ov), (4, vi ((m + 1 : Nat) : Int)), (5, .pointer (some ⟨b5, 0, none⟩)), (12, vi (i : Int))]
      refine W.skip (Kseq.go (W.seq (W.block (W.seq ?_))))
      refine W.weaken l0 [m5, h] [] (by repeat (first | exact trivial | refine ⟨rfl, ?_⟩)) (by simp) (List.nil_sublist _) ?_
      obtain ⟨b0, hb0⟩ : ∃ b0, (seqR (okR r hour) r.th m (out ++ [(i : Int)])).isSome = b0 := ⟨_, rfl⟩
      let B : Mem → Value → Prop := fun mm x => b0 = true → ∃ c, seqR (okR r hour) r.th m (out ++ [(i : Int)]) = some c ∧ IsInts mm x c
      let A : Mem → Value → Prop := fun mm q => ∃ xv, q = .tuple #[xv, .bool b0] ∧ B mm xv
      have hmonoA : ∀ (mm : Mem) (q : Value), (∃ xv b, q = .tuple #[xv, .bool b] ∧ (b = true → ∃ c, seqR (okR r hour) r.th m (out ++ [(i : Int)]) = some c ∧ IsInts mm xv c) ∧ (b = false → seqR (okR r hour) r.th m (out ++ [(i : Int)]) = none)) → A mm q := by
        rintro mm _ ⟨xv, b, rfl, h1, h2⟩
        cases b with
        | true =>
          obtain ⟨c', hc, hI⟩ := h1 rfl
          have e : b0 = true := by rw [← hb0, hc]; rfl
          exact ⟨xv, by rw [e], fun _ => ⟨c', hc, hI⟩⟩
        | false =>
          have e : b0 = false := by rw [← hb0, h2 rfl]; rfl
          exact ⟨xv, by rw [e], fun e2 => by rw [e] at e2; cases e2⟩
      refine W.drawX (γ := Ph3 Nat (Option Addr × Nat) {z : (Option Addr × Nat) × Mem // IsInts z.2 (.slice z.1.1 (out.length + 1) z.1.2) (out ++ [(i : Int)])}) .a 16 [3, 5, 8] (Ph3.sel l0 (fun q => (40, .slice (some ⟨q, 0, none⟩) 0 0) :: l0) (fun q g => (42, .slice g.1 (0 + out.length) g.2) :: (40, .slice (some ⟨q, 0, none⟩) 0 0) :: l0) (fun q g z => (45, .slice z.1.1.1 (out.length + 1) z.1.1.2) :: (42, .slice g.1 (0 + out.length) g.2) :: (40, .slice (some ⟨q, 0, none⟩) 0 0) :: l0)) (Ph3.sel [m5, h] (fun _ => [m5, h]) (fun _ _ => [m5, h]) (fun _ _ z => [z.1.2, m5, h])) (Ph3.sel [] (fun q => [ir 3 (.slice (some ⟨q, 0, none⟩) 0 0) []]) (fun q g => [ir 3 (.slice g.1 (0 + out.length) g.2) out]) (fun q g z => [])) Ph3.num (by kernel_rfl) (by kernel_rfl) (by kernel_rfl) rfl Ph3.le (Ph3.all rfl (fun _ => rfl) (fun _ _ => rfl) (fun _ _ _ => rfl)) rfl rfl rfl ?_; refine DJX.val [] (Ph3.all (fun hg => OpVal.loadPW rfl h5 (by repeat constructor) rfl) (fun x1 hg => OpVal.loadPW rfl h5 (by repeat constructor) rfl) (fun x1 x2 hg => OpVal.loadPW rfl h5 (by repeat constructor) rfl) (fun x1 x2 x3 hg => OpVal.loadPW rfl h5 (by repeat constructor) rfl)) (Ph3.all (fun hg => rfl) (fun x1 hg => rfl) (fun x1 x2 hg => rfl) (fun x1 x2 x3 hg => rfl)) rfl rfl (Ph3.all rfl (fun _ => rfl) (fun _ _ => rfl) (fun _ _ _ => rfl)) rfl ?_
      refine DJX.val [] (Ph3.all (fun hg => OpVal.opv rfl) (fun x1 hg => OpVal.opv rfl) (fun x1 x2 hg => OpVal.opv rfl) (fun x1 x2 x3 hg => OpVal.opv rfl)) (Ph3.all (fun hg => rfl) (fun x1 hg => rfl) (fun x1 x2 hg => rfl) (fun x1 x2 x3 hg => rfl)) rfl rfl (Ph3.all rfl (fun _ => rfl) (fun _ _ => rfl) (fun _ _ _ => rfl)) rfl ?_; refine DJX.val [] (Ph3.all (fun hg => OpVal.opv rfl) (fun x1 hg => OpVal.opv rfl) (fun x1 x2 hg => OpVal.opv rfl) (fun x1 x2 x3 hg => OpVal.opv rfl)) (Ph3.all (fun hg => rfl) (fun x1 hg => rfl) (fun x1 x2 hg => rfl) (fun x1 x2 x3 hg => rfl)) rfl rfl (Ph3.all rfl (fun _ => rfl) (fun _ _ => rfl) (fun _ _ _ => rfl)) rfl ?_; refine DJX.eff 0 [] trivial rfl rfl [] trivial (Ph3.all (fun hg => ⟨rfl, fun M2 hM2 => ?_⟩) (fun x1 hg => absurd hg (by simp [Ph3.num])) (fun x1 x2 hg => absurd hg (by simp [Ph3.num])) (fun x1 x2 x3 hg => absurd hg (by simp [Ph3.num]))) ?_
      · (refine WL.lit (vs := []) [] rfl (Nat.le_of_ble_eq_true rfl) rfl rfl (by simp) (Nat.le_of_ble_eq_true rfl) rfl rfl rfl rfl (fun b40 => ?_); exact WL.nil ⟨.b b40, rfl, Keff.intro (by repeat (first | exact trivial | refine ⟨rfl, ?_⟩)) (fun x hx => (List.mem_append.1 hx).elim (fun h => h) (fun h => hM2 x h)) (.refl _)⟩)
      refine DJX.val [] (Ph3.all (fun hg => OpVal.opv rfl) (fun x1 hg => OpVal.opv rfl) (fun x1 x2 hg => Bool.noConfusion (show false = true from hg)) (fun x1 x2 x3 hg => Bool.noConfusion (show false = true from hg))) (Ph3.all (fun hg => rfl) (fun x1 hg => rfl) (fun x1 x2 hg => Bool.noConfusion (show false = true from hg)) (fun x1 x2 x3 hg => Bool.noConfusion (show false = true from hg))) rfl rfl (Ph3.all rfl (fun _ => rfl) (fun _ _ => rfl) (fun _ _ _ => rfl)) rfl ?_; refine DJX.eff 1 [(41, _)] ⟨rfl, trivial⟩ rfl rfl [] trivial (Ph3.all (fun hg => absurd hg (by simp [Ph3.num])) (fun x1 hg => ⟨rfl, fun M2 hM2 => ?_⟩) (fun x1 x2 hg => absurd hg (by simp [Ph3.num])) (fun x1 x2 x3 hg => absurd hg (by simp [Ph3.num]))) ?_
      · (refine WL.appInts (xs := []) rfl (fun _ => .head _) rfl ho (hM2 h (by simp)) (by simp; omega) rfl rfl rfl ?_; intro a42 c42; exact WL.nil ⟨.c x1 (a42, c42), rfl, Keff.intro (by repeat (first | exact trivial | refine ⟨rfl, ?_⟩)) (fun x hx => (List.mem_append.1 hx).elim (fun h => h) (fun h => hM2 x h)) (.refl _)⟩)
      refine DJX.val [] (Ph3.all (fun hg => OpVal.opv rfl) (fun x1 hg => OpVal.opv rfl) (fun x1 x2 hg => OpVal.opv rfl) (fun x1 x2 x3 hg => OpVal.opv rfl)) (Ph3.all (fun hg => rfl) (fun x1 hg => rfl) (fun x1 x2 hg => rfl) (fun x1 x2 x3 hg => rfl)) rfl rfl (Ph3.all rfl (fun _ => rfl) (fun _ _ => rfl) (fun _ _ _ => rfl)) rfl ?_; refine DJX.abs (A := fun m r0 => IsCells m 1 r0 1 [vi i]) [] (Ph3.all (fun hg => (OpAbs.litI rfl)) (fun x1 hg => (OpAbs.litI rfl)) (fun x1 x2 hg => (OpAbs.litI rfl)) (fun x1 x2 x3 hg => Bool.noConfusion (show false = true from hg))) (Ph3.all (fun hg => rfl) (fun x1 hg => rfl) (fun x1 x2 hg => rfl) (fun x1 x2 x3 hg => Bool.noConfusion (show false = true from hg))) rfl rfl (Ph3.all rfl (fun _ => rfl) (fun _ _ => rfl) (fun _ _ _ => rfl)) rfl ?_; refine DJX.eff 2 [] trivial rfl rfl [(44, fun m r0 => IsCells m 1 r0 1 [vi i])] ⟨(by repeat constructor), rfl, trivial⟩ (Ph3.all (fun hg => absurd hg (by simp [Ph3.num])) (fun x1 hg => absurd hg (by simp [Ph3.num])) (fun x1 x2 hg => ⟨rfl, fun M2 hM2 => ?_⟩) (fun x1 x2 x3 hg => absurd hg (by simp [Ph3.num]))) ?_
      · intro m44 v44 h44
        (refine WL.appInt (k := (i : Int)) rfl (fun _ => .head _) rfl h44 (.head _) (by omega) rfl rfl rfl ?_; intro a45 c45; refine WL.freezeInts (.head _) (fun b hb => (hF b hb).elim) fun mo hmo => ?_; exact WL.nil ⟨.d x1 x2 ⟨((a45, c45), mo), hmo⟩, rfl, Keff.intro (by repeat (first | exact trivial | refine ⟨rfl, ?_⟩)) (fun x hx => (List.mem_append.1 hx).elim (fun h => .tail _ (.tail _ h)) (fun h => by rcases List.mem_cons.1 h with rfl | h2; exact .head _; exact .tail _ (.tail _ (hM2 x h2)))) (.refl _)⟩)
      refine DJX.val [] (Ph3.all (fun hg => OpVal.opv rfl) (fun x1 hg => OpVal.opv rfl) (fun x1 x2 hg => OpVal.opv rfl) (fun x1 x2 x3 hg => OpVal.opv rfl)) (Ph3.all (fun hg => rfl) (fun x1 hg => rfl) (fun x1 x2 hg => rfl) (fun x1 x2 x3 hg => rfl)) rfl rfl (Ph3.all rfl (fun _ => rfl) (fun _ _ => rfl) (fun _ _ _ => rfl)) rfl ?_; refine DJX.val [] (Ph3.all (fun hg => OpVal.cast (.sub rfl rfl (by omega) (by omega)) (show _ = vi (m : Int) from congrArg (Value.int .i64) (by omega))) (fun x1 hg => OpVal.cast (.sub rfl rfl (by omega) (by omega)) (show _ = vi (m : Int) from congrArg (Value.int .i64) (by omega))) (fun x1 x2 hg => OpVal.cast (.sub rfl rfl (by omega) (by omega)) (show _ = vi (m : Int) from congrArg (Value.int .i64) (by omega))) (fun x1 x2 x3 hg => OpVal.cast (.sub rfl rfl (by omega) (by omega)) (show _ = vi (m : Int) from congrArg (Value.int .i64) (by omega)))) (Ph3.all (fun hg => rfl) (fun x1 hg => rfl) (fun x1 x2 hg => rfl) (fun x1 x2 x3 hg => rfl)) rfl rfl (Ph3.all rfl (fun _ => rfl) (fun _ _ => rfl) (fun _ _ _ => rfl)) rfl ?_
      refine DJX.abs (A := A) [] (Ph3.all (fun hg => Bool.noConfusion (show false = true from hg)) (fun x1 hg => Bool.noConfusion (show false = true from hg)) (fun x1 x2 hg => Bool.noConfusion (show false = true from hg)) (fun x1 x2 x3 hg => (OpAbs.mono (OpAbs.call rfl (fun m hm => ih (by simp; omega) (hv'.le (by repeat first | exact hm.1 | replace hm := hm.2)) (hl.le (by repeat first | exact hm.1 | replace hm := hm.2)) (x3.2.le (by repeat first | exact hm.1 | replace hm := hm.2)))) hmonoA))) (Ph3.all (fun hg => Bool.noConfusion (show false = true from hg)) (fun x1 hg => Bool.noConfusion (show false = true from hg)) (fun x1 x2 hg => Bool.noConfusion (show false = true from hg)) (fun x1 x2 x3 hg => rfl)) rfl rfl (Ph3.all rfl (fun _ => rfl) (fun _ _ => rfl) (fun _ _ _ => rfl)) rfl ?_
      refine DJX.abs (A := A) [(48, A)] (Ph3.all (fun hg => fun m48 v48 h48 => (by obtain ⟨xv, rfl, h⟩ := h48; exact OpAbs.ofVal (OpVal.opv rfl) (.head _) ⟨xv, rfl, h⟩)) (fun x1 hg => fun m48 v48 h48 => (by obtain ⟨xv, rfl, h⟩ := h48; exact OpAbs.ofVal (OpVal.opv rfl) (.head _) ⟨xv, rfl, h⟩)) (fun x1 x2 hg => fun m48 v48 h48 => (by obtain ⟨xv, rfl, h⟩ := h48; exact OpAbs.ofVal (OpVal.opv rfl) (.head _) ⟨xv, rfl, h⟩)) (fun x1 x2 x3 hg => fun m48 v48 h48 => (by obtain ⟨xv, rfl, h⟩ := h48; exact OpAbs.ofVal (OpVal.opv rfl) (.head _) ⟨xv, rfl, h⟩))) (Ph3.all (fun hg => rfl) (fun x1 hg => rfl) (fun x1 x2 hg => rfl) (fun x1 x2 x3 hg => rfl)) rfl rfl (Ph3.all rfl (fun _ => rfl) (fun _ _ => rfl) (fun _ _ _ => rfl)) rfl ?_ (hG := ⟨(by repeat constructor), rfl, trivial⟩)
      refine DJX.abs (A := B) [(36, A)] (Ph3.all (fun hg => fun m36 v36 h36 => (by obtain ⟨xv, rfl, h⟩ := h36; exact OpAbs.ofVal (OpVal.opv rfl) (.head _) h)) (fun x1 hg => fun m36 v36 h36 => (by obtain ⟨xv, rfl, h⟩ := h36; exact OpAbs.ofVal (OpVal.opv rfl) (.head _) h)) (fun x1 x2 hg => fun m36 v36 h36 => (by obtain ⟨xv, rfl, h⟩ := h36; exact OpAbs.ofVal (OpVal.opv rfl) (.head _) h)) (fun x1 x2 x3 hg => fun m36 v36 h36 => (by obtain ⟨xv, rfl, h⟩ := h36; exact OpAbs.ofVal (OpVal.opv rfl) (.head _) h))) (Ph3.all (fun hg => rfl) (fun x1 hg => rfl) (fun x1 x2 hg => rfl) (fun x1 x2 x3 hg => rfl)) rfl rfl (Ph3.all rfl (fun _ => rfl) (fun _ _ => rfl) (fun _ _ _ => rfl)) rfl ?_ (hG := ⟨(by repeat constructor), rfl, trivial⟩)
      refine DJX.val [(36, A)] (Ph3.all (fun hg => fun m36 v36 h36 => (show OpVal _ _ _ _ _ (Value.bool b0) from by obtain ⟨xv, rfl, _⟩ := h36; exact OpVal.opv rfl)) (fun x1 hg => fun m36 v36 h36 => (show OpVal _ _ _ _ _ (Value.bool b0) from by obtain ⟨xv, rfl, _⟩ := h36; exact OpVal.opv rfl)) (fun x1 x2 hg => fun m36 v36 h36 => (show OpVal _ _ _ _ _ (Value.bool b0) from by obtain ⟨xv, rfl, _⟩ := h36; exact OpVal.opv rfl)) (fun x1 x2 x3 hg => fun m36 v36 h36 => (show OpVal _ _ _ _ _ (Value.bool b0) from by obtain ⟨xv, rfl, _⟩ := h36; exact OpVal.opv rfl))) (Ph3.all (fun hg => rfl) (fun x1 hg => rfl) (fun x1 x2 hg => rfl) (fun x1 x2 x3 hg => rfl)) rfl rfl (Ph3.all rfl (fun _ => rfl) (fun _ _ => rfl) (fun _ _ _ => rfl)) rfl ?_ (hG := ⟨(by repeat constructor), rfl, trivial⟩)
      refine DJX.abs (A := B) [(49, B)] (Ph3.all (fun hg => Bool.noConfusion (show false = true from hg)) (fun x1 hg => Bool.noConfusion (show false = true from hg)) (fun x1 x2 hg => Bool.noConfusion (show false = true from hg)) (fun x1 x2 x3 hg => fun m49 v49 h49 => (OpAbs.ofVal (OpVal.opv rfl) (.head _) h49))) (Ph3.all (fun hg => Bool.noConfusion (show false = true from hg)) (fun x1 hg => Bool.noConfusion (show false = true from hg)) (fun x1 x2 hg => Bool.noConfusion (show false = true from hg)) (fun x1 x2 x3 hg => rfl)) rfl rfl (Ph3.all rfl (fun _ => rfl) (fun _ _ => rfl) (fun _ _ _ => rfl)) rfl ?_ (hG := ⟨(by repeat constructor), rfl, trivial⟩)
      refine DJX.nil (Ph3.all (fun hg => absurd hg (by simp [Ph3.num])) (fun x1 hg => absurd hg (by simp [Ph3.num])) (fun x1 x2 hg => absurd hg (by simp [Ph3.num])) (fun x1 x2 x3 hg => ?_))
      rintro m13 v13 h13
      rintro m49 v49 h49
      rintro m36 v36 h36
      rintro m48 v48 h48
      rintro m44 v44 h44
      refine .o rfl ?_; refine WL.nil ?_
      refine Kseq.go (W.seq ?_)
      cases b0 with
      | true =>
        obtain ⟨c', hc, hI⟩ := h13 rfl
        refine W.region ?_; refine .o rfl ?_; refine WL.nil ?_; refine Kseq.go ?_; refine W.condT rfl rfl ?_; refine W.seq ?_; refine W.region ?_
        iterate 3 refine .o rfl ?_
        refine WL.nil ?_; refine Kseq.go ?_
        refine W.ret ?_; refine Kblock.ret (Kseq.ret (Kloop.ret (Kblock.ret (Kseq.ret ?_)))); refine ⟨.inl rfl, [_, _], m13, ⟨.tmp rfl, .tmp rfl, trivial⟩, (by repeat constructor), ?_⟩
        exact ⟨_, true, rfl, fun _ => ⟨c', by simp only [seqR]; exact fsome_hit (Nat.zero_le _) (by omega) (fun j _ h2 => hprev j h2) hc, hI⟩, fun h => by (cases h)⟩
      | false =>
        refine W.region ?_; refine .o rfl ?_; refine WL.nil ?_; refine Kseq.go ?_; refine W.condF rfl rfl ?_
        refine W.skip (Kblock.normal (Kseq.go ?_))
        refine W.region ?_; refine .o rfl ?_; refine .val (.incr rfl (by omega)) rfl rfl rfl ?_; refine .o rfl ?_; refine WL.nil ?_
        refine Kloop.next (i + 1) ⟨by omega, fun j k2 => ?_⟩ (by omega) ⟨rfl, rfl, rfl, rfl, rfl, rfl, trivial⟩ (by simp) (List.nil_sublist _)
        rcases Nat.lt_succ_iff_lt_or_eq.1 k2 with h2 | rfl
        · exact hprev j h2
        · exact Option.isNone_iff_eq_none.1 (by rw [← Option.not_isSome, hb0]; rfl)
    · refine W.exit (Kseq.exit (Kloop.exit (Kblock.here (Kseq.go (W.seq ?_)))))
      have hii : i = r.th := by omega
      subst hii
      refine W.region ?_
      iterate 2 refine .o rfl ?_
      refine WL.nil ?_; refine Kseq.go ?_
      refine W.ret ?_; refine ⟨.inl rfl, [_, _], h, ⟨.tmp rfl, .tmp rfl, trivial⟩, (by repeat constructor), ?_⟩
      exact ⟨_, false, rfl, fun h => by (cases h), fun _ => by simp only [seqR]; exact fsome_none fun j _ k2 => hprev j (by omega)⟩
/-- Order -/
theorem orderR_any {h : Mem} {v lv : Value} {r : House} {hour : Int} (hv : IsHouse h v r) (hV : ValidH r) (hh : 0 ≤ hour ∧ hour ≤ 1000) (hl : IsCourses h lv (truths6 r)) : FnR Tryz.prog 62 #[v, lv, vi hour] h (fun mm q => ∃ xv b, q = .tuple #[xv, .bool b] ∧ (b = true → ∃ c, seqAll (okR r hour) r.th 4 = some c ∧ IsInts mm xv c) ∧ (b = false → seqAll (okR r hour) r.th 4 = none)) := by
  have hv' := hv
  obtain ⟨wv, pv, kv, tv, bv, sv, f, rfl, hA⟩ := hv
  refine FnR.of_W (n := 25) Tryz.func62 rfl rfl (Nat.le_of_ble_eq_true rfl) fun c hr hD hF => ?_
  refine W.seq ?_; refine W.region ?_
  refine WL.box rfl rfl rfl rfl (fun b3 => ?_)
  iterate 2 refine .o rfl ?_
  refine WL.nil ?_
  refine Kseq.go (W.seq (W.seq ?_))
  refine W.freezeBox (.head _) (fun b hb => (hF b hb).elim) fun m3 h3 => ?_
  refine W.region ?_; refine .o rfl ?_; refine WL.nil ?_
  refine Kseq.go (W.block ?_)
  refine W.loop (σ := Nat) (fun i => [(1, lv), (2, vi hour), (3, .pointer (some ⟨b3, 0, none⟩)), (8, vi (i : Int))]) (fun _ => [m3, h]) (fun _ => []) (fun i => i ≤ 4 ∧ ∀ j, j < i → seqR (okR r hour) r.th j [] = none) (fun i => 4 - i) 0 ⟨rfl, rfl, rfl, rfl, trivial⟩ (by simp) (List.nil_sublist _) ⟨Nat.zero_le _, fun j hj => absurd hj (Nat.not_lt_zero _)⟩ ?_
  rintro i ⟨hi, hprev⟩
  refine W.seq (W.seq ?_)
  refine W.region ?_
  iterate 2 refine .o rfl ?_
  refine WL.nil ?_; refine Kseq.go ?_
  refine W.condD rfl rfl (fun hlt => ?_) (fun hge => ?_)
  · have hil : i < 4 := by omega
    refine W.skip (Kseq.go (W.seq (W.block (W.seq ?_))))
    refine W.region ?_; refine .val (.loadPW rfl h3 (by repeat constructor) rfl) rfl rfl rfl ?_
    iterate 3 refine .o rfl ?_
    refine WL.abs (OpAbs.call rfl (fun m hm => longer_any hV hh i (out := []) (by simp only [List.length_nil]; omega) (hv'.le (by repeat first | exact hm.1 | replace hm := hm.2)) (hl.le (by repeat first | exact hm.1 | replace hm := hm.2)) (IsArr.nil m 1 _))) rfl rfl rfl ?_
    rintro m20 _ ⟨xv, b, rfl, hb1, hb2⟩
    iterate 5 refine .o rfl ?_
    refine WL.nil ?_
    refine Kseq.go (W.seq ?_)
    cases b with
    | true =>
      obtain ⟨c', hc, hI⟩ := hb1 rfl
      refine W.region ?_; refine .o rfl ?_; refine WL.nil ?_; refine Kseq.go ?_; refine W.condT rfl rfl ?_; refine W.seq ?_; refine W.region ?_
      iterate 3 refine .o rfl ?_
      refine WL.nil ?_; refine Kseq.go ?_
      refine W.ret ?_; refine Kblock.ret (Kseq.ret (Kloop.ret (Kblock.ret (Kseq.ret ?_)))); refine ⟨.inl rfl, [_, _], m20, ⟨.tmp rfl, .tmp rfl, trivial⟩, (by repeat constructor), ?_⟩
      exact ⟨_, true, rfl, fun _ => ⟨c', by unfold seqAll; exact fsome_hit (Nat.zero_le _) (by omega) (fun j _ h2 => hprev j h2) hc, hI⟩, fun h => by (cases h)⟩
    | false =>
      refine W.region ?_; refine .o rfl ?_; refine WL.nil ?_; refine Kseq.go ?_; refine W.condF rfl rfl ?_
      refine W.skip (Kblock.normal (Kseq.go ?_))
      refine W.region ?_; refine .o rfl ?_; refine .val (.incr rfl (by omega)) rfl rfl rfl ?_; refine .o rfl ?_; refine WL.nil ?_
      refine Kloop.next (i + 1) ⟨by omega, fun j k2 => ?_⟩ (by omega) ⟨rfl, rfl, rfl, rfl, trivial⟩ (by simp) (List.nil_sublist _)
      rcases Nat.lt_succ_iff_lt_or_eq.1 k2 with h2 | rfl
      · exact hprev j h2
      · exact hb2 rfl
  · refine W.exit (Kseq.exit (Kloop.exit (Kblock.here (Kseq.go (W.seq ?_)))))
    have hii : i = 4 := by omega
    subst hii
    refine W.region ?_
    iterate 2 refine .o rfl ?_
    refine WL.nil ?_; refine Kseq.go ?_
    refine W.ret ?_; refine ⟨.inl rfl, [_, _], h, ⟨.tmp rfl, .tmp rfl, trivial⟩, (by repeat constructor), ?_⟩
    exact ⟨_, false, rfl, fun h => by (cases h), fun _ => by unfold seqAll; exact fsome_none fun j _ k2 => hprev j (by omega)⟩
/-! ### Both find the same -/
theorem LeastO.unique {ok : List Int → Bool} {W n : Nat} {a b : List Int} (ha : LeastO ok W n a) (hb : LeastO ok W n b) : a = b := by
  refine Classical.byContradiction fun hne => ?_
  rcases shorter_total hne with h | h
  · rw [hb.no a ha.len ha.below ha.is] at h; cases h
  · rw [ha.no b hb.len hb.below hb.is] at h; cases h
theorem okR_iff {r : House} (hV : ValidH r) {hour : Nat} (hh : (hour : Int) ≤ r.last) {x : List Int} (hB : Below r.th x) : (x.length < 4 ∧ okR r hour x = true) ↔ (x.length < (longest r hour).toNat + 1 ∧ okO r hour x = true) := by
  have hL := longest_le hV hh
  have hla := hV.last
  have hd : longest r hour = min 3 (r.last - hour + 1) := rfl
  unfold okR isOrdB okO
  rw [(ord_below hV).2 hB]
  simp only [Bool.true_and, Bool.and_eq_true, decide_eq_true_eq]
  constructor
  · rintro ⟨h1, ⟨h2, h3⟩, h4⟩; exact ⟨by omega, h4⟩
  · rintro ⟨h1, h2⟩; exact ⟨by omega, ⟨by omega, by omega⟩, h2⟩
theorem order_same {r : House} (hV : ValidH r) {hour : Nat} (hh : (hour : Int) ≤ r.last) : seqAll (okR r hour) r.th 4 = order6 r hour := by
  have key : ∀ {c : List Int}, order6 r hour = some c → LeastO (okR r hour) r.th 4 c := fun {c} h => by
    have hS := order6_least h
    have h1 := (okR_iff hV hh hS.below).2 ⟨hS.len, hS.is⟩
    refine ⟨h1.1, hS.below, h1.2, fun d hl hB hk => ?_⟩
    have h2 := (okR_iff hV hh hB).1 ⟨hl, hk⟩
    exact hS.no d h2.1 hB h2.2
  cases ho : order6 r hour with
  | some c =>
    cases hs : seqAll (okR r hour) r.th 4 with
    | some c' => rw [(seqAll_some hs).unique (key ho)]
    | none =>
      have h1 := key ho
      have := seqAll_none hs h1.len h1.below
      rw [h1.is] at this; cases this
  | none =>
    cases hs : seqAll (okR r hour) r.th 4 with
    | none => rfl
    | some c' =>
      have h1 := seqAll_some hs
      have h2 := (okR_iff hV hh h1.below).1 ⟨h1.len, h1.is⟩
      have h3 : okO r hour c' = false := seqAll_none ho h2.1 h1.below
      rw [h2.2] at h3; cases h3
theorem proveOrd_E {r : House} {hour : Int} {x : List Int} {m : Int} (h : proveOrdB r hour x m = true) : ask6E r (isHour r hour) = 0 := by
  unfold proveOrdB at h
  simp only [Bool.and_eq_true, decide_eq_true_eq] at h
  obtain ⟨h1, h2, h3⟩ := ask6E_iff.1 h.1
  rw [Bool.and_eq_true] at h2
  exact ask6E_iff.2 ⟨h1, h2.1, h3⟩
theorem proveOrd_val {r : House} {hour : Int} {x : List Int} {m : Int} (h : ask6E r (isHour r hour) = 0) : proveOrdB r hour x m = (isOrdB r hour x && (decide ((x.length : Int) ≤ m) && safeL r (ask6 r) (rowL x hour))) := by
  obtain ⟨h1, h2, h3⟩ := ask6E_iff.1 h
  have e : decide (ask6E r (isHour r hour && ordB r x) = 0) = ordB r x := by
    rw [Bool.eq_iff_iff, decide_eq_true_eq, ask6E_iff, h2, Bool.true_and]
    exact ⟨fun h => h.2.1, fun h => ⟨h1, h, h3⟩⟩
  have e2 : decide ((x.length : Int) ≤ longest r hour) = (decide (x.length ≤ 3) && decide (hour + x.length - 1 ≤ r.last)) := by
    rw [Bool.eq_iff_iff, Bool.and_eq_true, decide_eq_true_eq, decide_eq_true_eq, decide_eq_true_eq]
    unfold longest
    omega
  unfold proveOrdB isOrdB
  rw [e, e2]
  cases ordB r x <;> cases decide ((x.length : Int) ≤ m) <;> cases decide (x.length ≤ 3) <;> cases decide (hour + x.length - 1 ≤ r.last) <;> rfl
/-- SickOrders -/
theorem sickOrders_any {h : Mem} {v tvv : Value} {r : House} (hv : IsHouse h v r) (hour : Int) {x : List Int} (hx : IsInts h tvv x) (many : Int) : FnV Tryz.prog 13 #[v, vi hour, tvv, vi many] h (.bool true) := by
  have hv' := hv
  obtain ⟨wv, pv, kv, tv, bv, sv, f, rfl, hA⟩ := hv
  have hxb := hx.bd
  refine FnR.val ?_
  refine FnR.of_W (n := 111) Tryz.func13 rfl rfl (Nat.le_of_ble_eq_true rfl) fun c hr hD hF => ?_
  refine W.seq ?_; refine W.region ?_
  refine WL.box rfl rfl rfl rfl (fun b4 => ?_)
  refine .o rfl ?_; refine WL.nil ?_
  refine Kseq.go (W.seq (W.seq ?_))
  refine W.freezeBox (.head _) (fun b hb => (hF b hb).elim) fun m4 h4 => ?_
  cases hth : thin6 r with
  | false =>
    refine W.region ?_; refine .val (.loadPW rfl h4 (by repeat constructor) rfl) rfl rfl rfl ?_; refine .val (.cast (.call rfl (fun m hm => thin6_any (hv'.le (by repeat first | exact hm.1 | replace hm := hm.2)))) (congrArg Value.bool hth)) rfl rfl rfl ?_
    iterate 2 refine .o rfl ?_
    refine WL.pass rfl rfl rfl ?_; refine WL.pass rfl rfl rfl ?_; refine WL.pass rfl rfl rfl ?_; refine .o rfl ?_; refine WL.nil ?_; refine Kseq.go ?_; refine W.condT rfl rfl ?_; refine W.seq ?_; refine W.region ?_; refine .val (.call rfl (fun m hm => awake6_any)) rfl rfl rfl ?_; refine .o rfl ?_; refine WL.nil ?_; refine Kseq.go ?_
    refine W.ret ?_; refine Kseq.ret ?_; refine ⟨.inl rfl, [_], h, ⟨.tmp rfl, trivial⟩, (by repeat constructor), ?_⟩
    rfl
  | true =>
  have hs := thin6_sm hth
  by_cases hl12 : 5 < x.length
  · skip
    refine W.region ?_; refine .val (.loadPW rfl h4 (by repeat constructor) rfl) rfl rfl rfl ?_; refine .val (.cast (.call rfl (fun m hm => thin6_any (hv'.le (by repeat first | exact hm.1 | replace hm := hm.2)))) (congrArg Value.bool hth)) rfl rfl rfl ?_
    iterate 3 refine .o rfl ?_
    refine .val (.len rfl hx) rfl rfl rfl ?_; refine .val (.cast (.opv rfl) (congrArg Value.bool (decide_eq_true (by omega)))) rfl rfl rfl ?_; refine .o rfl ?_; refine WL.nil ?_; refine Kseq.go ?_; refine W.condT rfl rfl ?_; refine W.seq ?_; refine W.region ?_; refine .val (.call rfl (fun m hm => awake6_any)) rfl rfl rfl ?_; refine .o rfl ?_; refine WL.nil ?_; refine Kseq.go ?_
    refine W.ret ?_; refine Kseq.ret ?_; refine ⟨.inl rfl, [_], h, ⟨.tmp rfl, trivial⟩, (by repeat constructor), ?_⟩
    rfl
  refine W.region ?_; refine .val (.loadPW rfl h4 (by repeat constructor) rfl) rfl rfl rfl ?_; refine .val (.cast (.call rfl (fun m hm => thin6_any (hv'.le (by repeat first | exact hm.1 | replace hm := hm.2)))) (congrArg Value.bool hth)) rfl rfl rfl ?_
  iterate 3 refine .o rfl ?_
  refine .val (.len rfl hx) rfl rfl rfl ?_; refine .val (.cast (.opv rfl) (congrArg Value.bool (decide_eq_false (by omega)))) rfl rfl rfl ?_; refine .o rfl ?_; refine WL.nil ?_; refine Kseq.go ?_; refine W.condF rfl rfl ?_
  refine W.skip (Kseq.go (W.seq ?_))
  obtain ⟨E, hE⟩ : ∃ E, ask6E r (isHour r hour) = E := ⟨_, rfl⟩
  obtain ⟨B, hB⟩ : ∃ B, proveOrdB r hour x many = B := ⟨_, rfl⟩
  obtain ⟨O, hO⟩ : ∃ O, ordE r hour = O := ⟨_, rfl⟩
  refine W.region ?_; refine .val (.loadPW rfl h4 (by repeat constructor) rfl) rfl rfl rfl ?_; refine WL.abs (OpAbs.call rfl (fun m hm => houseL_any (hv'.le (by repeat first | exact hm.1 | replace hm := hm.2)) hs)) rfl rfl rfl ?_
  rintro m27 v27 h27
  refine .o rfl ?_; refine WL.abs (OpAbs.call rfl (fun m hm => order6_any hour (h27.le (by repeat first | exact hm.1 | replace hm := hm.2)) hs)) rfl rfl rfl ?_
  rintro m29 _ ⟨xv, rfl, hxa, hxb2⟩
  rw [hO] at hxa hxb2
  rw [hO]
  iterate 5 refine .o rfl ?_
  refine WL.nil ?_
  refine Kseq.go (W.seq ?_)
  refine W.region ?_; refine .val (.loadPW rfl h4 (by repeat constructor) rfl) rfl rfl rfl ?_; refine WL.abs (OpAbs.call rfl (fun m hm => houseL_any (hv'.le (by repeat first | exact hm.1 | replace hm := hm.2)) hs)) rfl rfl rfl ?_
  rintro m33 v33 h33
  iterate 2 refine .o rfl ?_
  refine WL.abs (OpAbs.call rfl (fun m hm => list6_any (hx.le (by repeat first | exact hm.1 | replace hm := hm.2)) (by omega))) rfl rfl rfl ?_
  rintro m36 v36 h36
  refine .o rfl ?_; refine .val (.cast (.call rfl (fun m hm => proveOrder_any many (h33.le (by repeat first | exact hm.1 | replace hm := hm.2)) hs (h36.le (by repeat first | exact hm.1 | replace hm := hm.2)) (by omega))) (congrArg Value.bool hB)) rfl rfl rfl ?_; refine .o rfl ?_; refine WL.nil ?_
  refine Kseq.go (W.seq ?_)
  refine W.region ?_; refine .val (.loadPW rfl h4 (by repeat constructor) rfl) rfl rfl rfl ?_; refine .o rfl ?_; refine WL.abs (OpAbs.call rfl (fun m hm => within6L_any hour (hv'.le (by repeat first | exact hm.1 | replace hm := hm.2)) hs)) rfl rfl rfl ?_
  rintro m42 _ ⟨lv, rfl, hlv⟩
  rw [hE] at hlv
  rw [hE]
  iterate 5 refine .o rfl ?_
  refine WL.nil ?_
  refine Kseq.go (W.seq (W.seq ?_))
  by_cases h0 : E = 0
  · subst h0
    have hEi := ask6E_iff.1 hE
    have hV := fault6_zero.1 hEi.1
    have hhr := isHour_iff.1 hEi.2.1
    have hla := hV.last
    obtain ⟨k, hk⟩ : ∃ k : Nat, hour = (k : Int) := ⟨hour.toNat, by omega⟩
    subst hk
    have hkl : (k : Int) ≤ r.last := by omega
    have hT := hlv rfl
    have hval := proveOrd_val (x := x) (m := many) hE
    rw [hB] at hval
    have hOe := ordE_eq hV hkl
    rw [hO, if_neg hEi.2.2] at hOe
    have hsame := order_same hV hkl
    refine W.region ?_; refine .o rfl ?_; refine .val (OpVal.neqF6 rfl rfl) rfl rfl rfl ?_; refine WL.nil ?_; refine Kseq.go ?_; refine W.condF rfl rfl ?_
    refine W.skip (Kseq.go (W.seq (W.seq ?_)))
    refine W.toS [(1, vi (k : Int)), (4, .pointer (some ⟨b4, 0, none⟩)), (9, xv), (10, vi O), (12, lv), (81, .bool false)] ?_ ?_
    · cases hA1 : isOrdB r k x with
      | false =>
        have hB0 : B = false := by rw [hval, hA1]; rfl
        subst hB0
        refine W.draw 19 (by kernel_rfl) (by kernel_rfl) (by kernel_rfl) rfl ?_; refine .val [] (.opv rfl) rfl rfl rfl rfl ?_; refine .val [] (.loadPW rfl h4 (by repeat constructor) rfl) rfl rfl rfl rfl ?_; refine .val [] (.opv rfl) rfl rfl rfl rfl ?_; refine .val [] (.opv rfl) rfl rfl rfl rfl ?_; refine .val [] (.cast (.call rfl (fun m hm => isOrder_any (hv'.le (by repeat first | exact hm.1 | replace hm := hm.2)) hV (hx.le (by repeat first | exact hm.1 | replace hm := hm.2)) (by omega) (by omega))) (congrArg Value.bool hA1)) rfl rfl rfl rfl ?_; refine .val [] (.opv rfl) rfl rfl rfl rfl ?_; refine DJ.pass rfl rfl rfl rfl ?_; refine DJ.pass rfl rfl rfl rfl ?_; refine DJ.pass rfl rfl rfl rfl ?_; refine DJ.pass rfl rfl rfl rfl ?_; refine .val [] (.opv rfl) rfl rfl rfl rfl ?_; refine .val [] (.opv rfl) rfl rfl rfl rfl ?_; refine DJ.pass rfl rfl rfl rfl ?_; refine DJ.pass rfl rfl rfl rfl ?_
        refine DJ.pass rfl rfl rfl rfl ?_; refine DJ.pass rfl rfl rfl rfl ?_; refine DJ.pass rfl rfl rfl rfl ?_; refine DJ.pass rfl rfl rfl rfl ?_; refine .val [] (.opv rfl) rfl rfl rfl rfl ?_; refine DJ.nil ?_; refine .val (.cast (OpVal.neqB6 rfl rfl) (show _ = Value.bool false from rfl)) rfl rfl rfl ?_; refine WL.nil ?_
        exact Keff.intro (by repeat (first | exact trivial | refine ⟨rfl, ?_⟩)) (by intro y hy; repeat (first | exact hy | refine .tail _ ?_)) (by repeat first | exact .refl _ | refine .cons _ ?_)
      | true =>
        cases hA2 : decide ((x.length : Int) ≤ many) with
        | false =>
          have hB0 : B = false := by rw [hval, hA1, hA2]; rfl
          subst hB0
          refine W.draw 19 (by kernel_rfl) (by kernel_rfl) (by kernel_rfl) rfl ?_; refine .val [] (.opv rfl) rfl rfl rfl rfl ?_; refine .val [] (.loadPW rfl h4 (by repeat constructor) rfl) rfl rfl rfl rfl ?_; refine .val [] (.opv rfl) rfl rfl rfl rfl ?_; refine .val [] (.opv rfl) rfl rfl rfl rfl ?_; refine .val [] (.cast (.call rfl (fun m hm => isOrder_any (hv'.le (by repeat first | exact hm.1 | replace hm := hm.2)) hV (hx.le (by repeat first | exact hm.1 | replace hm := hm.2)) (by omega) (by omega))) (congrArg Value.bool hA1)) rfl rfl rfl rfl ?_; refine .val [] (.opv rfl) rfl rfl rfl rfl ?_; refine .val [] (.opv rfl) rfl rfl rfl rfl ?_; refine .val [] (.len rfl hx) rfl rfl rfl rfl ?_; refine .val [] (.opv rfl) rfl rfl rfl rfl ?_; refine .val [] (.cast (.opv rfl) (congrArg Value.bool hA2)) rfl rfl rfl rfl ?_; refine .val [] (.opv rfl) rfl rfl rfl rfl ?_; refine .val [] (.opv rfl) rfl rfl rfl rfl ?_
          refine DJ.pass rfl rfl rfl rfl ?_; refine DJ.pass rfl rfl rfl rfl ?_; refine DJ.pass rfl rfl rfl rfl ?_; refine DJ.pass rfl rfl rfl rfl ?_; refine DJ.pass rfl rfl rfl rfl ?_; refine DJ.pass rfl rfl rfl rfl ?_; refine .val [] (.opv rfl) rfl rfl rfl rfl ?_; refine DJ.nil ?_; refine .val (.cast (OpVal.neqB6 rfl rfl) (show _ = Value.bool false from rfl)) rfl rfl rfl ?_; refine WL.nil ?_
          exact Keff.intro (by repeat (first | exact trivial | refine ⟨rfl, ?_⟩)) (by intro y hy; repeat (first | exact hy | refine .tail _ ?_)) (by repeat first | exact .refl _ | refine .cons _ ?_)
        | true =>
          have hB0 : safeL r (ask6 r) (rowL x (k : Int)) = B := by rw [hval, hA1, hA2]; rfl
          refine W.draw 19 (by kernel_rfl) (by kernel_rfl) (by kernel_rfl) rfl ?_; refine .val [] (.opv rfl) rfl rfl rfl rfl ?_; refine .val [] (.loadPW rfl h4 (by repeat constructor) rfl) rfl rfl rfl rfl ?_; refine .val [] (.opv rfl) rfl rfl rfl rfl ?_; refine .val [] (.opv rfl) rfl rfl rfl rfl ?_; refine .val [] (.cast (.call rfl (fun m hm => isOrder_any (hv'.le (by repeat first | exact hm.1 | replace hm := hm.2)) hV (hx.le (by repeat first | exact hm.1 | replace hm := hm.2)) (by omega) (by omega))) (congrArg Value.bool hA1)) rfl rfl rfl rfl ?_; refine .val [] (.opv rfl) rfl rfl rfl rfl ?_; refine .val [] (.opv rfl) rfl rfl rfl rfl ?_; refine .val [] (.len rfl hx) rfl rfl rfl rfl ?_; refine .val [] (.opv rfl) rfl rfl rfl rfl ?_; refine .val [] (.cast (.opv rfl) (congrArg Value.bool hA2)) rfl rfl rfl rfl ?_; refine .val [] (.opv rfl) rfl rfl rfl rfl ?_; refine .val [] (.opv rfl) rfl rfl rfl rfl ?_
          refine .val [] (.loadPW rfl h4 (by repeat constructor) rfl) rfl rfl rfl rfl ?_; refine .val [] (.opv rfl) rfl rfl rfl rfl ?_; refine .val [] (.opv rfl) rfl rfl rfl rfl ?_; refine .val [] (.opv rfl) rfl rfl rfl rfl ?_; refine DJ.abs (A := fun m q => IsBoils m q (rowL x (k : Int))) [] (OpAbs.call rfl (fun m hm => rowR_any (by omega) (hx.le (by repeat first | exact hm.1 | replace hm := hm.2)) (by omega))) rfl rfl rfl rfl ?_
          refine DJ.val [(78, fun m q => IsBoils m q (rowL x (k : Int)))] (fun m78 v78 h78 => OpVal.cast (.call rfl (fun m hm => areSafeR_any (hv'.le (by repeat first | exact hm.1 | replace hm := hm.2)) hV (hT.le (by repeat first | exact hm.1 | replace hm := hm.2)) (h78.le (by repeat first | exact hm.1 | replace hm := hm.2)) (by simp [rowL]; omega))) (congrArg Value.bool hB0)) rfl rfl rfl rfl ?_ (hG := ⟨(by repeat constructor), rfl, trivial⟩)
          refine .val [] (.opv rfl) rfl rfl rfl rfl ?_; refine DJ.nil ?_
          rintro m78 v78 h78
          refine .val (.cast (OpVal.neqB6 rfl rfl) (show _ = Value.bool false from congrArg (fun b => Value.bool (!b)) (decide_eq_true rfl))) rfl rfl rfl ?_; refine WL.nil ?_
          exact Keff.intro (by repeat (first | exact trivial | refine ⟨rfl, ?_⟩)) (by intro y hy; repeat (first | exact hy | refine .tail _ ?_)) (by repeat first | exact .refl _ | refine .cons _ ?_)
    refine Kseq.go ?_; refine W.condF rfl rfl ?_
    refine W.skip (Kseq.go (W.seq ?_))
    refine W.region ?_; refine .val (.loadPW rfl h4 (by repeat constructor) rfl) rfl rfl rfl ?_
    iterate 2 refine .o rfl ?_
    refine WL.abs (OpAbs.call rfl (fun m hm => orderR_any (hv'.le (by repeat first | exact hm.1 | replace hm := hm.2)) hV (by omega) (hT.le (by repeat first | exact hm.1 | replace hm := hm.2)))) rfl rfl rfl ?_
    rintro m86 _ ⟨yv, b, rfl, hb1, hb2⟩
    iterate 5 refine .o rfl ?_
    refine WL.nil ?_
    refine Kseq.go (W.seq (W.seq ?_))
    cases b with
    | false =>
      have hn := hb2 rfl
      rw [hsame] at hn
      rw [if_pos hn] at hOe
      subst hOe
      have hxn := hxa (by decide)
      subst hxn
      refine W.region ?_
      iterate 2 refine .o rfl ?_
      refine WL.nil ?_; refine Kseq.go ?_; refine W.condT rfl rfl ?_; refine W.seq ?_; refine W.region ?_; refine .o rfl ?_; refine .val (OpVal.eqT6 rfl rfl) rfl rfl rfl ?_
      iterate 2 refine .o rfl ?_
      refine .val (.lenNil rfl) rfl rfl rfl ?_; refine .val (OpVal.eqT6 rfl rfl) rfl rfl rfl ?_
      iterate 2 refine .o rfl ?_
      refine .val (.call rfl (fun m hm => awake6_any)) rfl rfl rfl ?_
      iterate 2 refine .o rfl ?_
      refine WL.nil ?_; refine Kseq.go ?_
      refine W.ret ?_; refine Kseq.ret ?_; refine ⟨.inl rfl, [_], h, ⟨.tmp rfl, trivial⟩, (by repeat constructor), ?_⟩
      rfl
    | true =>
      obtain ⟨c, hc, hI⟩ := hb1 rfl
      rw [hsame] at hc
      rw [if_neg (by rw [hc]; simp)] at hOe
      subst hOe
      have hxI := hxb2 rfl c hc
      refine W.region ?_
      iterate 2 refine .o rfl ?_
      refine WL.nil ?_; refine Kseq.go ?_; refine W.condF rfl rfl ?_
      refine W.skip (Kseq.go (W.seq ?_))
      refine W.region ?_; refine .o rfl ?_; refine .val (OpVal.eqT6 rfl rfl) rfl rfl rfl ?_
      iterate 3 refine .o rfl ?_
      refine .val (.call rfl (fun m hm => same6_eq (hxI.le (by repeat first | exact hm.1 | replace hm := hm.2)) (hI.le (by repeat first | exact hm.1 | replace hm := hm.2)))) rfl rfl rfl ?_
      iterate 2 refine .o rfl ?_
      refine .val (.call rfl (fun m hm => awake6_any)) rfl rfl rfl ?_
      iterate 2 refine .o rfl ?_
      refine WL.nil ?_; refine Kseq.go ?_
      refine W.ret ?_; refine ⟨.inl rfl, [_], h, ⟨.tmp rfl, trivial⟩, (by repeat constructor), ?_⟩
      rfl
  · have hOe : O = E := by rw [← hO]; unfold ordE; rw [hE, if_pos h0]
    subst hOe
    have hxn := hxa h0
    subst hxn
    have hB0 : B = false := by
      cases B with
      | false => rfl
      | true => exact absurd (hE ▸ proveOrd_E hB) h0
    subst hB0
    refine W.region ?_; refine .o rfl ?_; refine .val (.cast (.opv rfl) (show _ = Value.bool true from congrArg (fun b => Value.bool (!b)) (decide_eq_false h0))) rfl rfl rfl ?_; refine WL.nil ?_; refine Kseq.go ?_; refine W.condT rfl rfl ?_; refine W.seq ?_; refine W.region ?_
    iterate 2 refine .o rfl ?_
    refine .val (OpVal.eqT6 rfl rfl) rfl rfl rfl ?_
    iterate 2 refine .o rfl ?_
    refine .val (.lenNil rfl) rfl rfl rfl ?_; refine .val (OpVal.eqT6 rfl rfl) rfl rfl rfl ?_
    iterate 6 refine .o rfl ?_
    refine .val (.call rfl (fun m hm => awake6_any)) rfl rfl rfl ?_
    iterate 2 refine .o rfl ?_
    refine WL.nil ?_; refine Kseq.go ?_
    refine W.ret ?_; refine Kseq.ret ?_; refine ⟨.inl rfl, [_], h, ⟨.tmp rfl, trivial⟩, (by repeat constructor), ?_⟩
    rfl
end Go.Proofs.YtdnbkjgbehakpaaGreat
