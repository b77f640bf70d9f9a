/- The reference's functions of chapter 6: IsOrder, longer, Order; the statement SickOrders. -/
import Derived.Test.YtdnbkjgbehakpaaGreatT150
import Derived.Test.YtdnbkjgbehakpaaGreatT124
import Derived.Test.YtdnbkjgbehakpaaGreatE18
import Derived.Test.YtdnbkjgbehakpaaGreatPH1
namespace Go.Proofs.YtdnbkjgbehakpaaGreat
open Go Go.Eng Go.RowKit

def isOrdB (r : House) (hour : Int) (x : List Int) : Bool := ordB r x && (decide (x.length ≤ 3) && decide (hour + x.length - 1 ≤ r.last))
/-- An order that keeps all safe, as the reference looks. -/
def okR (r : House) (hour : Int) (x : List Int) : Bool := isOrdB r hour x && safeL r (ask6 r) (rowL x hour)
/-- IsOrder -/
theorem isOrder_any {h : Mem} {v lv : Value} {r : House} {hour : Int} {x : List Int} (hv : IsHouse h v r) (hV : ValidH r) (hl : IsInts h lv x) (hh : 0 ≤ hour ∧ hour ≤ 1000) (hx : x.length ≤ 1000) : FnV Tryz.prog 60 #[v, lv, vi hour] h (.bool (isOrdB r hour x)) := by
  have hv' := hv
  obtain ⟨wv, pv, kv, tv, bv, sv, f, rfl, hA⟩ := hv
  have hfit := hV.fitZ
  refine FnR.val ?_
  refine FnR.of_W (n := 34) Tryz.func60 rfl rfl (Nat.le_of_ble_eq_true rfl) fun c hr hD hF => ?_
  refine W.seq ?_; refine W.region ?_
  refine WL.box rfl rfl rfl rfl (fun b3 => ?_)
  refine .o rfl ?_; refine WL.nil ?_
  refine Kseq.go (W.seq (W.seq ?_))
  refine W.freezeBox (.head _) (fun b hb => (hF b hb).elim) fun m3 h3 => ?_
  refine W.region ?_; refine .o rfl ?_; refine WL.nil ?_
  refine Kseq.go (W.block ?_)
  let g : Nat → Bool := fun i => !isThing r (x.getD i 0)
  refine W.loop (σ := Nat) (fun k => [(1, lv), (2, vi hour), (3, .pointer (some ⟨b3, 0, none⟩)), (7, vi (k : Int))]) (fun _ => [m3, h]) (fun _ => []) (fun k => k ≤ x.length ∧ ∀ i, i < k → g i = false) (fun k => x.length - k) 0 ⟨rfl, rfl, rfl, rfl, trivial⟩ (by simp) (List.nil_sublist _) ⟨Nat.zero_le _, fun i hi => absurd hi (Nat.not_lt_zero _)⟩ ?_
  rintro k ⟨hk, hall⟩
  refine W.seq (W.seq ?_)
  refine W.region ?_
  iterate 2 refine .o rfl ?_
  refine .val (.len rfl hl) rfl rfl rfl ?_; refine .o rfl ?_; refine WL.nil ?_; refine Kseq.go ?_
  refine W.condD rfl rfl (fun hlt => ?_) (fun hge => ?_)
  · have hkl : k < x.length := by omega
    refine W.skip (Kseq.go (W.seq (W.block (W.seq ?_))))
    refine W.draw 5 (by kernel_rfl) (by kernel_rfl) (by kernel_rfl) rfl ?_; refine .val [] (.loadPW rfl h3 (by repeat constructor) rfl) rfl rfl rfl rfl ?_; refine .val [] (.opv rfl) rfl rfl rfl rfl ?_; refine .val [] (.opv rfl) rfl rfl rfl rfl ?_; refine .val [] (.indexAddrN rfl rfl hl hkl) rfl rfl rfl rfl ?_; refine .val [] (.loadE rfl hl (by repeat constructor) hkl (by omega)) rfl rfl rfl rfl ?_; refine DJ.nil ?_; refine .val (.cast (.call rfl (fun m hm => isThingR_any _ (hv'.le (by repeat first | exact hm.1 | replace hm := hm.2)))) (congrArg Value.bool (thingW_eq hfit _))) rfl rfl rfl ?_; refine .val (.cast (.opv rfl) (show _ = Value.bool (g k) from rfl)) rfl rfl rfl ?_; refine WL.nil ?_; refine Kseq.go ?_
    refine W.cond rfl rfl (fun hb => ?_) (fun hb => ?_)
    · have e : isOrdB r hour x = false := by unfold isOrdB ordB; rw [ex_iff.2 ⟨k, hkl, hb⟩]; rfl
      refine W.seq ?_; refine W.region ?_; refine .o rfl ?_; refine WL.nil ?_; refine Kseq.go ?_
      refine W.ret ?_; refine Kblock.ret (Kseq.ret (Kloop.ret (Kblock.ret (Kseq.ret ?_)))); refine ⟨.inl rfl, [_], h, ⟨.tmp rfl, trivial⟩, (by repeat constructor), ?_⟩
      rw [e]; rfl
    · refine W.skip (Kblock.normal (Kseq.go ?_))
      refine W.region ?_; refine .o rfl ?_; refine .val (.incr rfl (by omega)) rfl rfl rfl ?_; refine .o rfl ?_; refine WL.nil ?_
      refine Kloop.next (k + 1) ⟨hkl, fun i hi => ?_⟩ (by omega) ⟨rfl, rfl, rfl, rfl, trivial⟩ (by simp) (by repeat first | exact .refl _ | refine .cons _ ?_)
      rcases Nat.lt_succ_iff_lt_or_eq.1 hi with h2 | rfl
      · exact hall i h2
      · exact hb
  · have hkk : k = x.length := by omega
    subst hkk
    have hord : ordB r x = true := by unfold ordB; rw [ex_no.2 hall]; rfl
    refine W.exit (Kseq.exit (Kloop.exit (Kblock.here (Kseq.go (W.seq ?_)))))
    by_cases h3l : x.length ≤ 3
    · have e : isOrdB r hour x = decide (hour + x.length - 1 ≤ r.last) := by unfold isOrdB; rw [hord, decide_eq_true h3l]; rfl
      refine W.region ?_; refine .o rfl ?_; refine .val (.len rfl hl) rfl rfl rfl ?_; refine .val (.cast (.opv rfl) (congrArg Value.bool (decide_eq_true (by omega)))) rfl rfl rfl ?_
      iterate 3 refine .o rfl ?_
      refine .val (.len rfl hl) rfl rfl rfl ?_; refine .val (.add rfl rfl (by omega) (by omega)) rfl rfl rfl ?_; refine .val (.sub rfl rfl (by omega) (by omega)) rfl rfl rfl ?_; refine .val (.fieldAddrB rfl) rfl rfl rfl ?_; refine .val (.loadP rfl h3 (by repeat constructor) rfl) rfl rfl rfl ?_
      iterate 3 refine .o rfl ?_
      refine WL.nil ?_; refine Kseq.go ?_
      refine W.ret ?_; refine ⟨.inl rfl, [_], h, ⟨.tmp rfl, trivial⟩, (by repeat constructor), ?_⟩
      rw [e]; rfl
    · have e : isOrdB r hour x = false := by unfold isOrdB; rw [decide_eq_false h3l]; simp
      refine W.region ?_; refine .o rfl ?_; refine .val (.len rfl hl) rfl rfl rfl ?_; refine .val (.cast (.opv rfl) (congrArg Value.bool (decide_eq_false (by omega)))) rfl rfl rfl ?_; refine .o rfl ?_; refine WL.pass rfl rfl rfl ?_; refine WL.pass rfl rfl rfl ?_; refine WL.pass rfl rfl rfl ?_; refine WL.pass rfl rfl rfl ?_; refine WL.pass rfl rfl rfl ?_; refine WL.pass rfl rfl rfl ?_; refine WL.pass rfl rfl rfl ?_; refine WL.pass rfl rfl rfl ?_
      iterate 2 refine .o rfl ?_
      refine WL.nil ?_; refine Kseq.go ?_
      refine W.ret ?_; refine ⟨.inl rfl, [_], h, ⟨.tmp rfl, trivial⟩, (by repeat constructor), ?_⟩
      rw [e]; rfl
/-! ### Both find the same -/
theorem LeastO.unique {ok : List Int → Bool} {W n : Nat} {a b : List Int} (ha : LeastO ok W n a) (hb : LeastO ok W n b) : a = b := by
  refine Classical.byContradiction fun hne => ?_
  rcases shorter_total hne with h | h
  · rw [hb.no a ha.len ha.below ha.is] at h; cases h
  · rw [ha.no b hb.len hb.below hb.is] at h; cases h
theorem okR_iff {r : House} (hV : ValidH r) {hour : Nat} (hh : (hour : Int) ≤ r.last) {x : List Int} (hB : Below r.th x) : (x.length < 4 ∧ okR r hour x = true) ↔ (x.length < (longest r hour).toNat + 1 ∧ okO r hour x = true) := by
  have hL := longest_le hV hh
  have hla := hV.last
  have hd : longest r hour = min 3 (r.last - hour + 1) := rfl
  unfold okR isOrdB okO
  rw [(ord_below hV).2 hB]
  simp only [Bool.true_and, Bool.and_eq_true, decide_eq_true_eq]
  constructor
  · rintro ⟨h1, ⟨h2, h3⟩, h4⟩; exact ⟨by omega, h4⟩
  · rintro ⟨h1, h2⟩; exact ⟨by omega, ⟨by omega, by omega⟩, h2⟩
end Go.Proofs.YtdnbkjgbehakpaaGreat
