/- The program's functions of chapter 6: ProveBoil, ProveOrder. -/
import Derived.Test.YtdnbkjgbehakpaaT124
namespace Go.Proofs.Ytdnbkjgbehakpaa
open Go Go.Eng Go.RowKit

theorem ask6E_congr {r : House} {p q : Bool} (h : ValidH r → p = q) : ask6E r p = ask6E r q := by
  by_cases hf : fault6 r = 0
  · rw [h (fault6_zero.1 hf)]
  · unfold ask6E; rw [if_pos hf, if_pos hf]
theorem ask6E_false {r : House} : ask6E r false ≠ 0 := by
  unfold ask6E
  by_cases hf : fault6 r = 0
  · rw [if_neg (by simpa using hf), if_pos rfl]; decide
  · rw [if_pos hf]; exact hf
def proveBoilB (r : House) (hour : Int) (x : List Int) (many : Int) : Bool := decide (ask6E r (isHour r hour && risingB x r.things) = 0) && (decide ((x.length : Int) ≤ many) && safeL r (ask6 r) (atL x hour))
def ordB (r : House) (x : List Int) : Bool := !ex x.length fun i => !isThing r (x.getD i 0)
def proveOrdB (r : House) (hour : Int) (x : List Int) (many : Int) : Bool := decide (ask6E r (isHour r hour && ordB r x) = 0) && (decide ((x.length : Int) ≤ many) && (decide ((x.length : Int) ≤ longest r hour) && safeL r (ask6 r) (rowL x hour)))
theorem ValidH.fit {r : House} (hV : ValidH r) : FitH r := ⟨by have := hV.others; have h2 := hV.th.1; omega, by have := hV.others; omega⟩
/-- ProveBoil -/
theorem proveBoil_any {h : Mem} {v lv : Value} {r : House} {hour : Int} {x : List Int} (many : Int) (hv : IsHouse h v r) (hs : SmH r) (hl : IsInts h lv x) (hx : x.length ≤ 1000) :
    FnV Try.prog 14 #[v, vi hour, lv, vi many] h (.bool (proveBoilB r hour x many)) := by
  have hv' := hv
  obtain ⟨wv, pv, kv, tv, bv, sv, f, rfl, hA⟩ := hv
  refine FnR.val ?_
  refine FnR.of_W (n := 40) Try.func14 rfl rfl (Nat.le_of_ble_eq_true rfl) fun c hr hD hF => ?_
  refine W.seq ?_; refine W.region ?_
  refine WL.box rfl rfl rfl rfl (fun b4 => ?_)
  refine .o rfl ?_; refine WL.nil ?_
  refine Kseq.go (W.seq ?_)
  cases hH : isHour r hour with
  | false =>
    have hres : proveBoilB r hour x many = false := by unfold proveBoilB; rw [hH, Bool.false_and, decide_eq_false ask6E_false]; rfl
    refine W.draw 15 (by kernel_rfl) (by kernel_rfl) (by kernel_rfl) rfl ?_; refine .val [] (.loadBW rfl (.head _) rfl) rfl rfl rfl rfl ?_; refine .val [] (.loadBW rfl (.head _) rfl) rfl rfl rfl rfl ?_; refine .val [] (.opv rfl) rfl rfl rfl rfl ?_; refine .val [] (.cast (.call rfl (fun m hm => hour6_any hour (hv'.le (by repeat first | exact hm.1 | replace hm := hm.2)))) (congrArg Value.bool hH)) rfl rfl rfl rfl ?_; refine .val [] (.opv rfl) rfl rfl rfl rfl ?_; refine DJ.pass rfl rfl rfl rfl ?_; refine DJ.pass rfl rfl rfl rfl ?_; refine DJ.pass rfl rfl rfl rfl ?_; refine DJ.pass rfl rfl rfl rfl ?_; refine .val [] (.opv rfl) rfl rfl rfl rfl ?_
    refine DJ.abs (A := fun m q => ∃ o, q = .tuple #[.pointer o, vi (ask6E r false)]) [] (OpAbs.mono (OpAbs.call rfl (fun m hm => asked6G_any false (hv'.le (by repeat first | exact hm.1 | replace hm := hm.2)) hs)) (fun m q hq => by obtain ⟨o, e, _⟩ := hq; exact ⟨o, e⟩)) rfl rfl rfl rfl ?_
    refine DJ.abs (A := fun m q => ∃ o, q = .tuple #[.pointer o, vi (ask6E r false)]) [(22, fun m q => ∃ o, q = .tuple #[.pointer o, vi (ask6E r false)])] (fun m22 v22 h22 => OpAbs.ofVal (OpVal.opv rfl) (.head _) h22) rfl rfl rfl rfl ?_ (hG := ⟨(by repeat constructor), rfl, trivial⟩)
    refine DJ.abs (A := fun m q => ∃ o, q = .pointer o) [(11, fun m q => ∃ o, q = .tuple #[.pointer o, vi (ask6E r false)])] (fun m11 v11 h11 => by obtain ⟨o, rfl⟩ := h11; exact OpAbs.ofVal (OpVal.opv rfl) (.head _) ⟨o, rfl⟩) rfl rfl rfl rfl ?_ (hG := ⟨(by repeat constructor), rfl, trivial⟩)
    refine DJ.val [(11, fun m q => ∃ o, q = .tuple #[.pointer o, vi (ask6E r false)])] (fun m11 v11 h11 => (by obtain ⟨o, rfl⟩ := h11; exact (OpVal.cast (.opv rfl) (show _ = vi (ask6E r false) from rfl)))) rfl rfl rfl rfl ?_ (hG := ⟨(by repeat constructor), rfl, trivial⟩)
    refine DJ.abs (A := fun m q => ∃ o, q = .pointer o) [(23, fun m q => ∃ o, q = .pointer o)] (fun m23 v23 h23 => OpAbs.ofVal (OpVal.opv rfl) (.head _) h23) rfl rfl rfl rfl ?_ (hG := ⟨(by repeat constructor), rfl, trivial⟩)
    refine DJ.nil ?_
    rintro m9 v9 h9
    rintro m23 v23 h23
    rintro m11 v11 h11
    rintro m22 v22 h22
    refine .o rfl ?_; refine WL.nil ?_
    refine Kseq.go (W.seq ?_)
    refine W.region ?_; refine .o rfl ?_; refine .val (.cast (.opv rfl) (congrArg Value.bool (decide_eq_false ask6E_false))) rfl rfl rfl ?_; refine .o rfl ?_; refine WL.pass rfl rfl rfl ?_; refine WL.pass rfl rfl rfl ?_; refine WL.pass rfl rfl rfl ?_; refine WL.pass rfl rfl rfl ?_
    iterate 2 refine .o rfl ?_
    refine WL.pass rfl rfl rfl ?_; refine WL.pass rfl rfl rfl ?_; refine WL.pass rfl rfl rfl ?_; refine WL.pass rfl rfl rfl ?_; refine WL.pass rfl rfl rfl ?_
    iterate 2 refine .o rfl ?_
    refine WL.nil ?_; refine Kseq.go ?_
    refine W.ret ?_; refine ⟨.inl rfl, [_], h, ⟨.tmp rfl, trivial⟩, (by repeat constructor), ?_⟩
    rw [hres]; rfl
  | true =>
    have hEe : ask6E r (risW x (wr (r.thingsW - 1))) = ask6E r (isHour r hour && risingB x r.things) := ask6E_congr fun hV => by
      have h2 := hV.fit
      have h1 := h2.1
      have h3 := h2.2
      rw [hH, Bool.true_and, h2.eq, show wr (r.things - 1) = r.things - 1 from i64_in (by omega) (by omega)]
      exact risW_eq h1 (by omega)
    obtain ⟨p, hp⟩ : ∃ p, risW x (wr (r.thingsW - 1)) = p := ⟨_, rfl⟩
    rw [hp] at hEe
    refine W.draw 15 (by kernel_rfl) (by kernel_rfl) (by kernel_rfl) rfl ?_; refine .val [] (.loadBW rfl (.head _) rfl) rfl rfl rfl rfl ?_; refine .val [] (.loadBW rfl (.head _) rfl) rfl rfl rfl rfl ?_; refine .val [] (.opv rfl) rfl rfl rfl rfl ?_; refine .val [] (.cast (.call rfl (fun m hm => hour6_any hour (hv'.le (by repeat first | exact hm.1 | replace hm := hm.2)))) (congrArg Value.bool hH)) rfl rfl rfl rfl ?_; refine .val [] (.opv rfl) rfl rfl rfl rfl ?_; refine .val [] (.opv rfl) rfl rfl rfl rfl ?_; refine .val [] (.loadBW rfl (.head _) rfl) rfl rfl rfl rfl ?_; refine .val [] (.call rfl (fun m hm => things6_any (hv'.le (by repeat first | exact hm.1 | replace hm := hm.2)))) rfl rfl rfl rfl ?_; refine .val [] (.cast (.call rfl (fun m hm => rising_any _ (hl.le (by repeat first | exact hm.1 | replace hm := hm.2)))) (congrArg Value.bool hp)) rfl rfl rfl rfl ?_; refine .val [] (.opv rfl) rfl rfl rfl rfl ?_
    refine DJ.abs (A := fun m q => ∃ o, q = .tuple #[.pointer o, vi (ask6E r p)] ∧ AskG r (.agg (hcs wv pv kv tv bv sv r)) p m o) [] (OpAbs.call rfl (fun m hm => asked6G_any p (hv'.le (by repeat first | exact hm.1 | replace hm := hm.2)) hs)) rfl rfl rfl rfl ?_
    refine DJ.abs (A := fun m q => ∃ o, q = .tuple #[.pointer o, vi (ask6E r p)] ∧ AskG r (.agg (hcs wv pv kv tv bv sv r)) p m o) [(22, fun m q => ∃ o, q = .tuple #[.pointer o, vi (ask6E r p)] ∧ AskG r (.agg (hcs wv pv kv tv bv sv r)) p m o)] (fun m22 v22 h22 => OpAbs.ofVal (OpVal.opv rfl) (.head _) h22) rfl rfl rfl rfl ?_ (hG := ⟨(by repeat constructor), rfl, trivial⟩)
    refine DJ.abs (A := fun m q => ∃ o, q = .pointer o ∧ AskG r (.agg (hcs wv pv kv tv bv sv r)) p m o) [(11, fun m q => ∃ o, q = .tuple #[.pointer o, vi (ask6E r p)] ∧ AskG r (.agg (hcs wv pv kv tv bv sv r)) p m o)] (fun m11 v11 h11 => by obtain ⟨o, rfl, hgo⟩ := h11; exact OpAbs.ofVal (OpVal.opv rfl) (.head _) ⟨o, rfl, hgo⟩) rfl rfl rfl rfl ?_ (hG := ⟨(by repeat constructor), rfl, trivial⟩)
    refine DJ.val [(11, fun m q => ∃ o, q = .tuple #[.pointer o, vi (ask6E r p)] ∧ AskG r (.agg (hcs wv pv kv tv bv sv r)) p m o)] (fun m11 v11 h11 => (by obtain ⟨o, rfl, hgo⟩ := h11; exact (OpVal.cast (.opv rfl) (show _ = vi (ask6E r p) from rfl)))) rfl rfl rfl rfl ?_ (hG := ⟨(by repeat constructor), rfl, trivial⟩)
    refine DJ.abs (A := fun m q => ∃ o, q = .pointer o ∧ AskG r (.agg (hcs wv pv kv tv bv sv r)) p m o) [(23, fun m q => ∃ o, q = .pointer o ∧ AskG r (.agg (hcs wv pv kv tv bv sv r)) p m o)] (fun m23 v23 h23 => OpAbs.ofVal (OpVal.opv rfl) (.head _) h23) rfl rfl rfl rfl ?_ (hG := ⟨(by repeat constructor), rfl, trivial⟩)
    refine DJ.nil ?_
    rintro m9 v9 h9
    rintro m23 v23 h23
    rintro m11 v11 h11
    rintro m22 v22 h22
    refine .o rfl ?_; refine WL.nil ?_
    refine Kseq.go (W.seq ?_)
    obtain ⟨o, rfl, hgood⟩ := h9
    rcases hgood with ⟨hE, rfl⟩ | ⟨hE, hV, hfine, hne, b, rfl, hwk⟩
    · have hres : proveBoilB r hour x many = false := by unfold proveBoilB; rw [← hEe, decide_eq_false hE]; rfl
      refine W.region ?_; refine .o rfl ?_; refine .val (.cast (.opv rfl) (congrArg Value.bool (decide_eq_false hE))) rfl rfl rfl ?_; refine .o rfl ?_; refine WL.pass rfl rfl rfl ?_; refine WL.pass rfl rfl rfl ?_; refine WL.pass rfl rfl rfl ?_; refine WL.pass rfl rfl rfl ?_
      iterate 2 refine .o rfl ?_
      refine WL.pass rfl rfl rfl ?_; refine WL.pass rfl rfl rfl ?_; refine WL.pass rfl rfl rfl ?_; refine WL.pass rfl rfl rfl ?_; refine WL.pass rfl rfl rfl ?_
      iterate 2 refine .o rfl ?_
      refine WL.nil ?_; refine Kseq.go ?_
      refine W.ret ?_; refine ⟨.inl rfl, [_], h, ⟨.tmp rfl, trivial⟩, (by repeat constructor), ?_⟩
      rw [hres]; rfl
    · have hres : proveBoilB r hour x many = (decide ((x.length : Int) ≤ many) && safeL r (ask6 r) (atL x hour)) := by unfold proveBoilB; rw [← hEe, decide_eq_true hE, Bool.true_and]
      cases hlm : decide ((x.length : Int) ≤ many) with
      | false =>
        refine W.region ?_; refine .o rfl ?_; refine .val (.cast (.opv rfl) (congrArg Value.bool (decide_eq_true hE))) rfl rfl rfl ?_
        iterate 2 refine .o rfl ?_
        refine .val (.len rfl hl) rfl rfl rfl ?_; refine .o rfl ?_; refine .val (.cast (.opv rfl) (congrArg Value.bool hlm)) rfl rfl rfl ?_
        iterate 2 refine .o rfl ?_
        refine WL.pass rfl rfl rfl ?_; refine WL.pass rfl rfl rfl ?_; refine WL.pass rfl rfl rfl ?_; refine WL.pass rfl rfl rfl ?_; refine WL.pass rfl rfl rfl ?_
        iterate 2 refine .o rfl ?_
        refine WL.nil ?_; refine Kseq.go ?_
        refine W.ret ?_; refine ⟨.inl rfl, [_], h, ⟨.tmp rfl, trivial⟩, (by repeat constructor), ?_⟩
        rw [hres, hlm]; rfl
      | true =>
        refine W.region ?_; refine .o rfl ?_; refine .val (.cast (.opv rfl) (congrArg Value.bool (decide_eq_true hE))) rfl rfl rfl ?_
        iterate 2 refine .o rfl ?_
        refine .val (.len rfl hl) rfl rfl rfl ?_; refine .o rfl ?_; refine .val (.cast (.opv rfl) (congrArg Value.bool hlm)) rfl rfl rfl ?_
        iterate 5 refine .o rfl ?_
        refine WL.abs (OpAbs.call rfl (fun m hm => at6_any hour (hl.le (by repeat first | exact hm.1 | replace hm := hm.2)) hx)) rfl rfl rfl ?_
        rintro m37 v37 h37
        refine .val (.call rfl (fun m hm => safe6_any (hv'.le (by repeat first | exact hm.1 | replace hm := hm.2)) hs hV (hwk.le (by repeat first | exact hm.1 | replace hm := hm.2)) (h37.le (by repeat first | exact hm.1 | replace hm := hm.2)) (by simp [atL]; omega))) rfl rfl rfl ?_
        iterate 2 refine .o rfl ?_
        refine WL.nil ?_; refine Kseq.go ?_
        refine W.ret ?_; refine ⟨.inl rfl, [_], h, ⟨.tmp rfl, trivial⟩, (by repeat constructor), ?_⟩
        rw [hres, hlm]; rfl
/-- ProveOrder -/
theorem proveOrder_any {h : Mem} {v lv : Value} {r : House} {hour : Int} {x : List Int} (many : Int) (hv : IsHouse h v r) (hs : SmH r) (hl : IsInts h lv x) (hx : x.length ≤ 1000) :
    FnV Try.prog 15 #[v, vi hour, lv, vi many] h (.bool (proveOrdB r hour x many)) := by
  have hv' := hv
  obtain ⟨wv, pv, kv, tv, bv, sv, f, rfl, hA⟩ := hv
  refine FnR.val ?_
  refine FnR.of_W (n := 48) Try.func15 rfl rfl (Nat.le_of_ble_eq_true rfl) fun c hr hD hF => ?_
  refine W.seq ?_; refine W.region ?_
  refine WL.box rfl rfl rfl rfl (fun b4 => ?_)
  refine .o rfl ?_; refine WL.nil ?_
  refine Kseq.go (W.seq ?_)
  cases hH : isHour r hour with
  | false =>
    have hres : proveOrdB r hour x many = false := by unfold proveOrdB; rw [hH, Bool.false_and, decide_eq_false ask6E_false]; rfl
    refine W.draw 15 (by kernel_rfl) (by kernel_rfl) (by kernel_rfl) rfl ?_; refine .val [] (.loadBW rfl (.head _) rfl) rfl rfl rfl rfl ?_; refine .val [] (.loadBW rfl (.head _) rfl) rfl rfl rfl rfl ?_; refine .val [] (.opv rfl) rfl rfl rfl rfl ?_; refine .val [] (.cast (.call rfl (fun m hm => hour6_any hour (hv'.le (by repeat first | exact hm.1 | replace hm := hm.2)))) (congrArg Value.bool hH)) rfl rfl rfl rfl ?_; refine .val [] (.opv rfl) rfl rfl rfl rfl ?_; refine DJ.pass rfl rfl rfl rfl ?_; refine DJ.pass rfl rfl rfl rfl ?_; refine DJ.pass rfl rfl rfl rfl ?_; refine DJ.pass rfl rfl rfl rfl ?_; refine .val [] (.opv rfl) rfl rfl rfl rfl ?_
    refine DJ.abs (A := fun m q => ∃ o, q = .tuple #[.pointer o, vi (ask6E r false)]) [] (OpAbs.mono (OpAbs.call rfl (fun m hm => asked6G_any false (hv'.le (by repeat first | exact hm.1 | replace hm := hm.2)) hs)) (fun m q hq => by obtain ⟨o, e, _⟩ := hq; exact ⟨o, e⟩)) rfl rfl rfl rfl ?_
    refine DJ.abs (A := fun m q => ∃ o, q = .tuple #[.pointer o, vi (ask6E r false)]) [(22, fun m q => ∃ o, q = .tuple #[.pointer o, vi (ask6E r false)])] (fun m22 v22 h22 => OpAbs.ofVal (OpVal.opv rfl) (.head _) h22) rfl rfl rfl rfl ?_ (hG := ⟨(by repeat constructor), rfl, trivial⟩)
    refine DJ.abs (A := fun m q => ∃ o, q = .pointer o) [(11, fun m q => ∃ o, q = .tuple #[.pointer o, vi (ask6E r false)])] (fun m11 v11 h11 => by obtain ⟨o, rfl⟩ := h11; exact OpAbs.ofVal (OpVal.opv rfl) (.head _) ⟨o, rfl⟩) rfl rfl rfl rfl ?_ (hG := ⟨(by repeat constructor), rfl, trivial⟩)
    refine DJ.val [(11, fun m q => ∃ o, q = .tuple #[.pointer o, vi (ask6E r false)])] (fun m11 v11 h11 => (by obtain ⟨o, rfl⟩ := h11; exact (OpVal.cast (.opv rfl) (show _ = vi (ask6E r false) from rfl)))) rfl rfl rfl rfl ?_ (hG := ⟨(by repeat constructor), rfl, trivial⟩)
    refine DJ.abs (A := fun m q => ∃ o, q = .pointer o) [(23, fun m q => ∃ o, q = .pointer o)] (fun m23 v23 h23 => OpAbs.ofVal (OpVal.opv rfl) (.head _) h23) rfl rfl rfl rfl ?_ (hG := ⟨(by repeat constructor), rfl, trivial⟩)
    refine DJ.nil ?_
    rintro m9 v9 h9
    rintro m23 v23 h23
    rintro m11 v11 h11
    rintro m22 v22 h22
    refine .o rfl ?_; refine WL.nil ?_
    refine Kseq.go (W.seq ?_)
    refine W.region ?_; refine .o rfl ?_; refine .val (.cast (.opv rfl) (congrArg Value.bool (decide_eq_false ask6E_false))) rfl rfl rfl ?_; refine .o rfl ?_; refine WL.pass rfl rfl rfl ?_; refine WL.pass rfl rfl rfl ?_; refine WL.pass rfl rfl rfl ?_; refine WL.pass rfl rfl rfl ?_
    iterate 2 refine .o rfl ?_
    refine WL.pass rfl rfl rfl ?_; refine WL.pass rfl rfl rfl ?_; refine WL.pass rfl rfl rfl ?_; refine WL.pass rfl rfl rfl ?_; refine WL.pass rfl rfl rfl ?_; refine WL.pass rfl rfl rfl ?_
    iterate 2 refine .o rfl ?_
    refine WL.pass rfl rfl rfl ?_; refine WL.pass rfl rfl rfl ?_; refine WL.pass rfl rfl rfl ?_; refine WL.pass rfl rfl rfl ?_; refine WL.pass rfl rfl rfl ?_
    iterate 2 refine .o rfl ?_
    refine WL.nil ?_; refine Kseq.go ?_
    refine W.ret ?_; refine ⟨.inl rfl, [_], h, ⟨.tmp rfl, trivial⟩, (by repeat constructor), ?_⟩
    rw [hres]; rfl
  | true =>
    have hEe : ask6E r (!ex x.length fun i => !thingW r (x.getD i 0)) = ask6E r (isHour r hour && ordB r x) := ask6E_congr fun hV => by
      rw [hH, Bool.true_and]
      unfold ordB
      simp only [thingW_eq hV.fit]
    obtain ⟨p, hp⟩ : ∃ p, (!ex x.length fun i => !thingW r (x.getD i 0)) = p := ⟨_, rfl⟩
    rw [hp] at hEe
    refine W.draw 15 (by kernel_rfl) (by kernel_rfl) (by kernel_rfl) rfl ?_; refine .val [] (.loadBW rfl (.head _) rfl) rfl rfl rfl rfl ?_; refine .val [] (.loadBW rfl (.head _) rfl) rfl rfl rfl rfl ?_; refine .val [] (.opv rfl) rfl rfl rfl rfl ?_; refine .val [] (.cast (.call rfl (fun m hm => hour6_any hour (hv'.le (by repeat first | exact hm.1 | replace hm := hm.2)))) (congrArg Value.bool hH)) rfl rfl rfl rfl ?_; refine .val [] (.opv rfl) rfl rfl rfl rfl ?_; refine .val [] (.opv rfl) rfl rfl rfl rfl ?_; refine .val [] (.loadBW rfl (.head _) rfl) rfl rfl rfl rfl ?_; refine .val [] (.opv rfl) rfl rfl rfl rfl ?_; refine .val [] (.cast (.call rfl (fun m hm => all6I_any (p := fun i => thingW r (x.getD i 0)) (hl.le (by repeat first | exact hm.1 | replace hm := hm.2)) (fun i hi m' hm' => thing6_any (x.getD i 0) ((hv'.le (by repeat first | exact hm.1 | replace hm := hm.2)).le hm')))) (congrArg Value.bool hp)) rfl rfl rfl rfl ?_
    refine .val [] (.opv rfl) rfl rfl rfl rfl ?_; refine DJ.abs (A := fun m q => ∃ o, q = .tuple #[.pointer o, vi (ask6E r p)] ∧ AskG r (.agg (hcs wv pv kv tv bv sv r)) p m o) [] (OpAbs.call rfl (fun m hm => asked6G_any p (hv'.le (by repeat first | exact hm.1 | replace hm := hm.2)) hs)) rfl rfl rfl rfl ?_
    refine DJ.abs (A := fun m q => ∃ o, q = .tuple #[.pointer o, vi (ask6E r p)] ∧ AskG r (.agg (hcs wv pv kv tv bv sv r)) p m o) [(22, fun m q => ∃ o, q = .tuple #[.pointer o, vi (ask6E r p)] ∧ AskG r (.agg (hcs wv pv kv tv bv sv r)) p m o)] (fun m22 v22 h22 => OpAbs.ofVal (OpVal.opv rfl) (.head _) h22) rfl rfl rfl rfl ?_ (hG := ⟨(by repeat constructor), rfl, trivial⟩)
    refine DJ.abs (A := fun m q => ∃ o, q = .pointer o ∧ AskG r (.agg (hcs wv pv kv tv bv sv r)) p m o) [(11, fun m q => ∃ o, q = .tuple #[.pointer o, vi (ask6E r p)] ∧ AskG r (.agg (hcs wv pv kv tv bv sv r)) p m o)] (fun m11 v11 h11 => by obtain ⟨o, rfl, hgo⟩ := h11; exact OpAbs.ofVal (OpVal.opv rfl) (.head _) ⟨o, rfl, hgo⟩) rfl rfl rfl rfl ?_ (hG := ⟨(by repeat constructor), rfl, trivial⟩)
    refine DJ.val [(11, fun m q => ∃ o, q = .tuple #[.pointer o, vi (ask6E r p)] ∧ AskG r (.agg (hcs wv pv kv tv bv sv r)) p m o)] (fun m11 v11 h11 => (by obtain ⟨o, rfl, hgo⟩ := h11; exact (OpVal.cast (.opv rfl) (show _ = vi (ask6E r p) from rfl)))) rfl rfl rfl rfl ?_ (hG := ⟨(by repeat constructor), rfl, trivial⟩)
    refine DJ.abs (A := fun m q => ∃ o, q = .pointer o ∧ AskG r (.agg (hcs wv pv kv tv bv sv r)) p m o) [(23, fun m q => ∃ o, q = .pointer o ∧ AskG r (.agg (hcs wv pv kv tv bv sv r)) p m o)] (fun m23 v23 h23 => OpAbs.ofVal (OpVal.opv rfl) (.head _) h23) rfl rfl rfl rfl ?_ (hG := ⟨(by repeat constructor), rfl, trivial⟩)
    refine DJ.nil ?_
    rintro m9 v9 h9
    rintro m23 v23 h23
    rintro m11 v11 h11
    rintro m22 v22 h22
    refine .o rfl ?_; refine WL.nil ?_
    refine Kseq.go (W.seq ?_)
    obtain ⟨o, rfl, hgood⟩ := h9
    rcases hgood with ⟨hE, rfl⟩ | ⟨hE, hV, hfine, hne, b, rfl, hwk⟩
    · have hres : proveOrdB r hour x many = false := by unfold proveOrdB; rw [← hEe, decide_eq_false hE]; rfl
      refine W.region ?_; refine .o rfl ?_; refine .val (.cast (.opv rfl) (congrArg Value.bool (decide_eq_false hE))) rfl rfl rfl ?_; refine .o rfl ?_; refine WL.pass rfl rfl rfl ?_; refine WL.pass rfl rfl rfl ?_; refine WL.pass rfl rfl rfl ?_; refine WL.pass rfl rfl rfl ?_
      iterate 2 refine .o rfl ?_
      refine WL.pass rfl rfl rfl ?_; refine WL.pass rfl rfl rfl ?_; refine WL.pass rfl rfl rfl ?_; refine WL.pass rfl rfl rfl ?_; refine WL.pass rfl rfl rfl ?_; refine WL.pass rfl rfl rfl ?_
      iterate 2 refine .o rfl ?_
      refine WL.pass rfl rfl rfl ?_; refine WL.pass rfl rfl rfl ?_; refine WL.pass rfl rfl rfl ?_; refine WL.pass rfl rfl rfl ?_; refine WL.pass rfl rfl rfl ?_
      iterate 2 refine .o rfl ?_
      refine WL.nil ?_; refine Kseq.go ?_
      refine W.ret ?_; refine ⟨.inl rfl, [_], h, ⟨.tmp rfl, trivial⟩, (by repeat constructor), ?_⟩
      rw [hres]; rfl
    · have hres : proveOrdB r hour x many = (decide ((x.length : Int) ≤ many) && (decide ((x.length : Int) ≤ longest r hour) && safeL r (ask6 r) (rowL x hour))) := by unfold proveOrdB; rw [← hEe, decide_eq_true hE, Bool.true_and]
      have hhr := isHour_iff.1 hH
      have hla := hV.last
      cases hlm : decide ((x.length : Int) ≤ many) with
      | false =>
        refine W.region ?_; refine .o rfl ?_; refine .val (.cast (.opv rfl) (congrArg Value.bool (decide_eq_true hE))) rfl rfl rfl ?_
        iterate 2 refine .o rfl ?_
        refine .val (.len rfl hl) rfl rfl rfl ?_; refine .o rfl ?_; refine .val (.cast (.opv rfl) (congrArg Value.bool hlm)) rfl rfl rfl ?_
        iterate 2 refine .o rfl ?_
        refine WL.pass rfl rfl rfl ?_; refine WL.pass rfl rfl rfl ?_; refine WL.pass rfl rfl rfl ?_; refine WL.pass rfl rfl rfl ?_; refine WL.pass rfl rfl rfl ?_; refine WL.pass rfl rfl rfl ?_
        iterate 2 refine .o rfl ?_
        refine WL.pass rfl rfl rfl ?_; refine WL.pass rfl rfl rfl ?_; refine WL.pass rfl rfl rfl ?_; refine WL.pass rfl rfl rfl ?_; refine WL.pass rfl rfl rfl ?_
        iterate 2 refine .o rfl ?_
        refine WL.nil ?_; refine Kseq.go ?_
        refine W.ret ?_; refine ⟨.inl rfl, [_], h, ⟨.tmp rfl, trivial⟩, (by repeat constructor), ?_⟩
        rw [hres, hlm]; rfl
      | true =>
        cases hlo : decide ((x.length : Int) ≤ longest r hour) with
        | false =>
          refine W.region ?_; refine .o rfl ?_; refine .val (.cast (.opv rfl) (congrArg Value.bool (decide_eq_true hE))) rfl rfl rfl ?_
          iterate 2 refine .o rfl ?_
          refine .val (.len rfl hl) rfl rfl rfl ?_; refine .o rfl ?_; refine .val (.cast (.opv rfl) (congrArg Value.bool hlm)) rfl rfl rfl ?_
          iterate 3 refine .o rfl ?_
          refine .val (.len rfl hl) rfl rfl rfl ?_; refine .val (.loadBW rfl (.head _) rfl) rfl rfl rfl ?_; refine .o rfl ?_; refine .val (.call rfl (fun m hm => longest6_any (hv'.le (by repeat first | exact hm.1 | replace hm := hm.2)) (by omega))) rfl rfl rfl ?_; refine .val (.cast (.opv rfl) (congrArg Value.bool hlo)) rfl rfl rfl ?_
          iterate 2 refine .o rfl ?_
          refine WL.pass rfl rfl rfl ?_; refine WL.pass rfl rfl rfl ?_; refine WL.pass rfl rfl rfl ?_; refine WL.pass rfl rfl rfl ?_; refine WL.pass rfl rfl rfl ?_
          iterate 2 refine .o rfl ?_
          refine WL.nil ?_; refine Kseq.go ?_
          refine W.ret ?_; refine ⟨.inl rfl, [_], h, ⟨.tmp rfl, trivial⟩, (by repeat constructor), ?_⟩
          rw [hres, hlm, hlo]; rfl
        | true =>
          refine W.region ?_; refine .o rfl ?_; refine .val (.cast (.opv rfl) (congrArg Value.bool (decide_eq_true hE))) rfl rfl rfl ?_
          iterate 2 refine .o rfl ?_
          refine .val (.len rfl hl) rfl rfl rfl ?_; refine .o rfl ?_; refine .val (.cast (.opv rfl) (congrArg Value.bool hlm)) rfl rfl rfl ?_
          iterate 3 refine .o rfl ?_
          refine .val (.len rfl hl) rfl rfl rfl ?_; refine .val (.loadBW rfl (.head _) rfl) rfl rfl rfl ?_; refine .o rfl ?_; refine .val (.call rfl (fun m hm => longest6_any (hv'.le (by repeat first | exact hm.1 | replace hm := hm.2)) (by omega))) rfl rfl rfl ?_; refine .val (.cast (.opv rfl) (congrArg Value.bool hlo)) rfl rfl rfl ?_
          iterate 5 refine .o rfl ?_
          refine WL.abs (OpAbs.call rfl (fun m hm => row6_any (by omega) (hl.le (by repeat first | exact hm.1 | replace hm := hm.2)) hx)) rfl rfl rfl ?_
          rintro m45 v45 h45
          refine .val (.call rfl (fun m hm => safe6_any (hv'.le (by repeat first | exact hm.1 | replace hm := hm.2)) hs hV (hwk.le (by repeat first | exact hm.1 | replace hm := hm.2)) (h45.le (by repeat first | exact hm.1 | replace hm := hm.2)) (by simp [rowL]; omega))) rfl rfl rfl ?_
          iterate 2 refine .o rfl ?_
          refine WL.nil ?_; refine Kseq.go ?_
          refine W.ret ?_; refine ⟨.inl rfl, [_], h, ⟨.tmp rfl, trivial⟩, (by repeat constructor), ?_⟩
          rw [hres, hlm, hlo]; rfl
end Go.Proofs.Ytdnbkjgbehakpaa
