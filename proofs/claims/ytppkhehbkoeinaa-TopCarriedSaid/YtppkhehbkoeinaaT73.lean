/- The statements' own functions of chapter 11: their contracts. -/
import Derived.Test.YtppkhehbkoeinaaT70
namespace Go.Proofs.Ytppkhehbkoeinaa
open Go Go.Eng Go.RowKit

/-- ref.inside -/
theorem insideR_any {h : Mem} (r : Rg) (most : Int) : FnV Try.prog 63 #[.agg #[vi r.lo, vi r.hi], vi most] h (.bool (inside r most)) := by
  refine FnR.val ?_
  refine FnR.of_W (n := 21) Try.func63 rfl rfl (Nat.le_of_ble_eq_true rfl) fun c hr hD hF => ?_
  refine W.seq ?_; refine W.region ?_
  refine WL.box rfl rfl rfl rfl (fun b2 => ?_)
  refine .o rfl ?_; refine WL.nil ?_
  refine Kseq.go (W.seq ?_)
  refine W.region ?_; refine .val (.fieldAddrB rfl) rfl rfl rfl ?_; refine .val (.loadB rfl (.head _) rfl) rfl rfl rfl ?_
  iterate 2 refine .o rfl ?_
  refine WL.split rfl rfl (fun g8 => ?_) (fun g8 => ?_)
  · refine .val (.fieldAddrB rfl) rfl rfl rfl ?_
    refine .val (.loadB rfl (.head _) rfl) rfl rfl rfl ?_; refine .val (.fieldAddrB rfl) rfl rfl rfl ?_; refine .val (.loadB rfl (.head _) rfl) rfl rfl rfl ?_
    iterate 3 refine .o rfl ?_
    refine WL.split rfl rfl (fun g15 => ?_) (fun g15 => ?_)
    · refine .val (.fieldAddrB rfl) rfl rfl rfl ?_
      refine .val (.loadB rfl (.head _) rfl) rfl rfl rfl ?_
      iterate 4 refine .o rfl ?_
      refine WL.nil ?_; refine Kseq.go ?_
      (refine W.ret ?_; refine ⟨.inl rfl, [_], h, ⟨.tmp rfl, trivial⟩, (by repeat constructor), ?_⟩; exact congrArg Value.bool (by first | (simp [inside, -List.getD_eq_getElem?_getD]; done) | (simp_all [-List.getD_eq_getElem?_getD]; done) | (simp [inside, -List.getD_eq_getElem?_getD]; omega) | (rw [Bool.eq_iff_iff]; simp [inside, -List.getD_eq_getElem?_getD]; omega) | (simp [inside, -List.getD_eq_getElem?_getD] at *; omega)))
    · refine WL.pass rfl rfl rfl ?_
      refine WL.pass rfl rfl rfl ?_; refine WL.pass rfl rfl rfl ?_; refine WL.pass rfl rfl rfl ?_
      iterate 2 refine .o rfl ?_
      refine WL.nil ?_; refine Kseq.go ?_
      (refine W.ret ?_; refine ⟨.inl rfl, [_], h, ⟨.tmp rfl, trivial⟩, (by repeat constructor), ?_⟩; exact congrArg Value.bool (by first | (simp [inside, -List.getD_eq_getElem?_getD]; done) | (simp_all [-List.getD_eq_getElem?_getD]; done) | (simp [inside, -List.getD_eq_getElem?_getD]; omega) | (rw [Bool.eq_iff_iff]; simp [inside, -List.getD_eq_getElem?_getD]; omega) | (simp [inside, -List.getD_eq_getElem?_getD] at *; omega)))
  · refine WL.pass rfl rfl rfl ?_
    refine WL.pass rfl rfl rfl ?_; refine WL.pass rfl rfl rfl ?_; refine WL.pass rfl rfl rfl ?_; refine WL.pass rfl rfl rfl ?_
    iterate 2 refine .o rfl ?_
    refine WL.pass rfl rfl rfl ?_; refine WL.pass rfl rfl rfl ?_; refine WL.pass rfl rfl rfl ?_; refine WL.pass rfl rfl rfl ?_
    iterate 2 refine .o rfl ?_
    refine WL.nil ?_; refine Kseq.go ?_
    (refine W.ret ?_; refine ⟨.inl rfl, [_], h, ⟨.tmp rfl, trivial⟩, (by repeat constructor), ?_⟩; exact congrArg Value.bool (by first | (simp [inside, -List.getD_eq_getElem?_getD]; done) | (simp_all [-List.getD_eq_getElem?_getD]; done) | (simp [inside, -List.getD_eq_getElem?_getD]; omega) | (rw [Bool.eq_iff_iff]; simp [inside, -List.getD_eq_getElem?_getD]; omega) | (simp [inside, -List.getD_eq_getElem?_getD] at *; omega)))
/-- ref.Fault -/
theorem faultR11_any {h : Mem} {v : Value} {r : Errand} (hv : IsErrand h v r) (hs : SmE r) : FnV Try.prog 17 #[v] h (.int .i64 (faultT r)) := by
  obtain ⟨wv, pv, hov, sv, f, rfl, hW, hP, hM, hH, hS⟩ := hv
  have hT := IsErrand.tableOf hW hP hM
  have hs1 := hs.table.1
  have hs2 := hs.home
  have hs3 := hs.streets
  have hn : r.n ≤ 50 := hs1
  have hwl : r.table.women.length = r.n := rfl
  refine FnR.val ?_
  refine FnR.of_W (n := 84) Try.func17 rfl rfl (Nat.le_of_ble_eq_true rfl) fun c hr hD hF => ?_
  refine W.seq ?_; refine W.region ?_
  refine WL.box rfl rfl rfl rfl (fun b1 => ?_)
  refine .o rfl ?_; refine WL.nil ?_
  refine Kseq.go (W.seq (W.seq ?_))
  refine W.region ?_; refine .val (.fieldAddrB rfl) rfl rfl rfl ?_; refine .val (.loadBA (vs := [wv, pv, .int .i64 r.table.wrong]) rfl (.head _) rfl rfl) rfl rfl rfl ?_; refine .val (.call rfl (fun m hm => faultR_any (hT.le (by repeat first | exact hm.1 | replace hm := hm.2)) hs.table)) rfl rfl rfl ?_; refine .o rfl ?_; refine WL.nil ?_
  refine Kseq.go (W.seq ?_)
  refine W.region ?_
  iterate 2 refine .o rfl ?_
  refine WL.nil ?_; refine Kseq.go ?_
  refine W.cond rfl rfl (fun he => ?_) (fun he => ?_)
  · refine W.seq ?_
    refine W.region ?_
    iterate 2 refine .o rfl ?_
    refine WL.nil ?_; refine Kseq.go ?_
    refine W.ret ?_; refine Kseq.ret ?_; refine ⟨.inl rfl, [_], h, ⟨.tmp rfl, trivial⟩, (by repeat constructor), ?_⟩
    exact congrArg (Value.int .i64) (by rw [faultT, if_pos (by simpa using he)])
  have h0 : ¬ fault r.table ≠ 0 := by simpa using he
  have hVa := fault_zero.1 (Classical.not_not.1 h0)
  refine W.skip (Kseq.go (W.seq (W.seq ?_)))
  refine W.region ?_; refine .val (.fieldAddrB rfl) rfl rfl rfl ?_; refine .val (.loadBA (vs := [wv, pv, .int .i64 r.table.wrong]) rfl (.head _) rfl rfl) rfl rfl rfl ?_; refine WL.abs (OpAbs.call rfl (fun m hm => truths_any (hT.le (by repeat first | exact hm.1 | replace hm := hm.2)) hs.table hVa.owned)) rfl rfl rfl ?_
  rintro m15 v15 h15
  obtain ⟨vs, hA, hL⟩ := h15
  refine .val (.len rfl hL) rfl rfl rfl ?_; refine .o rfl ?_; refine WL.nil ?_; refine Kseq.go ?_
  refine W.condD rfl rfl (fun h1 => ?_) (fun h1 => ?_)
  · refine W.seq ?_
    refine W.region ?_; refine .o rfl ?_; refine WL.nil ?_; refine Kseq.go ?_
    refine W.ret ?_; refine Kseq.ret ?_; refine ⟨.inl rfl, [_], h, ⟨.tmp rfl, trivial⟩, (by repeat constructor), ?_⟩
    exact congrArg (Value.int .i64) (by rw [faultT, if_neg h0, if_pos (List.length_eq_zero_iff.1 (by omega))])
  have h1' : ¬ truths r.table = [] := fun e => h1 (by rw [e]; rfl)
  refine W.skip (Kseq.go (W.seq ?_))
  refine W.region ?_; refine .val (.fieldAddrB rfl) rfl rfl rfl ?_; refine .val (.fieldAddrB rfl) rfl rfl rfl ?_; refine .val (.loadB rfl (.head _) rfl) rfl rfl rfl ?_; refine .val (.len rfl (by assumption)) rfl rfl rfl ?_; refine .o rfl ?_; refine WL.nil ?_
  refine Kseq.go (W.seq (W.seq ?_))
  refine W.toS [(1, .pointer (some ⟨b1, 0, none⟩)), (4, vi (r.n : Int)), (28, .bool (decide (4 < r.n ∨ 7 < r.calls)))] ?_ ?_
  · skip
    refine W.region ?_
    iterate 3 refine .o rfl ?_
    refine WL.split rfl rfl (fun g24 => ?_) (fun g24 => ?_)
    · refine WL.pass rfl rfl rfl ?_
      refine WL.pass rfl rfl rfl ?_; refine WL.pass rfl rfl rfl ?_; refine .o rfl ?_; refine WL.nil ?_
      exact Keff.intro ⟨rfl, rfl, congrArg (fun b => some (Value.bool b)) (by first | (simp [-List.getD_eq_getElem?_getD]; done) | (simp_all [-List.getD_eq_getElem?_getD]; done) | (simp [-List.getD_eq_getElem?_getD]; omega) | (rw [Bool.eq_iff_iff]; simp [-List.getD_eq_getElem?_getD]; omega) | (simp [-List.getD_eq_getElem?_getD] at *; omega)), trivial⟩ (by simp) (by repeat first | exact .refl _ | refine .cons _ ?_)
    · refine .val (.fieldAddrB rfl) rfl rfl rfl ?_
      refine .val (.loadB rfl (.head _) rfl) rfl rfl rfl ?_
      iterate 2 refine .o rfl ?_
      refine WL.nil ?_
      exact Keff.intro ⟨rfl, rfl, congrArg (fun b => some (Value.bool b)) (by first | (simp [-List.getD_eq_getElem?_getD]; done) | (simp_all [-List.getD_eq_getElem?_getD]; done) | (simp [-List.getD_eq_getElem?_getD]; omega) | (rw [Bool.eq_iff_iff]; simp [-List.getD_eq_getElem?_getD]; omega) | (simp [-List.getD_eq_getElem?_getD] at *; omega)), trivial⟩ (by simp) (by repeat first | exact .refl _ | refine .cons _ ?_)
  refine Kseq.go ?_
  refine W.condD rfl rfl (fun h2 => ?_) (fun h2 => ?_)
  · refine W.seq ?_
    refine W.region ?_; refine .o rfl ?_; refine WL.nil ?_; refine Kseq.go ?_
    refine W.ret ?_; refine Kseq.ret ?_; refine ⟨.inl rfl, [_], h, ⟨.tmp rfl, trivial⟩, (by repeat constructor), ?_⟩
    exact congrArg (Value.int .i64) (by rw [faultT, if_neg h0, if_neg h1', if_pos h2])
  have e43 : (r.n : Int) * ((r.n + 1 : Nat) : Int) / 2 = ((r.n * (r.n + 1) / 2 : Nat) : Int) := by rw [Int.natCast_ediv, Int.natCast_mul]; rfl
  have hm : (r.n : Int) * ((r.n + 1 : Nat) : Int) ≤ 4 * 5 := Int.mul_le_mul (by omega) (by omega) (by omega) (by omega)
  have hm0 : 0 ≤ (r.n : Int) * ((r.n + 1 : Nat) : Int) := Int.mul_nonneg (by omega) (by omega)
  refine W.skip (Kseq.go (W.seq (W.seq ?_)))
  refine W.toS [(1, .pointer (some ⟨b1, 0, none⟩)), (55, .bool (!decide (r.home.length = r.n) || !decide (r.streets.length = r.n * (r.n + 1) / 2) || !decide (0 ≤ r.start ∧ r.start ≤ 1439) || decide (r.calls < 0)))] ?_ ?_
  · generalize r.n * (r.n + 1) / 2 = q at *
    refine W.region ?_; refine .val (.fieldAddrB rfl) rfl rfl rfl ?_; refine .val (.loadB rfl (.head _) rfl) rfl rfl rfl ?_; refine .val (.len rfl (by assumption)) rfl rfl rfl ?_
    iterate 3 refine .o rfl ?_
    refine WL.splitN rfl rfl (fun g34 => ?_) (fun g34 => ?_)
    · refine WL.pass rfl rfl rfl ?_
      refine WL.pass rfl rfl rfl ?_; refine WL.pass rfl rfl rfl ?_; refine WL.pass rfl rfl rfl ?_; refine WL.pass rfl rfl rfl ?_; refine WL.pass rfl rfl rfl ?_; refine WL.pass rfl rfl rfl ?_; refine WL.pass rfl rfl rfl ?_; refine WL.pass rfl rfl rfl ?_
      iterate 2 refine .o rfl ?_
      refine WL.pass rfl rfl rfl ?_; refine WL.pass rfl rfl rfl ?_; refine WL.pass rfl rfl rfl ?_; refine WL.pass rfl rfl rfl ?_
      iterate 2 refine .o rfl ?_
      refine WL.pass rfl rfl rfl ?_; refine WL.pass rfl rfl rfl ?_; refine WL.pass rfl rfl rfl ?_; refine .o rfl ?_; refine WL.nil ?_
      exact Keff.intro ⟨rfl, congrArg (fun b => some (Value.bool b)) (by first | exact (by first | (simp [-List.getD_eq_getElem?_getD]; done) | (simp_all [-List.getD_eq_getElem?_getD]; done) | (simp [-List.getD_eq_getElem?_getD]; omega) | (rw [Bool.eq_iff_iff]; simp [Bool.not_not, -List.getD_eq_getElem?_getD]; omega) | (simp [Bool.not_not, -List.getD_eq_getElem?_getD] at *; omega)) | (rw [show decide (r.home.length = r.n) = true from decide_eq_true (by omega), show decide (r.streets.length = q) = true from decide_eq_true (by omega), show decide (0 ≤ r.start ∧ r.start ≤ 1439) = true from decide_eq_true (by omega)]; rfl)), trivial⟩ (by simp) (by repeat first | exact .refl _ | refine .cons _ ?_)
    · refine .val (.fieldAddrB rfl) rfl rfl rfl ?_
      refine .val (.loadB rfl (.head _) rfl) rfl rfl rfl ?_; refine .val (.len rfl (by assumption)) rfl rfl rfl ?_
      iterate 2 refine .o rfl ?_
      refine .val (.incr rfl (by omega)) rfl rfl rfl ?_; refine .val (.mul rfl rfl (Int.le_trans (by decide) hm0) (Int.le_trans hm (by decide))) rfl rfl rfl ?_; refine .val (.cast (.quo rfl rfl hm0 (by omega) (Int.le_trans hm (by decide))) (congrArg (Value.int .i64) e43)) rfl rfl rfl ?_
      iterate 3 refine .o rfl ?_
      refine WL.splitN rfl rfl (fun g45 => ?_) (fun g45 => ?_)
      · refine WL.pass rfl rfl rfl ?_
        refine WL.pass rfl rfl rfl ?_; refine WL.pass rfl rfl rfl ?_; refine WL.pass rfl rfl rfl ?_
        iterate 2 refine .o rfl ?_
        refine WL.pass rfl rfl rfl ?_; refine WL.pass rfl rfl rfl ?_; refine WL.pass rfl rfl rfl ?_; refine .o rfl ?_; refine WL.nil ?_
        exact Keff.intro ⟨rfl, congrArg (fun b => some (Value.bool b)) (by first | exact (by first | (simp [-List.getD_eq_getElem?_getD]; done) | (simp_all [-List.getD_eq_getElem?_getD]; done) | (simp [-List.getD_eq_getElem?_getD]; omega) | (rw [Bool.eq_iff_iff]; simp [Bool.not_not, -List.getD_eq_getElem?_getD]; omega) | (simp [Bool.not_not, -List.getD_eq_getElem?_getD] at *; omega)) | (rw [show decide (r.home.length = r.n) = true from decide_eq_true (by omega), show decide (r.streets.length = q) = true from decide_eq_true (by omega), show decide (0 ≤ r.start ∧ r.start ≤ 1439) = true from decide_eq_true (by omega)]; rfl)), trivial⟩ (by simp) (by repeat first | exact .refl _ | refine .cons _ ?_)
      · refine .val (.fieldAddrB rfl) rfl rfl rfl ?_
        refine .val (.loadB rfl (.head _) rfl) rfl rfl rfl ?_; refine .val (.call rfl (fun m hm => in_any _ _ _)) rfl rfl rfl ?_
        iterate 3 refine .o rfl ?_
        refine WL.splitN rfl rfl (fun g51 => ?_) (fun g51 => ?_)
        · refine WL.pass rfl rfl rfl ?_
          refine WL.pass rfl rfl rfl ?_; refine WL.pass rfl rfl rfl ?_; refine .o rfl ?_; refine WL.nil ?_
          exact Keff.intro ⟨rfl, congrArg (fun b => some (Value.bool b)) (by first | exact (by first | (simp [-List.getD_eq_getElem?_getD]; done) | (simp_all [-List.getD_eq_getElem?_getD]; done) | (simp [-List.getD_eq_getElem?_getD]; omega) | (rw [Bool.eq_iff_iff]; simp [Bool.not_not, -List.getD_eq_getElem?_getD]; omega) | (simp [Bool.not_not, -List.getD_eq_getElem?_getD] at *; omega)) | (rw [show decide (r.home.length = r.n) = true from decide_eq_true (by omega), show decide (r.streets.length = q) = true from decide_eq_true (by omega), show decide (0 ≤ r.start ∧ r.start ≤ 1439) = true from decide_eq_true (by omega)]; rfl)), trivial⟩ (by simp) (by repeat first | exact .refl _ | refine .cons _ ?_)
        · refine .val (.fieldAddrB rfl) rfl rfl rfl ?_
          refine .val (.loadB rfl (.head _) rfl) rfl rfl rfl ?_
          iterate 2 refine .o rfl ?_
          refine WL.nil ?_
          exact Keff.intro ⟨rfl, congrArg (fun b => some (Value.bool b)) (by first | exact (by first | (simp [-List.getD_eq_getElem?_getD]; done) | (simp_all [-List.getD_eq_getElem?_getD]; done) | (simp [-List.getD_eq_getElem?_getD]; omega) | (rw [Bool.eq_iff_iff]; simp [Bool.not_not, -List.getD_eq_getElem?_getD]; omega) | (simp [Bool.not_not, -List.getD_eq_getElem?_getD] at *; omega)) | (rw [show decide (r.home.length = r.n) = true from decide_eq_true (by omega), show decide (r.streets.length = q) = true from decide_eq_true (by omega), show decide (0 ≤ r.start ∧ r.start ≤ 1439) = true from decide_eq_true (by omega)]; rfl)), trivial⟩ (by simp) (by repeat first | exact .refl _ | refine .cons _ ?_)
  refine Kseq.go ?_
  have hargs : (!decide (r.home.length = r.n) || !decide (r.streets.length = r.n * (r.n + 1) / 2) || !decide (0 ≤ r.start ∧ r.start ≤ 1439) || decide (r.calls < 0)) = true ↔ (r.home.length ≠ r.n ∨ r.streets.length ≠ r.n * (r.n + 1) / 2 ∨ ¬ (0 ≤ r.start ∧ r.start ≤ 1439) ∨ r.calls < 0) := by
    simp only [Bool.or_eq_true, Bool.not_eq_true', decide_eq_false_iff_not, decide_eq_true_eq]; omega
  refine W.cond rfl rfl (fun h3 => ?_) (fun h3 => ?_)
  · refine W.seq ?_
    refine W.region ?_; refine .o rfl ?_; refine WL.nil ?_; refine Kseq.go ?_
    refine W.ret ?_; refine Kseq.ret ?_; refine ⟨.inl rfl, [_], h, ⟨.tmp rfl, trivial⟩, (by repeat constructor), ?_⟩
    exact congrArg (Value.int .i64) (by rw [faultT, if_neg h0, if_neg h1', if_neg h2, if_pos (hargs.1 h3)])
  have h3' : ¬ (r.home.length ≠ r.n ∨ r.streets.length ≠ r.n * (r.n + 1) / 2 ∨ ¬ (0 ≤ r.start ∧ r.start ≤ 1439) ∨ r.calls < 0) := fun hh => by rw [hargs.2 hh] at h3; cases h3
  clear hargs
  refine W.skip (Kseq.go (W.seq (W.seq ?_)))
  refine W.region ?_; refine .o rfl ?_; refine WL.nil ?_
  refine Kseq.go (W.block ?_)
  refine W.loopC (σ := Nat) (fun k => [(1, .pointer (some ⟨b1, 0, none⟩)), (5, .int .i64 (k : Int))]) (fun k => k ≤ r.home.length ∧ ∀ j, j < k → (!inside (r.home.getD j default) 1439) = false) (fun k => r.home.length - k) 0 ⟨rfl, rfl, trivial⟩ ⟨Nat.zero_le _, fun j hj => absurd hj (Nat.not_lt_zero _)⟩ ?_
  rintro k ⟨hk, hall⟩
  refine W.seq (W.seq ?_)
  refine W.region ?_; refine .o rfl ?_; refine .val (.fieldAddrB rfl) rfl rfl rfl ?_; refine .val (.loadB rfl (.head _) rfl) rfl rfl rfl ?_; refine .val (.len rfl hH) rfl rfl rfl ?_; refine .o rfl ?_; refine WL.nil ?_; refine Kseq.go ?_
  refine W.condD rfl rfl (fun hlt => ?_) (fun hge => ?_)
  · refine W.skip (Kseq.go (W.seq (W.block (W.seq ?_))))
    refine W.region ?_; refine .val (.fieldAddrB rfl) rfl rfl rfl ?_; refine .val (.loadB rfl (.head _) rfl) rfl rfl rfl ?_; refine .o rfl ?_; refine .val (.indexAddrN rfl rfl hH (by omega)) rfl rfl rfl ?_; refine .val (.loadEA rfl hH (by repeat constructor) (by omega)) rfl rfl rfl ?_; refine .val (.call rfl (fun m hm => insideR_any (r.home.getD k default) 1439)) rfl rfl rfl ?_; refine .o rfl ?_; refine WL.nil ?_; refine Kseq.go ?_
    refine W.cond rfl rfl (fun he => ?_) (fun he => ?_)
    · refine W.seq ?_
      refine W.region ?_; refine .o rfl ?_; refine WL.nil ?_; refine Kseq.go ?_
      refine W.ret ?_; refine Kblock.ret (Kseq.ret (Kloop.ret (Kblock.ret (Kseq.ret ?_)))); refine ⟨.inl rfl, [_], h, ⟨.tmp rfl, trivial⟩, (by repeat constructor), ?_⟩
      exact congrArg (Value.int .i64) (by rw [faultT, if_neg h0, if_neg h1', if_neg h2, if_neg h3', if_pos ((ex_iff (p := fun i => !inside (r.home.getD i default) 1439)).2 ⟨k, by omega, he⟩)])
    · refine W.skip (Kblock.normal (Kseq.go ?_))
      refine W.region ?_; refine .o rfl ?_; refine .val (.incr rfl (by omega)) rfl rfl rfl ?_; refine .o rfl ?_; refine WL.nil ?_
      refine Kloop.nextC (k + 1) ⟨by omega, fun j hj => ?_⟩ (by omega) ⟨rfl, rfl, trivial⟩ (by simp) (.refl _)
      rcases Nat.lt_succ_iff_lt_or_eq.1 hj with h | rfl
      · exact hall j h
      · exact he
  have h4 : ¬ ex r.home.length (fun i => !inside (r.home.getD i default) 1439) = true := by rw [ex_no.2 fun i hi => hall i (by omega)]; simp
  clear hall
  refine W.exit (Kseq.exit (Kloop.exit (Kblock.here (Kseq.go (W.seq (W.seq ?_))))))
  refine W.region ?_; refine .o rfl ?_; refine WL.nil ?_
  refine Kseq.go (W.block ?_)
  refine W.loopC (σ := Nat) (fun k => [(1, .pointer (some ⟨b1, 0, none⟩)), (6, .int .i64 (k : Int))]) (fun k => k ≤ r.streets.length ∧ ∀ j, j < k → (!inside (r.streets.getD j default) 60) = false) (fun k => r.streets.length - k) 0 ⟨rfl, rfl, trivial⟩ ⟨Nat.zero_le _, fun j hj => absurd hj (Nat.not_lt_zero _)⟩ ?_
  rintro k2 ⟨hk2, hall⟩
  refine W.seq (W.seq ?_)
  refine W.region ?_; refine .o rfl ?_; refine .val (.fieldAddrB rfl) rfl rfl rfl ?_; refine .val (.loadB rfl (.head _) rfl) rfl rfl rfl ?_; refine .val (.len rfl hS) rfl rfl rfl ?_; refine .o rfl ?_; refine WL.nil ?_; refine Kseq.go ?_
  refine W.condD rfl rfl (fun hlt2 => ?_) (fun hge2 => ?_)
  · refine W.skip (Kseq.go (W.seq (W.block (W.seq ?_))))
    refine W.region ?_; refine .val (.fieldAddrB rfl) rfl rfl rfl ?_; refine .val (.loadB rfl (.head _) rfl) rfl rfl rfl ?_; refine .o rfl ?_; refine .val (.indexAddrN rfl rfl hS (by omega)) rfl rfl rfl ?_; refine .val (.loadEA rfl hS (by repeat constructor) (by omega)) rfl rfl rfl ?_; refine .val (.call rfl (fun m hm => insideR_any (r.streets.getD k2 default) 60)) rfl rfl rfl ?_; refine .o rfl ?_; refine WL.nil ?_; refine Kseq.go ?_
    refine W.cond rfl rfl (fun he => ?_) (fun he => ?_)
    · refine W.seq ?_
      refine W.region ?_; refine .o rfl ?_; refine WL.nil ?_; refine Kseq.go ?_
      refine W.ret ?_; refine Kblock.ret (Kseq.ret (Kloop.ret (Kblock.ret (Kseq.ret ?_)))); refine ⟨.inl rfl, [_], h, ⟨.tmp rfl, trivial⟩, (by repeat constructor), ?_⟩
      exact congrArg (Value.int .i64) (by rw [faultT, if_neg h0, if_neg h1', if_neg h2, if_neg h3', if_neg h4, if_pos ((ex_iff (p := fun i => !inside (r.streets.getD i default) 60)).2 ⟨k2, by omega, he⟩)])
    · refine W.skip (Kblock.normal (Kseq.go ?_))
      refine W.region ?_; refine .o rfl ?_; refine .val (.incr rfl (by omega)) rfl rfl rfl ?_; refine .o rfl ?_; refine WL.nil ?_
      refine Kloop.nextC (k2 + 1) ⟨by omega, fun j hj => ?_⟩ (by omega) ⟨rfl, rfl, trivial⟩ (by simp) (.refl _)
      rcases Nat.lt_succ_iff_lt_or_eq.1 hj with h | rfl
      · exact hall j h
      · exact he
  · have h5 : ¬ ex r.streets.length (fun i => !inside (r.streets.getD i default) 60) = true := by rw [ex_no.2 fun i hi => hall i (by omega)]; simp
    refine W.exit (Kseq.exit (Kloop.exit (Kblock.here (Kseq.go (W.seq ?_)))))
    refine W.region ?_; refine .o rfl ?_; refine WL.nil ?_; refine Kseq.go ?_
    refine W.ret ?_; refine ⟨.inl rfl, [_], h, ⟨.tmp rfl, trivial⟩, (by repeat constructor), ?_⟩
    exact congrArg (Value.int .i64) (by rw [faultT, if_neg h0, if_neg h1', if_neg h2, if_neg h3', if_neg h4, if_neg h5])
/-- Thin -/
def ThinL (r : Errand) : Bool := !decide (faultT r = 0) || (decide (many r.table ≤ 60) && decide (r.calls ≤ 6) && (decide (r.n < 4) || decide (r.calls ≤ 5)))
def ThinE (r : Errand) : Bool := ThinB r.table && decide (r.home.length ≤ 7) && decide (r.streets.length ≤ 16) && ThinL r
theorem ThinE.sm {r : Errand} (h : ThinE r = true) : SmE r := by
  simp only [ThinE, Bool.and_eq_true, decide_eq_true_eq] at h
  exact ⟨ThinB.sm h.1.1.1, by omega, by omega⟩
theorem thin11_any {h : Mem} {v : Value} {r : Errand} (hv : IsErrand h v r) : FnV Try.prog 16 #[v] h (.bool (ThinE r)) := by
  have hv' := hv
  obtain ⟨wv, pv, hov, sv, f, rfl, hW, hP, hM, hH, hS⟩ := hv
  have hT := IsErrand.tableOf hW hP hM
  have hhb := hH.bd
  have hsb := hS.bd
  have hwb := hW.bd
  refine FnR.val ?_
  refine FnR.of_W (n := 45) Try.func16 rfl rfl (Nat.le_of_ble_eq_true rfl) fun c hr hD hF => ?_
  refine W.seq ?_; refine W.region ?_
  refine WL.box rfl rfl rfl rfl (fun b1 => ?_)
  refine .o rfl ?_; refine WL.nil ?_
  refine Kseq.go (W.seq (W.seq ?_))
  refine W.toS [(1, .pointer (some ⟨b1, 0, none⟩)), (18, .bool (!ThinB r.table || !decide (r.home.length ≤ 7) || !decide (r.streets.length ≤ 16)))] ?_ ?_
  · skip
    refine W.region ?_; refine .val (.fieldAddrB rfl) rfl rfl rfl ?_; refine .val (.loadBA (vs := [wv, pv, .int .i64 r.table.wrong]) rfl (.head _) rfl rfl) rfl rfl rfl ?_; refine .val (.call rfl (fun m hm => thin_any (hT.le (by repeat first | exact hm.1 | replace hm := hm.2)))) rfl rfl rfl ?_
    iterate 2 refine .o rfl ?_
    refine WL.splitB rfl rfl (fun g7 => ?_) (fun g7 => ?_)
    · refine WL.pass rfl rfl rfl ?_
      refine WL.pass rfl rfl rfl ?_; refine WL.pass rfl rfl rfl ?_; refine WL.pass rfl rfl rfl ?_
      iterate 2 refine .o rfl ?_
      refine WL.pass rfl rfl rfl ?_; refine WL.pass rfl rfl rfl ?_; refine WL.pass rfl rfl rfl ?_; refine WL.pass rfl rfl rfl ?_; refine .o rfl ?_; refine WL.nil ?_
      exact Keff.intro ⟨rfl, congrArg (fun b => some (Value.bool b)) (by first | (rw [show ThinB r.table = true by simpa using g7, decide_eq_true (show r.home.length ≤ 7 by omega)]; rw [Bool.eq_iff_iff]; simp; omega) | exact (by first | (simp [-List.getD_eq_getElem?_getD]; done) | (simp_all [-List.getD_eq_getElem?_getD]; done) | (simp [-List.getD_eq_getElem?_getD]; omega) | (rw [Bool.eq_iff_iff]; simp [-List.getD_eq_getElem?_getD]; omega) | (simp [-List.getD_eq_getElem?_getD] at *; omega))), trivial⟩ (fun _ h => h) (by repeat first | exact .refl _ | refine .cons _ ?_)
    · refine .val (.fieldAddrB rfl) rfl rfl rfl ?_
      refine .val (.loadB rfl (.head _) rfl) rfl rfl rfl ?_; refine .val (.len rfl (by assumption)) rfl rfl rfl ?_
      iterate 3 refine .o rfl ?_
      refine WL.split rfl rfl (fun g13 => ?_) (fun g13 => ?_)
      · refine WL.pass rfl rfl rfl ?_
        refine WL.pass rfl rfl rfl ?_; refine WL.pass rfl rfl rfl ?_; refine WL.pass rfl rfl rfl ?_; refine .o rfl ?_; refine WL.nil ?_
        exact Keff.intro ⟨rfl, congrArg (fun b => some (Value.bool b)) (by first | (rw [show ThinB r.table = true by simpa using g7, decide_eq_true (show r.home.length ≤ 7 by omega)]; rw [Bool.eq_iff_iff]; simp; omega) | exact (by first | (simp [-List.getD_eq_getElem?_getD]; done) | (simp_all [-List.getD_eq_getElem?_getD]; done) | (simp [-List.getD_eq_getElem?_getD]; omega) | (rw [Bool.eq_iff_iff]; simp [-List.getD_eq_getElem?_getD]; omega) | (simp [-List.getD_eq_getElem?_getD] at *; omega))), trivial⟩ (fun _ h => h) (by repeat first | exact .refl _ | refine .cons _ ?_)
      · refine .val (.fieldAddrB rfl) rfl rfl rfl ?_
        refine .val (.loadB rfl (.head _) rfl) rfl rfl rfl ?_; refine .val (.len rfl (by assumption)) rfl rfl rfl ?_
        iterate 2 refine .o rfl ?_
        refine WL.nil ?_
        exact Keff.intro ⟨rfl, congrArg (fun b => some (Value.bool b)) (by first | (rw [show ThinB r.table = true by simpa using g7, decide_eq_true (show r.home.length ≤ 7 by omega)]; rw [Bool.eq_iff_iff]; simp; omega) | exact (by first | (simp [-List.getD_eq_getElem?_getD]; done) | (simp_all [-List.getD_eq_getElem?_getD]; done) | (simp [-List.getD_eq_getElem?_getD]; omega) | (rw [Bool.eq_iff_iff]; simp [-List.getD_eq_getElem?_getD]; omega) | (simp [-List.getD_eq_getElem?_getD] at *; omega))), trivial⟩ (fun _ h => h) (by repeat first | exact .refl _ | refine .cons _ ?_)
  refine Kseq.go ?_
  refine W.cond rfl rfl (fun h0 => ?_) (fun h0 => ?_)
  · refine W.seq ?_
    refine W.region ?_; refine .o rfl ?_; refine WL.nil ?_; refine Kseq.go ?_
    refine W.ret ?_; refine Kseq.ret ?_; refine ⟨.inl rfl, [_], h, ⟨.tmp rfl, trivial⟩, (by repeat constructor), ?_⟩
    have h0' : (ThinB r.table && decide (r.home.length ≤ 7) && decide (r.streets.length ≤ 16)) = false := by
      cases ht : ThinB r.table with
      | false => rfl
      | true =>
        rw [ht] at h0
        rw [Bool.eq_false_iff]
        intro hh
        simp only [Bool.and_eq_true, decide_eq_true_eq, true_and] at hh
        rw [decide_eq_true hh.1, decide_eq_true hh.2] at h0
        cases h0
    exact congrArg Value.bool (by unfold ThinE; rw [h0']; rfl)
  have h0' : (ThinB r.table && decide (r.home.length ≤ 7) && decide (r.streets.length ≤ 16)) = true := by
    simp only [Bool.or_eq_false_iff, Bool.not_eq_false'] at h0
    rw [h0.1.1, h0.1.2, h0.2]; rfl
  have hs : SmE r := by
    simp only [Bool.and_eq_true, decide_eq_true_eq] at h0'
    exact ⟨ThinB.sm h0'.1.1, by omega, by omega⟩
  have hfin : ThinE r = ThinL r := by unfold ThinE; rw [h0', Bool.true_and]
  rw [hfin]
  have hwl : r.table.women.length = r.n := rfl
  refine W.skip (Kseq.go (W.seq ?_))
  refine W.region ?_; refine .val (.loadBW rfl (.head _) rfl) rfl rfl rfl ?_; refine .val (.call rfl (fun m hm => faultR11_any (hv'.le (by repeat first | exact hm.1 | replace hm := hm.2)) hs)) rfl rfl rfl ?_
  iterate 2 refine .o rfl ?_
  refine WL.splitN rfl rfl (fun g22 => ?_) (fun g22 => ?_)
  · refine WL.pass rfl rfl rfl ?_
    refine WL.pass rfl rfl rfl ?_; refine WL.pass rfl rfl rfl ?_; refine WL.pass rfl rfl rfl ?_; refine WL.pass rfl rfl rfl ?_; refine WL.pass rfl rfl rfl ?_; refine WL.pass rfl rfl rfl ?_; refine WL.pass rfl rfl rfl ?_; refine WL.pass rfl rfl rfl ?_; refine WL.pass rfl rfl rfl ?_; refine WL.pass rfl rfl rfl ?_; refine WL.pass rfl rfl rfl ?_; refine WL.pass rfl rfl rfl ?_; refine WL.pass rfl rfl rfl ?_; refine WL.pass rfl rfl rfl ?_; refine WL.pass rfl rfl rfl ?_; refine WL.pass rfl rfl rfl ?_; refine WL.pass rfl rfl rfl ?_; refine WL.pass rfl rfl rfl ?_; refine WL.pass rfl rfl rfl ?_; refine WL.pass rfl rfl rfl ?_
    iterate 2 refine .o rfl ?_
    refine WL.nil ?_; refine Kseq.go ?_
    (refine W.ret ?_; refine ⟨.inl rfl, [_], h, ⟨.tmp rfl, trivial⟩, (by repeat constructor), ?_⟩; exact congrArg Value.bool (by first | (simp [ThinL, -List.getD_eq_getElem?_getD]; done) | (simp_all [-List.getD_eq_getElem?_getD]; done) | (simp [ThinL, -List.getD_eq_getElem?_getD]; omega) | (rw [Bool.eq_iff_iff]; simp [ThinL, hwl, -List.getD_eq_getElem?_getD]; omega) | (simp [ThinL, hwl, -List.getD_eq_getElem?_getD] at *; omega)))
  · refine .val (.fieldAddrB rfl) rfl rfl rfl ?_
    refine .val (.loadBA (vs := [wv, pv, .int .i64 r.table.wrong]) rfl (.head _) rfl rfl) rfl rfl rfl ?_; refine .val (.call rfl (fun m hm => many_any (hT.le (by repeat first | exact hm.1 | replace hm := hm.2)) hs.table)) rfl rfl rfl ?_
    iterate 2 refine .o rfl ?_
    refine WL.split rfl rfl (fun g27 => ?_) (fun g27 => ?_)
    · refine .val (.fieldAddrB rfl) rfl rfl rfl ?_
      refine .val (.loadB rfl (.head _) rfl) rfl rfl rfl ?_
      iterate 3 refine .o rfl ?_
      refine WL.split rfl rfl (fun g32 => ?_) (fun g32 => ?_)
      · refine .val (.fieldAddrB rfl) rfl rfl rfl ?_
        refine .val (.fieldAddrB rfl) rfl rfl rfl ?_; refine .val (.loadB rfl (.head _) rfl) rfl rfl rfl ?_; refine .val (.len rfl (by assumption)) rfl rfl rfl ?_
        iterate 2 refine .o rfl ?_
        refine WL.split rfl rfl (fun g38 => ?_) (fun g38 => ?_)
        · refine WL.pass rfl rfl rfl ?_
          refine WL.pass rfl rfl rfl ?_; refine WL.pass rfl rfl rfl ?_
          iterate 4 refine .o rfl ?_
          refine WL.nil ?_; refine Kseq.go ?_
          (refine W.ret ?_; refine ⟨.inl rfl, [_], h, ⟨.tmp rfl, trivial⟩, (by repeat constructor), ?_⟩; exact congrArg Value.bool (by first | (simp [ThinL, -List.getD_eq_getElem?_getD]; done) | (simp_all [-List.getD_eq_getElem?_getD]; done) | (simp [ThinL, -List.getD_eq_getElem?_getD]; omega) | (rw [Bool.eq_iff_iff]; simp [ThinL, -List.getD_eq_getElem?_getD]; omega) | (simp [ThinL, hwl, -List.getD_eq_getElem?_getD] at *; omega)))
        · refine .val (.fieldAddrB rfl) rfl rfl rfl ?_
          refine .val (.loadB rfl (.head _) rfl) rfl rfl rfl ?_
          iterate 5 refine .o rfl ?_
          refine WL.nil ?_; refine Kseq.go ?_
          (refine W.ret ?_; refine ⟨.inl rfl, [_], h, ⟨.tmp rfl, trivial⟩, (by repeat constructor), ?_⟩; exact congrArg Value.bool (by first | (simp [ThinL, -List.getD_eq_getElem?_getD]; done) | (simp_all [-List.getD_eq_getElem?_getD]; done) | (simp [ThinL, -List.getD_eq_getElem?_getD]; omega) | (rw [Bool.eq_iff_iff]; simp [ThinL, -List.getD_eq_getElem?_getD]; omega) | (simp [ThinL, hwl, -List.getD_eq_getElem?_getD] at *; omega)))
      · refine WL.pass rfl rfl rfl ?_
        refine WL.pass rfl rfl rfl ?_; refine WL.pass rfl rfl rfl ?_; refine WL.pass rfl rfl rfl ?_; refine WL.pass rfl rfl rfl ?_; refine WL.pass rfl rfl rfl ?_; refine WL.pass rfl rfl rfl ?_; refine WL.pass rfl rfl rfl ?_; refine WL.pass rfl rfl rfl ?_; refine WL.pass rfl rfl rfl ?_
        iterate 3 refine .o rfl ?_
        refine WL.nil ?_; refine Kseq.go ?_
        (refine W.ret ?_; refine ⟨.inl rfl, [_], h, ⟨.tmp rfl, trivial⟩, (by repeat constructor), ?_⟩; exact congrArg Value.bool (by first | (simp [ThinL, -List.getD_eq_getElem?_getD]; done) | (simp_all [-List.getD_eq_getElem?_getD]; done) | (simp [ThinL, -List.getD_eq_getElem?_getD]; omega) | (rw [Bool.eq_iff_iff]; simp [ThinL, hwl, -List.getD_eq_getElem?_getD]; omega) | (simp [ThinL, hwl, -List.getD_eq_getElem?_getD] at *; omega)))
    · refine WL.pass rfl rfl rfl ?_
      refine WL.pass rfl rfl rfl ?_; refine WL.pass rfl rfl rfl ?_
      iterate 2 refine .o rfl ?_
      refine WL.pass rfl rfl rfl ?_; refine WL.pass rfl rfl rfl ?_; refine WL.pass rfl rfl rfl ?_; refine WL.pass rfl rfl rfl ?_; refine WL.pass rfl rfl rfl ?_; refine WL.pass rfl rfl rfl ?_; refine WL.pass rfl rfl rfl ?_; refine WL.pass rfl rfl rfl ?_; refine WL.pass rfl rfl rfl ?_; refine WL.pass rfl rfl rfl ?_
      iterate 3 refine .o rfl ?_
      refine WL.nil ?_; refine Kseq.go ?_
      (refine W.ret ?_; refine ⟨.inl rfl, [_], h, ⟨.tmp rfl, trivial⟩, (by repeat constructor), ?_⟩; exact congrArg Value.bool (by first | (simp [ThinL, -List.getD_eq_getElem?_getD]; done) | (simp_all [-List.getD_eq_getElem?_getD]; done) | (simp [ThinL, -List.getD_eq_getElem?_getD]; omega) | (rw [Bool.eq_iff_iff]; simp [ThinL, hwl, -List.getD_eq_getElem?_getD]; omega) | (simp [ThinL, hwl, -List.getD_eq_getElem?_getD] at *; omega)))
/-- to -/
theorem to_any {h : Mem} (r : Rg) : FnV Try.prog 72 #[.agg #[vi r.lo, vi r.hi]] h (.agg #[vi r.lo, vi r.hi]) := by
  refine FnR.val ?_
  refine FnR.of_W (n := 8) Try.func72 rfl rfl (Nat.le_of_ble_eq_true rfl) fun c hr hD hF => ?_
  refine W.seq ?_; refine W.region ?_
  refine WL.box rfl rfl rfl rfl (fun b1 => ?_)
  refine WL.alloc rfl rfl rfl (fun b2 => ?_)
  refine WL.nil ?_
  refine Kseq.go (W.seq ?_)
  refine W.region ?_; refine .val (.fieldAddrB rfl) rfl rfl rfl ?_; refine .val (.loadB rfl (.tail _ (.head _)) rfl) rfl rfl rfl ?_; refine .val (.fieldAddrB rfl) rfl rfl rfl ?_; refine .val (.loadB rfl (.tail _ (.head _)) rfl) rfl rfl rfl ?_; refine .val (.build2 rfl rfl) rfl rfl rfl ?_
  refine WL.store [_, _] rfl (.head _) rfl rfl rfl (Nat.le_of_ble_eq_true rfl) (by first | (simp [Value.cells, Value.oneCell']; done) | exact IsArr.ones hW (by omega) | exact IsArr.ones hP (by omega) | exact IsArr.ones hS (by omega) | exact IsArr.ones hH (by omega) | exact IsArr.ones hL (by omega) | exact IsArr.ones hB (by omega) | exact IsArr.ones hT (by omega) | exact IsArr.ones hm (by omega)) rfl ?_
  refine WL.nil ?_; refine Kseq.go ?_
  refine W.ret ?_; skip
  exact ⟨.inl rfl, [_], h, ⟨.agg inferInstance inferInstance rfl (.head _) rfl, trivial⟩, .head _, rfl⟩
end Go.Proofs.Ytppkhehbkoeinaa

/- The statements' errands: the functions' contracts. -/
namespace Go.Proofs.Ytppkhehbkoeinaa
open Go Go.Eng Go.RowKit

/-- Errand -/
theorem errand_any {h : Mem} {v : Value} {r : Errand} (hv : IsErrand h v r) (hs : SmE r) : FnR Try.prog 20 #[v] h (fun m q => IsErrand m q r) := by
  obtain ⟨wv, pv, hov, sv, f, rfl, hW, hP, hM, hH, hS⟩ := hv
  have hT := IsErrand.tableOf hW hP hM
  have hs2 := hs.home
  have hs3 := hs.streets
  refine FnR.of_W (n := 51) Try.func20 rfl rfl (Nat.le_of_ble_eq_true rfl) fun c hr hD hF => ?_
  refine W.seq ?_; refine W.region ?_
  refine WL.box rfl rfl rfl rfl (fun b1 => ?_)
  refine WL.alloc rfl rfl rfl (fun b2 => ?_)
  refine WL.nil ?_
  refine Kseq.go (W.seq ?_)
  let A13 : Mem → Value → Prop := fun m q => ∃ wa wc pa pc f', q = .agg #[.slice wa r.table.women.length wc, .slice pa r.table.pieces.length pc, .int .i64 r.table.wrong, .slice none 0 0, .slice none 0 0, .int .i64 r.start, .int .i64 r.calls] ∧ IsWomen m (.slice wa r.table.women.length wc) r.table.women ∧ IsPieces m (.slice pa r.table.pieces.length pc) f' r.table.pieces ∧ IsMarks m f' r.table.pieces
  refine W.draw2g 9 8 3 (fun g : Nat => Value.pointer (some ⟨g, 0, none⟩)) (fun g => [.blk g #[.slice none 0 0, .slice none 0 0, .int .i64 0, .slice none 0 0, .slice none 0 0, .int .i64 0, .int .i64 0] 61, .blk b2 #[.slice none 0 0, .slice none 0 0, .int .i64 0, .slice none 0 0, .slice none 0 0, .int .i64 0, .int .i64 0] 61, .blk b1 (ecs wv pv hov sv r) 54]) (by kernel_rfl) (by kernel_rfl) (by kernel_rfl) rfl rfl ?_; refine DJ2.val [] (.inr (OpVal.fieldAddrB rfl)) (.inr (fun g => OpVal.fieldAddrB rfl)) rfl (fun _ => rfl) rfl rfl rfl (fun _ => rfl) rfl ?_; refine DJ2.val [] (.inr (OpVal.loadBA (vs := [wv, pv, .int .i64 r.table.wrong]) rfl (by repeat constructor) rfl rfl)) (.inr (fun g => OpVal.loadBA (vs := [wv, pv, .int .i64 r.table.wrong]) rfl (by repeat constructor) rfl rfl)) rfl (fun _ => rfl) rfl rfl rfl (fun _ => rfl) rfl ?_; refine DJ2.abs (A := fun m q => IsTable m q r.table) [] (.inr (OpAbs.call rfl (fun m hm => table_any (hT.le (by repeat first | exact hm.1 | replace hm := hm.2)) hs.table))) (.inr (fun g => OpAbs.call rfl (fun m hm => table_any (hT.le (by repeat first | exact hm.1 | replace hm := hm.2)) hs.table))) rfl (fun _ => rfl) rfl rfl rfl (fun _ => rfl) rfl ?_
  refine DJ2.val [] (.inr (OpVal.fieldAddrB rfl)) (.inr (fun g => OpVal.fieldAddrB rfl)) rfl (fun _ => rfl) rfl rfl rfl (fun _ => rfl) rfl ?_; refine DJ2.val [] (.inr (OpVal.loadB rfl (by repeat constructor) rfl)) (.inr (fun g => OpVal.loadB rfl (by repeat constructor) rfl)) rfl (fun _ => rfl) rfl rfl rfl (fun _ => rfl) rfl ?_; refine DJ2.val [] (.inr (OpVal.fieldAddrB rfl)) (.inr (fun g => OpVal.fieldAddrB rfl)) rfl (fun _ => rfl) rfl rfl rfl (fun _ => rfl) rfl ?_; refine DJ2.val [] (.inr (OpVal.loadB rfl (by repeat constructor) rfl)) (.inr (fun g => OpVal.loadB rfl (by repeat constructor) rfl)) rfl (fun _ => rfl) rfl rfl rfl (fun _ => rfl) rfl ?_
  refine DJ2.abs (A := A13) [(8, fun m q => IsTable m q r.table)] (.inr (fun m8 v8 h8 => by obtain ⟨wv', pv', f', rfl, hW', hP', hM'⟩ := h8; obtain ⟨wa, wc, rfl⟩ := IsArr.form hW'; obtain ⟨pa, pc, rfl⟩ := IsArr.form hP'; exact OpAbs.ofVal (OpVal.build #[.slice wa r.table.women.length wc, .slice pa r.table.pieces.length pc, .int .i64 r.table.wrong, .slice none 0 0, .slice none 0 0, .int .i64 r.start, .int .i64 r.calls] rfl (by kernel_rfl)) (.head _) ⟨_, _, _, _, _, rfl, hW', hP', hM'⟩)) (.inr (fun g => fun m8 v8 h8 => by obtain ⟨wv', pv', f', rfl, hW', hP', hM'⟩ := h8; obtain ⟨wa, wc, rfl⟩ := IsArr.form hW'; obtain ⟨pa, pc, rfl⟩ := IsArr.form hP'; exact OpAbs.ofVal (OpVal.build #[.slice wa r.table.women.length wc, .slice pa r.table.pieces.length pc, .int .i64 r.table.wrong, .slice none 0 0, .slice none 0 0, .int .i64 r.start, .int .i64 r.calls] rfl (by kernel_rfl)) (.head _) ⟨_, _, _, _, _, rfl, hW', hP', hM'⟩)) rfl (fun _ => rfl) rfl rfl rfl (fun _ => rfl) rfl ?_ (hG := ⟨(by repeat constructor), rfl, trivial⟩)
  refine DJ2.eff [] trivial rfl rfl rfl (fun M2 hM2 => ?_) ?_
  · (refine WL.alloc rfl rfl rfl (fun b3 => ?_); exact WL.nil ⟨b3, Keff.intro (by repeat (first | exact trivial | refine ⟨rfl, ?_⟩)) (fun m hm => hm) (.refl _)⟩)
  refine DJ2.nil (fun g => ?_)
  rintro m13 v13 h13
  rintro m8 v8 h8
  obtain ⟨wa, wc, pa, pc, f', rfl, hW', hP', hM'⟩ := h13
  let C : Value → Value → Array Value := fun a b => #[.slice wa r.table.women.length wc, .slice pa r.table.pieces.length pc, .int .i64 r.table.wrong, a, b, .int .i64 r.start, .int .i64 r.calls]
  (refine WL.store [_, _, _, _, _, _, _] rfl (.head _) rfl rfl rfl (Nat.le_of_ble_eq_true rfl) (by simp [Value.cells, Value.oneCell']) rfl ?_)
  refine WL.nil ?_
  refine Kseq.go (W.seq (W.seq ?_))
  refine W.region ?_; refine .o rfl ?_; refine WL.nil ?_
  refine Kseq.go (W.block ?_)
  refine W.nilRow 98 2 ?_; refine W.loop (σ := Nat × Value) (fun s => [(1, .pointer (some ⟨b1, 0, none⟩)), (2, .pointer (some ⟨b2, 0, none⟩)), (3, .pointer (some ⟨g, 0, none⟩)), (4, .int .i64 (s.1 : Int))]) (fun _ => [m13, h]) (fun s => [kr 98 2 s.2 ((r.home.take s.1).map rv2), .blk g (C s.2 (.slice none 0 0)) 61, .blk b2 _ 61, .blk b1 (ecs wv pv hov sv r) 54]) (fun s => s.1 ≤ r.home.length) (fun s => r.home.length - s.1) (0, .slice none 0 0) ⟨rfl, rfl, rfl, rfl, trivial⟩ (by simp) (.refl _) (Nat.zero_le _) ?_
  rintro ⟨k, a⟩ hk
  dsimp only at hk ⊢
  have hlen : ((r.home.take k).map rv2).length = k := by simp; omega
  refine W.seq (W.seq ?_)
  refine W.region ?_; refine .o rfl ?_; refine .val (.fieldAddrB rfl) rfl rfl rfl ?_; refine .val (.loadB rfl (.tail _ (.tail _ (.tail _ (.head _)))) rfl) rfl rfl rfl ?_; refine .val (.len rfl hH) rfl rfl rfl ?_; refine .o rfl ?_; refine WL.nil ?_; refine Kseq.go ?_
  refine W.condD rfl rfl (fun hlt => ?_) (fun hge => ?_)
  · have hkl : k < r.home.length := by omega
    refine W.skip (Kseq.go (W.seq (W.block ?_)))
    refine W.draw 9 (by kernel_rfl) (by kernel_rfl) (by kernel_rfl) rfl ?_; refine .val [] (.fieldAddrB rfl) rfl rfl rfl rfl ?_; refine .val [] (.loadB rfl (.tail _ (.head _)) rfl) rfl rfl rfl rfl ?_; refine .val [] (.fieldAddrB rfl) rfl rfl rfl rfl ?_; refine .val [] (.loadB rfl (.tail _ (.tail _ (.tail _ (.head _)))) rfl) rfl rfl rfl rfl ?_; refine .val [] (.opv rfl) rfl rfl rfl rfl ?_; refine .val [] (.indexAddrN rfl rfl hH hkl) rfl rfl rfl rfl ?_; refine .val [] (.loadEA rfl hH (by repeat constructor) hkl) rfl rfl rfl rfl ?_; refine .val [] (.call rfl (fun m hm => to_any (r.home.getD k default))) rfl rfl rfl rfl ?_; refine DJ.abs (A := fun m q => IsCells m 2 q 1 [vi (r.home.getD k default).lo, vi (r.home.getD k default).hi]) [] (OpAbs.mono (OpAbs.lit [vi (r.home.getD k default).lo, vi (r.home.getD k default).hi] rfl (Nat.le_of_ble_eq_true rfl) rfl rfl (by simp [Value.cells]) (Nat.le_of_ble_eq_true rfl) rfl (by simp [Value.oneCell'])) (fun m' v' h' => h'.1)) rfl rfl rfl rfl ?_
    refine DJ.nil ?_
    rintro m29 v29 h29
    (refine WL.appK (rv2 (r.home.getD k default)) rfl (fun _ => .head _) rfl h29 (by repeat constructor) rfl rfl (by omega) (by omega) (Nat.le_of_ble_eq_true rfl) rfl rfl rfl ?_; intro a30 c30)
    refine .val (.fieldAddrB rfl) rfl rfl rfl ?_
    (refine WL.store [_, _, _, _, _, _, _] rfl (.tail _ (.head _)) rfl rfl rfl (Nat.le_of_ble_eq_true rfl) (by simp [Value.cells, Value.oneCell']) rfl ?_)
    refine WL.nil ?_
    refine Kblock.normal (Kseq.go ?_)
    refine W.region ?_; refine .o rfl ?_; refine .val (.incr rfl (by omega)) rfl rfl rfl ?_; refine .o rfl ?_; refine WL.nil ?_
    refine Kloop.next (k + 1, .slice a30 (((r.home.take k).map rv2).length + 1) c30) (by dsimp only; omega) (by dsimp only; omega) ⟨rfl, rfl, rfl, rfl, trivial⟩ (by simp) ?_
    dsimp only
    rw [take_snoc hkl, List.map_append]
    exact .refl _
  refine W.exit (Kseq.exit (Kloop.exit (Kblock.here (Kseq.go (W.seq (W.seq ?_))))))
  have hkk : k = r.home.length := by omega
  subst hkk
  rw [List.take_length]
  refine W.freezeK (.head _) (fun b hb => (hF b hb).elim) (by simp) (by simp [rv2, Value.cells]) (by simp [rv2, Value.cells, Value.oneCell']) fun m1 hm1 => ?_
  have hm1' := rgs_of hm1
  clear hm1
  obtain ⟨a1, c1, rfl⟩ := IsArr.form hm1'
  refine W.region ?_; refine .o rfl ?_; refine WL.nil ?_
  refine Kseq.go (W.block ?_)
  refine W.nilRow 98 2 ?_; refine W.loop (σ := Nat × Value) (fun s => [(1, .pointer (some ⟨b1, 0, none⟩)), (2, .pointer (some ⟨b2, 0, none⟩)), (3, .pointer (some ⟨g, 0, none⟩)), (5, .int .i64 (s.1 : Int))]) (fun _ => [m1, m13, h]) (fun s => [kr 98 2 s.2 ((r.streets.take s.1).map rv2), .blk g (C (.slice a1 r.home.length c1) s.2) 61, .blk b2 _ 61, .blk b1 (ecs wv pv hov sv r) 54]) (fun s => s.1 ≤ r.streets.length) (fun s => r.streets.length - s.1) (0, .slice none 0 0) ⟨rfl, rfl, rfl, rfl, trivial⟩ (by simp) (.refl _) (Nat.zero_le _) ?_
  rintro ⟨k, a⟩ hk
  dsimp only at hk ⊢
  have hlen : ((r.streets.take k).map rv2).length = k := by simp; omega
  refine W.seq (W.seq ?_)
  refine W.region ?_; refine .o rfl ?_; refine .val (.fieldAddrB rfl) rfl rfl rfl ?_; refine .val (.loadB rfl (.tail _ (.tail _ (.tail _ (.head _)))) rfl) rfl rfl rfl ?_; refine .val (.len rfl hS) rfl rfl rfl ?_; refine .o rfl ?_; refine WL.nil ?_; refine Kseq.go ?_
  refine W.condD rfl rfl (fun hlt => ?_) (fun hge => ?_)
  · have hkl : k < r.streets.length := by omega
    refine W.skip (Kseq.go (W.seq (W.block ?_)))
    refine W.draw 9 (by kernel_rfl) (by kernel_rfl) (by kernel_rfl) rfl ?_; refine .val [] (.fieldAddrB rfl) rfl rfl rfl rfl ?_; refine .val [] (.loadB rfl (.tail _ (.head _)) rfl) rfl rfl rfl rfl ?_; refine .val [] (.fieldAddrB rfl) rfl rfl rfl rfl ?_; refine .val [] (.loadB rfl (.tail _ (.tail _ (.tail _ (.head _)))) rfl) rfl rfl rfl rfl ?_; refine .val [] (.opv rfl) rfl rfl rfl rfl ?_; refine .val [] (.indexAddrN rfl rfl hS hkl) rfl rfl rfl rfl ?_; refine .val [] (.loadEA rfl hS (by repeat constructor) hkl) rfl rfl rfl rfl ?_; refine .val [] (.call rfl (fun m hm => to_any (r.streets.getD k default))) rfl rfl rfl rfl ?_; refine DJ.abs (A := fun m q => IsCells m 2 q 1 [vi (r.streets.getD k default).lo, vi (r.streets.getD k default).hi]) [] (OpAbs.mono (OpAbs.lit [vi (r.streets.getD k default).lo, vi (r.streets.getD k default).hi] rfl (Nat.le_of_ble_eq_true rfl) rfl rfl (by simp [Value.cells]) (Nat.le_of_ble_eq_true rfl) rfl (by simp [Value.oneCell'])) (fun m' v' h' => h'.1)) rfl rfl rfl rfl ?_
    refine DJ.nil ?_
    rintro m47 v47 h47
    (refine WL.appK (rv2 (r.streets.getD k default)) rfl (fun _ => .head _) rfl h47 (by repeat constructor) rfl rfl (by omega) (by omega) (Nat.le_of_ble_eq_true rfl) rfl rfl rfl ?_; intro a48 c48)
    refine .val (.fieldAddrB rfl) rfl rfl rfl ?_
    (refine WL.store [_, _, _, _, _, _, _] rfl (.tail _ (.head _)) rfl rfl rfl (Nat.le_of_ble_eq_true rfl) (by simp [Value.cells, Value.oneCell']) rfl ?_)
    refine WL.nil ?_
    refine Kblock.normal (Kseq.go ?_)
    refine W.region ?_; refine .o rfl ?_; refine .val (.incr rfl (by omega)) rfl rfl rfl ?_; refine .o rfl ?_; refine WL.nil ?_
    refine Kloop.next (k + 1, .slice a48 (((r.streets.take k).map rv2).length + 1) c48) (by dsimp only; omega) (by dsimp only; omega) ⟨rfl, rfl, rfl, rfl, trivial⟩ (by simp) ?_
    dsimp only
    rw [take_snoc hkl, List.map_append]
    exact .refl _
  refine W.exit (Kseq.exit (Kloop.exit (Kblock.here (Kseq.go (W.seq ?_)))))
  have hkk : k = r.streets.length := by omega
  subst hkk
  rw [List.take_length]
  refine W.freezeK (.head _) (fun b hb => (hF b hb).elim) (by simp) (by simp [rv2, Value.cells]) (by simp [rv2, Value.cells, Value.oneCell']) fun m2 hm2 => ?_
  have hm2' := rgs_of hm2
  clear hm2
  obtain ⟨a2, c2, rfl⟩ := IsArr.form hm2'
  refine W.join fun mj hj => ?_
  refine W.region ?_; refine .val (.loadBW rfl (.head _) rfl) rfl rfl rfl ?_
  (refine WL.store [_, _, _, _, _, _, _] rfl (.tail _ (.head _)) rfl rfl rfl (Nat.le_of_ble_eq_true rfl) (by simp [C, Value.cells, Value.oneCell']) rfl ?_)
  refine WL.nil ?_; refine Kseq.go ?_
  refine W.ret ?_; skip
  refine ⟨.inl rfl, [_], mj, ⟨.agg inferInstance inferInstance rfl (.tail _ (.head _)) rfl, trivial⟩, .head _, _, _, _, _, f', rfl, hW'.le (hj m13 (by simp)), hP'.le (hj m13 (by simp)), hM'.le (hj m13 (by simp)), hm1'.le (hj m1 (by simp)), hm2'.le (hj m2 (by simp))⟩
end Go.Proofs.Ytppkhehbkoeinaa
