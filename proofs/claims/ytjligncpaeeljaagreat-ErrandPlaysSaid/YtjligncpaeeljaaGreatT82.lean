/- The statement ErrandPlays: its contract. -/
import Derived.Test.YtjligncpaeeljaaGreatT77
namespace Go.Proofs.YtjligncpaeeljaaGreat
open Go Go.Eng Go.RowKit

/-- ref.IsTruth -/
theorem isTruth11_any {h : Mem} {v lv : Value} {r : Errand} {l : List Int} (hv : IsErrand h v r) (hl : IsInts h lv l) : FnV Tryz.prog 28 #[v, lv] h (.bool (isTruthE r l)) := by
  obtain ⟨wov, pv, hov, sv, f, rfl, hW, hP, hM, hH, hS⟩ := hv
  have hlb := hl.bd
  have hsb := hS.bd
  refine FnR.val ?_
  refine FnR.of_W (n := 36) Tryz.func28 rfl rfl (Nat.le_of_ble_eq_true rfl) fun c hr hD hF => ?_
  refine W.seq ?_
  refine W.region ?_
  refine WL.box rfl rfl rfl rfl (fun b2 => ?_)
  refine WL.val (OpVal.opv rfl) rfl rfl rfl ?_
  refine WL.nil ?_
  refine Kseq.go (W.seq (W.seq ?_))
  refine W.freezeBox (.head _) (fun b hb => (hF b hb).elim) fun m2 h2 => ?_
  skip
  refine W.region ?_
  refine WL.val (OpVal.opv rfl) rfl rfl rfl ?_
  refine WL.val (OpVal.len rfl (by assumption)) rfl rfl rfl ?_
  refine WL.val (OpVal.fieldAddrB rfl) rfl rfl rfl ?_
  refine WL.val (OpVal.loadP rfl (by assumption) (by repeat (first | exact .head _ | refine .tail _ ?_)) rfl) rfl rfl rfl ?_
  refine WL.val (OpVal.len rfl (by assumption)) rfl rfl rfl ?_
  refine WL.val (OpVal.opv rfl) rfl rfl rfl ?_
  refine WL.nil ?_
  refine Kseq.go ?_
  refine W.cond rfl rfl (fun he => ?_) (fun hne => ?_)
  · refine W.seq ?_
    refine W.region ?_
    refine WL.val (OpVal.opv rfl) rfl rfl rfl ?_
    refine WL.nil ?_
    refine Kseq.go ?_
    refine W.ret ?_; refine Kseq.ret ?_; refine ⟨.inl rfl, [_], h, ⟨.tmp rfl, trivial⟩, (by repeat (first | exact .head _ | refine .tail _ ?_)), ?_⟩
    exact congrArg Value.bool (by rw [isTruthE, decide_eq_false (by simp at he; omega)]; rfl)
  have hll : l.length = r.streets.length := by simp at hne; omega
  refine W.skip (Kseq.go (W.seq (W.seq ?_)))
  skip
  refine W.region ?_
  refine WL.val (OpVal.opv rfl) rfl rfl rfl ?_
  refine WL.nil ?_
  refine Kseq.go (W.block ?_)
  refine W.loopC (σ := Nat) (fun k => [(1, lv), (2, .pointer (some ⟨b2, 0, none⟩)), (5, .int .i64 (k : Int))]) (fun k => k ≤ r.streets.length ∧ ∀ j, j < k → (!decide ((r.streets.getD j default).lo ≤ l.getD j 0 ∧ l.getD j 0 ≤ (r.streets.getD j default).hi)) = false) (fun k => r.streets.length - k) 0 ⟨rfl, rfl, rfl, trivial⟩ ⟨Nat.zero_le _, fun j hj => absurd hj (Nat.not_lt_zero _)⟩ ?_
  rintro k ⟨hk, hall⟩
  refine W.seq (W.seq ?_)
  refine W.region ?_
  refine WL.val (OpVal.opv rfl) rfl rfl rfl ?_
  refine WL.val (OpVal.opv rfl) rfl rfl rfl ?_
  refine WL.val (OpVal.len rfl (by assumption)) rfl rfl rfl ?_
  refine WL.val (OpVal.opv rfl) rfl rfl rfl ?_
  refine WL.nil ?_
  refine Kseq.go ?_
  refine W.condD rfl rfl (fun hlt => ?_) (fun hge => ?_)
  · refine W.skip (Kseq.go (W.seq (W.block (W.seq ?_))))
    refine W.draw 16 (by kernel_rfl) (by kernel_rfl) (by kernel_rfl) rfl ?_
    refine DJ.val [] (OpVal.opv rfl) rfl rfl rfl rfl ?_
    refine DJ.val [] (OpVal.opv rfl) rfl rfl rfl rfl ?_
    refine DJ.val [] (OpVal.indexAddrN rfl rfl hl (by omega)) rfl rfl rfl rfl ?_
    refine DJ.val [] (OpVal.loadE rfl hl (by repeat (first | exact .head _ | refine .tail _ ?_)) (by omega) (by omega)) rfl rfl rfl rfl ?_
    refine DJ.val [] (OpVal.fieldAddrB rfl) rfl rfl rfl rfl ?_
    refine DJ.val [] (OpVal.loadP rfl (by assumption) (by repeat (first | exact .head _ | refine .tail _ ?_)) rfl) rfl rfl rfl rfl ?_
    refine DJ.val [] (OpVal.opv rfl) rfl rfl rfl rfl ?_
    refine DJ.val [] (OpVal.indexAddrN rfl rfl hS (by omega)) rfl rfl rfl rfl ?_
    refine DJ.val [] (OpVal.fieldAddrN rfl hS (by omega)) rfl rfl rfl rfl ?_
    refine DJ.val [] (OpVal.loadE rfl hS (by repeat (first | exact .head _ | refine .tail _ ?_)) (by omega) (by omega)) rfl rfl rfl rfl ?_
    refine DJ.val [] (OpVal.fieldAddrB rfl) rfl rfl rfl rfl ?_
    refine DJ.val [] (OpVal.loadP rfl (by assumption) (by repeat (first | exact .head _ | refine .tail _ ?_)) rfl) rfl rfl rfl rfl ?_
    refine DJ.val [] (OpVal.opv rfl) rfl rfl rfl rfl ?_
    refine DJ.val [] (OpVal.indexAddrN rfl rfl hS (by omega)) rfl rfl rfl rfl ?_
    refine DJ.val [] (OpVal.fieldAddrN rfl hS (by omega)) rfl rfl rfl rfl ?_
    refine DJ.val [] (OpVal.loadE rfl hS (by repeat (first | exact .head _ | refine .tail _ ?_)) (by omega) (by omega)) rfl rfl rfl rfl ?_
    refine DJ.nil ?_
    refine WL.val (OpVal.call rfl (fun m hm => in_any _ _ _)) rfl rfl rfl ?_
    refine WL.val (OpVal.opv rfl) rfl rfl rfl ?_
    refine WL.nil ?_
    refine Kseq.go ?_
    refine W.cond rfl rfl (fun he => ?_) (fun hne2 => ?_)
    · refine W.seq ?_
      refine W.region ?_
      refine WL.val (OpVal.opv rfl) rfl rfl rfl ?_
      refine WL.nil ?_
      refine Kseq.go ?_
      refine W.ret ?_; refine Kblock.ret (Kseq.ret (Kloop.ret (Kblock.ret (Kseq.ret ?_)))); refine ⟨.inl rfl, [_], h, ⟨.tmp rfl, trivial⟩, (by repeat (first | exact .head _ | refine .tail _ ?_)), ?_⟩
      exact congrArg Value.bool (by have h3 := (ex_iff (p := fun i => !decide ((r.streets.getD i default).lo ≤ l.getD i 0 ∧ l.getD i 0 ≤ (r.streets.getD i default).hi))).2 ⟨k, (by omega : k < r.streets.length), he⟩; simp only [isTruthE, h3, Bool.not_true, Bool.and_false])
    · refine W.skip (Kblock.normal (Kseq.go ?_))
      refine W.region ?_
      refine WL.val (OpVal.opv rfl) rfl rfl rfl ?_
      refine WL.val (OpVal.incr rfl (by omega)) rfl rfl rfl ?_
      refine WL.val (OpVal.opv rfl) rfl rfl rfl ?_
      refine WL.nil ?_
      skip
      refine Kloop.nextC (k + 1) ⟨by omega, fun j hj => ?_⟩ (by omega) ⟨rfl, rfl, rfl, trivial⟩ (by simp) (by repeat (first | exact List.Sublist.refl _ | refine List.Sublist.cons _ ?_ | refine List.Sublist.cons_cons _ ?_))
      rcases Nat.lt_succ_iff_lt_or_eq.1 hj with h3 | rfl
      · exact hall j h3
      · exact hne2
  · have h3 : ex r.streets.length (fun i => !decide ((r.streets.getD i default).lo ≤ l.getD i 0 ∧ l.getD i 0 ≤ (r.streets.getD i default).hi)) = false := ex_no.2 fun j hj => hall j (by omega)
    refine W.exit (Kseq.exit (Kloop.exit (Kblock.here (Kseq.go (W.seq ?_)))))
    skip
    refine W.region ?_
    refine WL.val (OpVal.opv rfl) rfl rfl rfl ?_
    refine WL.nil ?_
    refine Kseq.go ?_
    refine W.ret ?_; skip; refine ⟨.inl rfl, [_], h, ⟨.tmp rfl, trivial⟩, (by repeat (first | exact .head _ | refine .tail _ ?_)), ?_⟩
    exact congrArg Value.bool (by rw [isTruthE, h3, decide_eq_true hll]; rfl)
theorem playE_of {r : Errand} {tr l : List Int} : playE11 r tr l = if walkedE r l = 0 ∧ isTruthE r tr = false then 2 else walkedE r l := by
  unfold playE11 walkedE
  by_cases h0 : faultT r = 0
  · simp only [h0, ne_eq, not_true_eq_false, if_false]
    cases isTruthE r tr <;> cases isWalk r.n l <;> simp
  · simp only [ne_eq, h0, not_false_eq_true, if_true, false_and, if_false]
/-- ErrandPlays -/
theorem errandPlays_any {h : Mem} {v tv lv : Value} {r : Errand} {tr l : List Int} (hv : IsErrand h v r) (ht : IsInts h tv tr) (hl : IsInts h lv l) : FnV Tryz.prog 3 #[v, tv, lv] h (.bool true) := by
  have hv' := hv
  obtain ⟨wv, pv, hov, sv, f, rfl, hW, hP, hM, hH, hS⟩ := hv
  have hlb := hl.bd
  have htb := ht.bd
  refine FnR.val ?_
  refine FnR.of_W (n := 77) Tryz.func3 rfl rfl (Nat.le_of_ble_eq_true rfl) fun c hr hD hF => ?_
  refine W.seq ?_
  refine W.region ?_
  refine WL.box rfl rfl rfl rfl (fun b3 => ?_)
  refine WL.val (OpVal.opv rfl) rfl rfl rfl ?_
  refine WL.nil ?_
  refine Kseq.go (W.seq (W.seq ?_))
  refine W.freezeBox (.head _) (fun b hb => (hF b hb).elim) fun m1 h1 => ?_
  skip
  refine W.toS [(1, tv), (2, lv), (3, .pointer (some ⟨b3, 0, none⟩)), (22, .bool (!ThinE r || decide ((tr.length : Int) > 16) || decide ((l.length : Int) > 16)))] ?_ ?_
  · skip
    refine W.region ?_
    refine WL.val (OpVal.loadPW rfl (by assumption) (by repeat (first | exact .head _ | refine .tail _ ?_)) (by rfl)) rfl rfl rfl ?_
    refine WL.val (OpVal.call rfl (fun m hm => thin11_any (hv'.le (by repeat (first | exact hm.1 | replace hm := hm.2))))) rfl rfl rfl ?_
    refine WL.val (OpVal.opv rfl) rfl rfl rfl ?_
    refine WL.val (OpVal.opv rfl) rfl rfl rfl ?_
    refine WL.splitB rfl rfl (fun g13 => ?_) (fun g13 => ?_)
    · refine WL.pass rfl rfl rfl ?_
      refine WL.pass rfl rfl rfl ?_
      refine WL.pass rfl rfl rfl ?_
      refine WL.val (OpVal.opv rfl) rfl rfl rfl ?_
      refine WL.val (OpVal.opv rfl) rfl rfl rfl ?_
      refine WL.pass rfl rfl rfl ?_
      refine WL.pass rfl rfl rfl ?_
      refine WL.pass rfl rfl rfl ?_
      refine WL.val (OpVal.opv rfl) rfl rfl rfl ?_
      refine WL.nil ?_
      skip
      exact Keff.intro ⟨rfl, rfl, rfl, congrArg (fun b => some (Value.bool b)) (by first | (simp_all; done) | (simp_all; intros; omega)), trivial⟩ (by simp) (by repeat (first | exact List.Sublist.refl _ | refine List.Sublist.cons _ ?_ | refine List.Sublist.cons_cons _ ?_))
    · refine WL.val (OpVal.opv rfl) rfl rfl rfl ?_
      refine WL.val (OpVal.len rfl (by assumption)) rfl rfl rfl ?_
      refine WL.val (OpVal.opv rfl) rfl rfl rfl ?_
      refine WL.val (OpVal.opv rfl) rfl rfl rfl ?_
      refine WL.val (OpVal.opv rfl) rfl rfl rfl ?_
      refine WL.split rfl rfl (fun g18 => ?_) (fun g18 => ?_)
      · refine WL.pass rfl rfl rfl ?_
        refine WL.pass rfl rfl rfl ?_
        refine WL.pass rfl rfl rfl ?_
        refine WL.val (OpVal.opv rfl) rfl rfl rfl ?_
        refine WL.nil ?_
        skip
        exact Keff.intro ⟨rfl, rfl, rfl, congrArg (fun b => some (Value.bool b)) (by first | (simp_all; done) | (simp_all; intros; omega)), trivial⟩ (by simp) (by repeat (first | exact List.Sublist.refl _ | refine List.Sublist.cons _ ?_ | refine List.Sublist.cons_cons _ ?_))
      · refine WL.val (OpVal.opv rfl) rfl rfl rfl ?_
        refine WL.val (OpVal.len rfl (by assumption)) rfl rfl rfl ?_
        refine WL.val (OpVal.opv rfl) rfl rfl rfl ?_
        refine WL.val (OpVal.opv rfl) rfl rfl rfl ?_
        refine WL.nil ?_
        skip
        exact Keff.intro ⟨rfl, rfl, rfl, congrArg (fun b => some (Value.bool b)) (by first | (simp_all; done) | (simp_all; intros; omega)), trivial⟩ (by simp) (by repeat (first | exact List.Sublist.refl _ | refine List.Sublist.cons _ ?_ | refine List.Sublist.cons_cons _ ?_))
  refine Kseq.go ?_
  refine W.cond rfl rfl (fun he => ?_) (fun hne => ?_)
  · refine W.seq ?_
    refine W.region ?_
    refine WL.val (OpVal.call rfl (fun m hm => awake11_any)) rfl rfl rfl ?_
    refine WL.val (OpVal.opv rfl) rfl rfl rfl ?_
    refine WL.nil ?_
    refine Kseq.go ?_
    refine W.ret ?_; refine Kseq.ret ?_; refine ⟨.inl rfl, [_], h, ⟨.tmp rfl, trivial⟩, (by repeat (first | exact .head _ | refine .tail _ ?_)), ?_⟩
    rfl
  simp only [Bool.or_eq_false_iff, Bool.not_eq_false', decide_eq_false_iff_not] at hne
  obtain ⟨⟨hth, h16⟩, h16'⟩ := hne
  have hs : SmE r := ThinE.sm hth
  refine W.skip (Kseq.go (W.seq ?_))
  skip
  refine W.region ?_
  refine WL.val (OpVal.loadPW rfl (by assumption) (by repeat (first | exact .head _ | refine .tail _ ?_)) (by rfl)) rfl rfl rfl ?_
  refine WL.abs (OpAbs.call rfl (fun m hm => errand_any (hv'.le (by repeat (first | exact hm.1 | replace hm := hm.2))) hs)) rfl rfl rfl ?_
  rintro m26 v26 h26
  refine WL.val (OpVal.opv rfl) rfl rfl rfl ?_
  refine WL.abs (OpAbs.call rfl (fun m hm => list11_any (ht.le (by repeat (first | exact hm.1 | replace hm := hm.2))) (by omega))) rfl rfl rfl ?_
  rintro m28 v28 h28
  refine WL.val (OpVal.opv rfl) rfl rfl rfl ?_
  refine WL.abs (OpAbs.call rfl (fun m hm => list11_any (hl.le (by repeat (first | exact hm.1 | replace hm := hm.2))) (by omega))) rfl rfl rfl ?_
  rintro m30 v30 h30
  refine WL.abs (OpAbs.call rfl (fun m hm => playT11_any (h26.le (by repeat (first | exact hm.1 | replace hm := hm.2))) hs (h28.le (by repeat (first | exact hm.1 | replace hm := hm.2))) (h30.le (by repeat (first | exact hm.1 | replace hm := hm.2))))) rfl rfl rfl ?_
  rintro m31 _ ⟨cv, rfl, hcv⟩
  refine WL.val (OpVal.opv rfl) rfl rfl rfl ?_
  refine WL.val (OpVal.opv rfl) rfl rfl rfl ?_
  refine WL.val (OpVal.opv rfl) rfl rfl rfl ?_
  refine WL.val (OpVal.opv rfl) rfl rfl rfl ?_
  refine WL.val (OpVal.opv rfl) rfl rfl rfl ?_
  refine WL.nil ?_
  refine Kseq.go (W.seq ?_)
  skip
  refine W.region ?_
  refine WL.val (OpVal.loadPW rfl (by assumption) (by repeat (first | exact .head _ | refine .tail _ ?_)) (by rfl)) rfl rfl rfl ?_
  refine WL.val (OpVal.opv rfl) rfl rfl rfl ?_
  refine WL.val (OpVal.call rfl (fun m hm => walked_any (hv'.le (by repeat (first | exact hm.1 | replace hm := hm.2))) hs (hl.le (by repeat (first | exact hm.1 | replace hm := hm.2))))) rfl rfl rfl ?_
  refine WL.val (OpVal.opv rfl) rfl rfl rfl ?_
  refine WL.nil ?_
  refine Kseq.go (W.seq (W.seq ?_))
  skip
  refine W.draw 4 (by kernel_rfl) (by kernel_rfl) (by kernel_rfl) rfl ?_
  refine DJ.val [] (OpVal.loadPW rfl (by assumption) (by repeat (first | exact .head _ | refine .tail _ ?_)) (by rfl)) rfl rfl rfl rfl ?_
  refine DJ.abs (A := fun m q => IsErrand m q r) [] (OpAbs.call rfl (fun m hm => errand_any (hv'.le (by repeat (first | exact hm.1 | replace hm := hm.2))) hs)) rfl rfl rfl rfl ?_
  refine DJ.val [(38, fun m q => IsErrand m q r)] (fun m38 v38 h38 => OpVal.call rfl (fun m hm => checkE_any (h38.le (by repeat (first | exact hm.1 | replace hm := hm.2))) hs)) rfl rfl rfl rfl ?_ (hG := ⟨(by repeat (first | exact .head _ | refine .tail _ ?_)), rfl, trivial⟩)
  refine DJ.val [] (OpVal.loadPW rfl (by assumption) (by repeat (first | exact .head _ | refine .tail _ ?_)) (by rfl)) rfl rfl rfl rfl ?_
  refine DJ.nil ?_
  rintro m38 v38 h38
  refine WL.val (OpVal.call rfl (fun m hm => fault11_any (hv'.le (by repeat (first | exact hm.1 | replace hm := hm.2))) hs)) rfl rfl rfl ?_
  refine WL.val (OpVal.cast (OpVal.opv rfl) (congrArg Value.bool (show (!decide (faultT r = faultT r)) = false from by simp))) rfl rfl rfl ?_
  refine WL.nil ?_
  refine Kseq.go ?_
  refine W.cond rfl rfl (fun he => absurd he (by simp)) (fun _ => ?_)
  refine W.skip (Kseq.go (W.seq (W.seq ?_)))
  refine W.toS [(1, tv), (2, lv), (3, .pointer (some ⟨b3, 0, none⟩)), (7, cv), (8, vi (playE11 r tr l)), (9, vi (walkedE r l)), (50, .bool (decide (walkedE r l = 0) && !isTruthE r tr))] ?_ ?_
  · skip
    refine W.region ?_
    refine WL.val (OpVal.opv rfl) rfl rfl rfl ?_
    refine WL.val (OpVal.opv rfl) rfl rfl rfl ?_
    refine WL.val (OpVal.opv rfl) rfl rfl rfl ?_
    refine WL.split rfl rfl (fun g45 => ?_) (fun g45 => ?_)
    · refine WL.val (OpVal.loadPW rfl (by assumption) (by repeat (first | exact .head _ | refine .tail _ ?_)) (by rfl)) rfl rfl rfl ?_
      refine WL.val (OpVal.opv rfl) rfl rfl rfl ?_
      refine WL.val (OpVal.call rfl (fun m hm => isTruth11_any (hv'.le (by repeat (first | exact hm.1 | replace hm := hm.2))) (ht.le (by repeat (first | exact hm.1 | replace hm := hm.2))))) rfl rfl rfl ?_
      refine WL.val (OpVal.opv rfl) rfl rfl rfl ?_
      refine WL.val (OpVal.opv rfl) rfl rfl rfl ?_
      refine WL.nil ?_
      skip
      exact Keff.intro ⟨rfl, rfl, rfl, rfl, rfl, rfl, congrArg (fun b => some (Value.bool b)) (by first | (simp_all; done) | (simp_all; intros; omega)), trivial⟩ (by simp) (by repeat (first | exact List.Sublist.refl _ | refine List.Sublist.cons _ ?_ | refine List.Sublist.cons_cons _ ?_))
    · refine WL.pass rfl rfl rfl ?_
      refine WL.pass rfl rfl rfl ?_
      refine WL.pass rfl rfl rfl ?_
      refine WL.pass rfl rfl rfl ?_
      refine WL.val (OpVal.opv rfl) rfl rfl rfl ?_
      refine WL.nil ?_
      skip
      exact Keff.intro ⟨rfl, rfl, rfl, rfl, rfl, rfl, congrArg (fun b => some (Value.bool b)) (by first | (simp_all; done) | (simp_all; intros; omega)), trivial⟩ (by simp) (by repeat (first | exact List.Sublist.refl _ | refine List.Sublist.cons _ ?_ | refine List.Sublist.cons_cons _ ?_))
  refine Kseq.go ?_
  refine W.cond rfl rfl (fun he => ?_) (fun hne => ?_)
  · simp only [Bool.and_eq_true, decide_eq_true_eq, Bool.not_eq_true'] at he
    have hp : playE11 r tr l = 2 := by rw [playE_of, if_pos he]
    rw [hp, if_neg (by simp)] at hcv
    rw [hp]
    skip
    refine W.region ?_
    refine WL.val (OpVal.opv rfl) rfl rfl rfl ?_
    refine WL.nil ?_
    refine Kseq.go (W.seq (W.seq ?_))
    skip
    refine W.region ?_
    refine WL.val (OpVal.opv rfl) rfl rfl rfl ?_
    refine WL.val (OpVal.opv rfl) rfl rfl rfl ?_
    refine WL.nil ?_
    refine Kseq.go ?_
    refine W.cond rfl rfl (fun _ => ?_) (fun he => absurd he (by simp))
    refine W.seq ?_
    refine W.region ?_
    refine WL.val (OpVal.opv rfl) rfl rfl rfl ?_
    refine WL.val (OpVal.opv rfl) rfl rfl rfl ?_
    refine WL.val (OpVal.opv rfl) rfl rfl rfl ?_
    refine WL.val (OpVal.opv rfl) rfl rfl rfl ?_
    refine WL.val (OpVal.opv rfl) rfl rfl rfl ?_
    refine WL.val (OpVal.len rfl hcv) rfl rfl rfl ?_
    refine WL.val (OpVal.opv rfl) rfl rfl rfl ?_
    refine WL.val (OpVal.opv rfl) rfl rfl rfl ?_
    refine WL.val (OpVal.opv rfl) rfl rfl rfl ?_
    refine WL.val (OpVal.call rfl (fun m hm => awake11_any)) rfl rfl rfl ?_
    refine WL.val (OpVal.opv rfl) rfl rfl rfl ?_
    refine WL.val (OpVal.opv rfl) rfl rfl rfl ?_
    refine WL.nil ?_
    refine Kseq.go ?_
    refine W.ret ?_; refine Kseq.ret ?_; refine ⟨.inl rfl, [_], h, ⟨.tmp rfl, trivial⟩, (by repeat (first | exact .head _ | refine .tail _ ?_)), ?_⟩
    rfl
  have hp : playE11 r tr l = walkedE r l := by
    rw [playE_of, if_neg]
    rintro ⟨h0, ht0⟩
    rw [h0, ht0] at hne
    simp at hne
  rw [hp] at hcv ⊢
  refine W.skip (Kseq.go (W.seq (W.seq ?_)))
  skip
  refine W.region ?_
  refine WL.val (OpVal.opv rfl) rfl rfl rfl ?_
  refine WL.val (OpVal.opv rfl) rfl rfl rfl ?_
  refine WL.nil ?_
  refine Kseq.go ?_
  refine W.cond rfl rfl (fun he => ?_) (fun hne2 => ?_)
  · have he : walkedE r l ≠ 0 := by simpa using he
    rw [if_neg he] at hcv
    refine W.seq ?_
    refine W.region ?_
    refine WL.val (OpVal.opv rfl) rfl rfl rfl ?_
    refine WL.val (OpVal.opv rfl) rfl rfl rfl ?_
    refine WL.val (OpVal.cast (OpVal.opv rfl) (congrArg Value.bool (decide_eq_true rfl))) rfl rfl rfl ?_
    refine WL.val (OpVal.opv rfl) rfl rfl rfl ?_
    refine WL.val (OpVal.opv rfl) rfl rfl rfl ?_
    refine WL.val (OpVal.len rfl hcv) rfl rfl rfl ?_
    refine WL.val (OpVal.opv rfl) rfl rfl rfl ?_
    refine WL.val (OpVal.opv rfl) rfl rfl rfl ?_
    refine WL.val (OpVal.opv rfl) rfl rfl rfl ?_
    refine WL.val (OpVal.call rfl (fun m hm => awake11_any)) rfl rfl rfl ?_
    refine WL.val (OpVal.opv rfl) rfl rfl rfl ?_
    refine WL.val (OpVal.opv rfl) rfl rfl rfl ?_
    refine WL.nil ?_
    refine Kseq.go ?_
    refine W.ret ?_; refine Kseq.ret ?_; refine ⟨.inl rfl, [_], h, ⟨.tmp rfl, trivial⟩, (by repeat (first | exact .head _ | refine .tail _ ?_)), ?_⟩
    rfl
  have h0 : walkedE r l = 0 := by simpa using hne2
  obtain ⟨hV, hw⟩ := walkedE_valid h0
  have hT : TruthE r tr := by
    rw [← isTruthE_iff]
    rw [h0] at hne
    simpa using hne
  rw [if_pos h0] at hcv
  rw [h0]
  refine W.skip (Kseq.go (W.seq ?_))
  skip
  refine W.region ?_
  refine WL.val (OpVal.opv rfl) rfl rfl rfl ?_
  refine WL.val (OpVal.opv rfl) rfl rfl rfl ?_
  refine WL.val (OpVal.opv rfl) rfl rfl rfl ?_
  refine WL.val (OpVal.opv rfl) rfl rfl rfl ?_
  refine WL.val (OpVal.loadPW rfl (by assumption) (by repeat (first | exact .head _ | refine .tail _ ?_)) (by rfl)) rfl rfl rfl ?_
  refine WL.val (OpVal.opv rfl) rfl rfl rfl ?_
  refine WL.val (OpVal.opv rfl) rfl rfl rfl ?_
  refine WL.abs (OpAbs.call rfl (fun m hm => minutesR_any (hv'.le (by repeat (first | exact hm.1 | replace hm := hm.2))) hV hT hw (ht.le (by repeat (first | exact hm.1 | replace hm := hm.2))) (hl.le (by repeat (first | exact hm.1 | replace hm := hm.2))))) rfl rfl rfl ?_
  rintro m71 v71 h71
  refine WL.val (OpVal.call rfl (fun m hm => ints11_same (hcv.le (by repeat (first | exact hm.1 | replace hm := hm.2))) (h71.le (by repeat (first | exact hm.1 | replace hm := hm.2))))) rfl rfl rfl ?_
  refine WL.val (OpVal.opv rfl) rfl rfl rfl ?_
  refine WL.val (OpVal.opv rfl) rfl rfl rfl ?_
  refine WL.val (OpVal.call rfl (fun m hm => awake11_any)) rfl rfl rfl ?_
  refine WL.val (OpVal.opv rfl) rfl rfl rfl ?_
  refine WL.val (OpVal.opv rfl) rfl rfl rfl ?_
  refine WL.nil ?_
  refine Kseq.go ?_
  refine W.ret ?_; skip; refine ⟨.inl rfl, [_], h, ⟨.tmp rfl, trivial⟩, (by repeat (first | exact .head _ | refine .tail _ ?_)), ?_⟩
  rfl
end Go.Proofs.YtjligncpaeeljaaGreat
