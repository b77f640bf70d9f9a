/- The statement SickOne: its contract. -/
import Derived.Test.YtdnbkjgbehakpaaGreatP39
import Derived.Test.YtdnbkjgbehakpaaGreatT134
namespace Go.Proofs.YtdnbkjgbehakpaaGreat
open Go Go.Eng Go.RowKit

/-- SickOne -/
theorem sickOne_any {h : Mem} {v : Value} {r : House} {n n2 : Nat} (hv : IsHouse h v r) (hn : n < 256) (hn2 : n2 < 256) : FnV Tryz.prog 18 #[v, .int .u8 n, .int .u8 n2] h (.bool true) := by
  have hv' := hv
  obtain ⟨wv, pv, kv, tv, bv, sv, f, rfl, hA⟩ := hv
  refine FnR.val ?_
  refine FnR.of_W (n := 132) Tryz.func18 rfl rfl (Nat.le_of_ble_eq_true rfl) fun c hr hD hF => ?_
  refine W.seq ?_; refine W.region ?_
  refine WL.box rfl rfl rfl rfl (fun b3 => ?_)
  refine .o rfl rfl rfl rfl ?_; refine WL.nil ?_
  refine Kseq.go (W.seq (W.seq ?_))
  refine W.freezeBox (.head _) (fun b hb => (hF b hb).elim) fun m3 h3 => ?_
  cases hR : ready6 r with
  | false =>
    refine W.region ?_; refine .val (.loadPW rfl h3 (by repeat constructor) rfl) rfl rfl rfl ?_; refine .val (.cast (.call rfl (fun m hm => ready6_any (hv'.le (by repeat (first | exact hm.1 | replace hm := hm.2))))) (congrArg Value.bool hR)) rfl rfl rfl ?_
    iterate 2 refine .o rfl rfl rfl rfl ?_
    refine WL.pass rfl rfl rfl ?_; refine WL.pass rfl rfl rfl ?_; refine WL.pass rfl rfl rfl ?_; refine .o rfl rfl rfl rfl ?_; refine WL.nil ?_; refine Kseq.go ?_; refine W.condT rfl rfl ?_; refine W.seq ?_; refine W.region ?_; refine .val (.call rfl (fun m hm => awake6_any)) rfl rfl rfl ?_; refine .o rfl rfl rfl rfl ?_; refine WL.nil ?_; refine Kseq.go ?_
    refine W.ret ?_; refine Kseq.ret ?_; refine ⟨.inl rfl, [_], h, ⟨.tmp rfl, trivial⟩, (by repeat constructor), ?_⟩
    rfl
  | true =>
  obtain ⟨hV, hs, hf0, _⟩ := ready6_iff hR
  have hth := hV.thW
  by_cases ht0 : r.th = 0
  · skip
    refine W.region ?_; refine .val (.loadPW rfl h3 (by repeat constructor) rfl) rfl rfl rfl ?_; refine .val (.cast (.call rfl (fun m hm => ready6_any (hv'.le (by repeat (first | exact hm.1 | replace hm := hm.2))))) (congrArg Value.bool hR)) rfl rfl rfl ?_
    iterate 2 refine .o rfl rfl rfl rfl ?_
    refine .val (.loadPW rfl h3 (by repeat constructor) rfl) rfl rfl rfl ?_; refine .val (.cast (.call rfl (fun m hm => thingsR_any (hv'.le (by repeat (first | exact hm.1 | replace hm := hm.2))))) (congrArg (Value.int .i64) hth)) rfl rfl rfl ?_; refine .val (.cast (.opv rfl) (congrArg Value.bool (decide_eq_true (by omega)))) rfl rfl rfl ?_; refine .o rfl rfl rfl rfl ?_; refine WL.nil ?_; refine Kseq.go ?_; refine W.condT rfl rfl ?_; refine W.seq ?_; refine W.region ?_; refine .val (.call rfl (fun m hm => awake6_any)) rfl rfl rfl ?_; refine .o rfl rfl rfl rfl ?_; refine WL.nil ?_; refine Kseq.go ?_
    refine W.ret ?_; refine Kseq.ret ?_; refine ⟨.inl rfl, [_], h, ⟨.tmp rfl, trivial⟩, (by repeat constructor), ?_⟩
    rfl
  have hla := hV.last
  obtain ⟨L, hL⟩ : ∃ L : Nat, r.last = (L : Int) := ⟨r.last.toNat, by omega⟩
  have hk : n % (L + 1) < L + 1 := Nat.mod_lt _ (by omega)
  have htt : n2 % r.th < r.th := Nat.mod_lt _ (by omega)
  have h10 := hV.th.2.2
  refine W.region ?_; refine .val (.loadPW rfl h3 (by repeat constructor) rfl) rfl rfl rfl ?_; refine .val (.cast (.call rfl (fun m hm => ready6_any (hv'.le (by repeat (first | exact hm.1 | replace hm := hm.2))))) (congrArg Value.bool hR)) rfl rfl rfl ?_
  iterate 2 refine .o rfl rfl rfl rfl ?_
  refine .val (.loadPW rfl h3 (by repeat constructor) rfl) rfl rfl rfl ?_; refine .val (.cast (.call rfl (fun m hm => thingsR_any (hv'.le (by repeat (first | exact hm.1 | replace hm := hm.2))))) (congrArg (Value.int .i64) hth)) rfl rfl rfl ?_; refine .val (.cast (.opv rfl) (congrArg Value.bool (decide_eq_false (by omega)))) rfl rfl rfl ?_; refine .o rfl rfl rfl rfl ?_; refine WL.nil ?_; refine Kseq.go ?_; refine W.condF rfl rfl ?_
  refine W.skip (Kseq.go (W.seq ?_))
  refine W.draw 13 (by kernel_rfl) (by kernel_rfl) (by kernel_rfl) rfl ?_; refine .val [] (.opv rfl) rfl rfl rfl rfl ?_; refine .val [] (.conv rfl (i64_in (by omega) (by omega))) rfl rfl rfl rfl ?_; refine .val [] (.fieldAddrB rfl) rfl rfl rfl rfl ?_; refine .val [] (.cast (.loadP rfl h3 (by repeat constructor) rfl) (congrArg (Value.int .i64) hL)) rfl rfl rfl rfl ?_; refine .val [] (.cast (.add rfl rfl (by omega) (by omega)) (show _ = vi ((L + 1 : Nat) : Int) from rfl)) rfl rfl rfl rfl ?_; refine .val [] (.cast (.rem rfl rfl (by omega) (by omega)) (show vi ((n : Int) % ((L + 1 : Nat) : Int)) = vi ((n % (L + 1) : Nat) : Int) from rfl)) rfl rfl rfl rfl ?_; refine .val [] (.opv rfl) rfl rfl rfl rfl ?_; refine .val [] (.conv rfl (i64_in (by omega) (by omega))) rfl rfl rfl rfl ?_; refine .val [] (.loadPW rfl h3 (by repeat constructor) rfl) rfl rfl rfl rfl ?_; refine .val [] (.cast (.call rfl (fun m hm => thingsR_any (hv'.le (by repeat (first | exact hm.1 | replace hm := hm.2))))) (congrArg (Value.int .i64) hth)) rfl rfl rfl rfl ?_
  refine .val [] (.cast (.rem rfl rfl (by omega) (by omega)) (show vi ((n2 : Int) % (r.th : Int)) = vi ((n2 % r.th : Nat) : Int) from rfl)) rfl rfl rfl rfl ?_; refine DJ.abs (A := fun m v => IsInts m v [((n2 % r.th : Nat) : Int)]) [] (OpAbs.mono (OpAbs.litI rfl) (fun m v hc => ints_lit (xs := [_]) hc)) rfl rfl rfl rfl ?_; refine .val [] (.opv rfl) rfl rfl rfl rfl ?_; refine DJ.nil ?_
  rintro m35 v35 h35
  refine .o rfl rfl rfl rfl ?_; refine WL.nil ?_
  refine Kseq.go (W.seq ?_)
  generalize n % (L + 1) = k at *
  generalize n2 % r.th = t at *
  have hkl : (k : Int) ≤ r.last := by omega
  have hih : isHour r (k : Int) = true := isHour_iff.2 ⟨Int.natCast_nonneg _, hkl⟩
  have hO := ordE_eq hV hkl
  have hE := ask6E_with hV
  obtain ⟨x, hx1, hx2⟩ := boil6_least hV (hour := k) hkl
  have hxl : x.length ≤ r.th := inc_zero_len hx2.inc
  refine W.region ?_; refine .val (.loadPW rfl h3 (by repeat constructor) rfl) rfl rfl rfl ?_; refine WL.abs (OpAbs.call rfl (fun m hm => houseL_any (hv'.le (by repeat (first | exact hm.1 | replace hm := hm.2))) hs)) rfl rfl rfl ?_
  rintro m38 v38 h38
  refine .o rfl rfl rfl rfl ?_; refine WL.abs (OpAbs.call rfl (fun m hm => boil6_any (k : Int) (h38.le (by repeat (first | exact hm.1 | replace hm := hm.2))) hs)) rfl rfl rfl ?_
  rintro m40 _ ⟨xv, rfl, hxa, hxb⟩
  rw [hih] at hxa hxb
  rw [hih]
  iterate 5 refine .o rfl rfl rfl rfl ?_
  refine WL.nil ?_
  refine Kseq.go (W.seq ?_)
  refine W.region ?_; refine .val (.loadPW rfl h3 (by repeat constructor) rfl) rfl rfl rfl ?_; refine WL.abs (OpAbs.call rfl (fun m hm => houseL_any (hv'.le (by repeat (first | exact hm.1 | replace hm := hm.2))) hs)) rfl rfl rfl ?_
  rintro m45 v45 h45
  refine .o rfl rfl rfl rfl ?_; refine WL.abs (OpAbs.call rfl (fun m hm => order6_any (k : Int) (h45.le (by repeat (first | exact hm.1 | replace hm := hm.2))) hs)) rfl rfl rfl ?_
  rintro m47 _ ⟨yv, rfl, hya, hyb⟩
  iterate 5 refine .o rfl rfl rfl rfl ?_
  refine WL.nil ?_
  refine Kseq.go (W.seq ?_)
  refine W.region ?_; refine .val (.loadPW rfl h3 (by repeat constructor) rfl) rfl rfl rfl ?_; refine WL.abs (OpAbs.call rfl (fun m hm => houseL_any (hv'.le (by repeat (first | exact hm.1 | replace hm := hm.2))) hs)) rfl rfl rfl ?_
  rintro m52 v52 h52
  refine WL.abs (OpAbs.call rfl (fun m hm => whose6_any (h52.le (by repeat (first | exact hm.1 | replace hm := hm.2))) hs)) rfl rfl rfl ?_
  rintro m53 _ ⟨wv2, rfl, hw2⟩
  iterate 5 refine .o rfl rfl rfl rfl ?_
  refine WL.nil ?_
  refine Kseq.go (W.seq (W.seq ?_))
  obtain ⟨P1, hP1⟩ : ∃ P1, proveBoilB r k [(t : Int)] 1 = P1 := ⟨_, rfl⟩
  have hP2 : proveOrdB r k [(t : Int)] 1 = P1 := (one_same hV hkl htt).symm.trans hP1
  refine W.draw 11 (by kernel_rfl) (by kernel_rfl) (by kernel_rfl) rfl ?_; refine .val [] (.loadPW rfl h3 (by repeat constructor) rfl) rfl rfl rfl rfl ?_; refine DJ.abs (A := fun m q => IsHouse m q r) [] (OpAbs.call rfl (fun m hm => houseL_any (hv'.le (by repeat (first | exact hm.1 | replace hm := hm.2))) hs)) rfl rfl rfl rfl ?_; refine .val [] (.opv rfl) rfl rfl rfl rfl ?_; refine .val [] (.opv rfl) rfl rfl rfl rfl ?_; refine DJ.abs (A := fun m q => IsInts m q [(t : Int)]) [] (OpAbs.call rfl (fun m hm => list6_any (h35.le (by repeat (first | exact hm.1 | replace hm := hm.2))) (by simp))) rfl rfl rfl rfl ?_
  refine DJ.val [(60, fun m q => IsInts m q [(t : Int)]), (57, fun m q => IsHouse m q r)] (fun m60 v60 h60 => fun m57 v57 h57 => OpVal.cast (.call rfl (fun m hm => proveBoil_any 1 (h57.le (by repeat (first | exact hm.1 | replace hm := hm.2))) hs (h60.le (by repeat (first | exact hm.1 | replace hm := hm.2))) (by simp))) (congrArg Value.bool hP1)) rfl rfl rfl rfl ?_ (hG := ⟨(by repeat constructor), rfl, (by repeat constructor), rfl, trivial⟩)
  refine .val [] (.loadPW rfl h3 (by repeat constructor) rfl) rfl rfl rfl rfl ?_; refine DJ.abs (A := fun m q => IsHouse m q r) [] (OpAbs.call rfl (fun m hm => houseL_any (hv'.le (by repeat (first | exact hm.1 | replace hm := hm.2))) hs)) rfl rfl rfl rfl ?_; refine .val [] (.opv rfl) rfl rfl rfl rfl ?_; refine .val [] (.opv rfl) rfl rfl rfl rfl ?_; refine DJ.abs (A := fun m q => IsInts m q [(t : Int)]) [] (OpAbs.call rfl (fun m hm => list6_any (h35.le (by repeat (first | exact hm.1 | replace hm := hm.2))) (by simp))) rfl rfl rfl rfl ?_; refine DJ.nil ?_
  rintro m66 v66 h66
  rintro m63 v63 h63
  rintro m60 v60 h60
  rintro m57 v57 h57
  refine .val (.cast (.call rfl (fun m hm => proveOrder_any 1 (h63.le (by repeat (first | exact hm.1 | replace hm := hm.2))) hs (h66.le (by repeat (first | exact hm.1 | replace hm := hm.2))) (by simp))) (congrArg Value.bool hP2)) rfl rfl rfl ?_; refine .val (.cast (OpVal.neqB6 rfl rfl) (show _ = Value.bool false from congrArg (fun b => Value.bool (!b)) (decide_eq_true rfl))) rfl rfl rfl ?_; refine WL.nil ?_; refine Kseq.go ?_; refine W.condF rfl rfl ?_
  refine W.skip (Kseq.go (W.seq (W.seq ?_)))
  by_cases hne : ask6 r = []
  · rw [if_pos hne] at hE hO
    refine W.region ?_; refine .o rfl rfl rfl rfl ?_
    refine .val (.cast (.opv rfl) (show _ = Value.bool true from congrArg (fun b => Value.bool (!b)) (decide_eq_false (by rw [hE]; decide)))) rfl rfl rfl ?_
    refine WL.nil ?_; refine Kseq.go ?_; refine W.condT rfl rfl ?_; refine W.seq ?_; refine W.region ?_; refine .o rfl rfl rfl rfl ?_; refine .val (.cast (.opv rfl) (show _ = Value.bool true from congrArg Value.bool (decide_eq_true hE))) rfl rfl rfl ?_
    iterate 3 refine .o rfl rfl rfl rfl ?_
    refine .val (.cast (.opv rfl) (show _ = Value.bool true from congrArg Value.bool (decide_eq_true (hO.trans hE.symm)))) rfl rfl rfl ?_
    iterate 4 refine .o rfl rfl rfl rfl ?_
    refine .val (.cast (.opv rfl) (show _ = Value.bool true from congrArg Value.bool (decide_eq_true rfl))) rfl rfl rfl ?_
    iterate 2 refine .o rfl rfl rfl rfl ?_
    refine .val (.call rfl (fun m hm => awake6_any)) rfl rfl rfl ?_
    iterate 2 refine .o rfl rfl rfl rfl ?_
    refine WL.nil ?_; refine Kseq.go ?_
    refine W.ret ?_; refine Kseq.ret ?_; refine ⟨.inl rfl, [_], h, ⟨.tmp rfl, trivial⟩, (by repeat constructor), ?_⟩
    rfl
  rw [if_neg hne] at hE hO
  have hxI := hxb hE x hx1
  rw [hE, if_pos rfl] at hw2
  have hnw := none_whose hne hx2
  have hxB := hxI.bd
  have hwB := hw2.bd
  have e0 : decide ((x.length : Int) = 0) = decide (((whose6 r).length : Int) = 0) := decide_eq_decide.2 (by
    have h1 : x.length = 0 ↔ x = [] := List.length_eq_zero_iff
    have h2 : (whose6 r).length = 0 ↔ whose6 r = [] := List.length_eq_zero_iff
    constructor
    · intro e; have := h2.2 (hnw.1 (h1.1 (by omega))); omega
    · intro e; have := h1.2 (hnw.2 (h2.1 (by omega))); omega)
  refine W.region ?_; refine .o rfl rfl rfl rfl ?_; refine .val (.cast (.opv rfl) (show _ = Value.bool false from congrArg (fun b => Value.bool (!b)) (decide_eq_true hE))) rfl rfl rfl ?_; refine WL.nil ?_; refine Kseq.go ?_; refine W.condF rfl rfl ?_
  refine W.skip (Kseq.go (W.seq (W.seq ?_)))
  refine W.region ?_; refine .o rfl rfl rfl rfl ?_; refine .val (.cast (.opv rfl) (show _ = Value.bool false from congrArg (fun b => Value.bool (!b)) (decide_eq_true hE))) rfl rfl rfl ?_
  iterate 2 refine .o rfl rfl rfl rfl ?_
  refine .val (.len rfl hxI) rfl rfl rfl ?_
  iterate 2 refine .o rfl rfl rfl rfl ?_
  refine .val (.len rfl hw2) rfl rfl rfl ?_; refine .o rfl rfl rfl rfl ?_; refine .val (.cast (OpVal.neqB6 rfl rfl) (show _ = Value.bool false from congrArg (fun b => Value.bool (!b)) (decide_eq_true e0))) rfl rfl rfl ?_; refine .o rfl rfl rfl rfl ?_; refine WL.nil ?_; refine Kseq.go ?_; refine W.condF rfl rfl ?_
  refine W.skip (Kseq.go (W.seq ?_))
  cases ho : order6 r k with
  | none =>
    rw [if_pos ho] at hO
    have h1 := one_none hV hkl hx2 ho
    refine W.region ?_; refine .o rfl rfl rfl rfl ?_; refine .val (.len rfl hxI) rfl rfl rfl ?_; refine .val (.cast (.opv rfl) (congrArg Value.bool (decide_eq_true (by omega)))) rfl rfl rfl ?_; refine .o rfl rfl rfl rfl ?_; refine WL.pass rfl rfl rfl ?_; refine WL.pass rfl rfl rfl ?_; refine WL.pass rfl rfl rfl ?_; refine WL.pass rfl rfl rfl ?_; refine WL.pass rfl rfl rfl ?_; refine WL.pass rfl rfl rfl ?_; refine WL.pass rfl rfl rfl ?_
    iterate 3 refine .o rfl rfl rfl rfl ?_
    refine .val (.cast (.opv rfl) (show _ = Value.bool false from congrArg Value.bool (decide_eq_false (by rw [hO]; decide)))) rfl rfl rfl ?_
    refine .o rfl rfl rfl rfl ?_; refine WL.pass rfl rfl rfl ?_; refine WL.pass rfl rfl rfl ?_; refine WL.pass rfl rfl rfl ?_
    iterate 3 refine .o rfl rfl rfl rfl ?_
    refine .val (.cast (.opv rfl) (show _ = Value.bool true from congrArg Value.bool (decide_eq_true hO))) rfl rfl rfl ?_
    iterate 2 refine .o rfl rfl rfl rfl ?_
    refine WL.pass rfl rfl rfl ?_; refine WL.pass rfl rfl rfl ?_; refine WL.pass rfl rfl rfl ?_; refine WL.pass rfl rfl rfl ?_; refine WL.pass rfl rfl rfl ?_
    iterate 3 refine .o rfl rfl rfl rfl ?_
    refine .val (.call rfl (fun m hm => awake6_any)) rfl rfl rfl ?_
    iterate 2 refine .o rfl rfl rfl rfl ?_
    refine WL.nil ?_; refine Kseq.go ?_
    refine W.ret ?_; refine ⟨.inl rfl, [_], h, ⟨.tmp rfl, trivial⟩, (by repeat constructor), ?_⟩
    rfl
  | some y =>
    rw [if_neg (by rw [ho]; simp)] at hO
    have hyI := hyb hO y ho
    have hyB := hyI.bd
    by_cases hxy : x = y
    · subst hxy
      by_cases h1 : 1 < x.length
      · skip
        refine W.region ?_; refine .o rfl rfl rfl rfl ?_; refine .val (.len rfl hxI) rfl rfl rfl ?_; refine .val (.cast (.opv rfl) (congrArg Value.bool (decide_eq_true (by omega)))) rfl rfl rfl ?_; refine .o rfl rfl rfl rfl ?_; refine WL.pass rfl rfl rfl ?_; refine WL.pass rfl rfl rfl ?_; refine WL.pass rfl rfl rfl ?_; refine WL.pass rfl rfl rfl ?_; refine WL.pass rfl rfl rfl ?_; refine WL.pass rfl rfl rfl ?_; refine WL.pass rfl rfl rfl ?_
        iterate 3 refine .o rfl rfl rfl rfl ?_
        refine .val (.cast (.opv rfl) (show _ = Value.bool true from congrArg Value.bool (decide_eq_true hO))) rfl rfl rfl ?_
        iterate 2 refine .o rfl rfl rfl rfl ?_
        refine .val (.len rfl hyI) rfl rfl rfl ?_; refine .val (.cast (.opv rfl) (congrArg Value.bool (decide_eq_true (by omega)))) rfl rfl rfl ?_
        iterate 2 refine .o rfl rfl rfl rfl ?_
        refine WL.pass rfl rfl rfl ?_; refine WL.pass rfl rfl rfl ?_
        iterate 2 refine .o rfl rfl rfl rfl ?_
        refine WL.pass rfl rfl rfl ?_; refine WL.pass rfl rfl rfl ?_; refine WL.pass rfl rfl rfl ?_; refine WL.pass rfl rfl rfl ?_; refine WL.pass rfl rfl rfl ?_
        iterate 3 refine .o rfl rfl rfl rfl ?_
        refine .val (.call rfl (fun m hm => awake6_any)) rfl rfl rfl ?_
        iterate 2 refine .o rfl rfl rfl rfl ?_
        refine WL.nil ?_; refine Kseq.go ?_
        refine W.ret ?_; refine ⟨.inl rfl, [_], h, ⟨.tmp rfl, trivial⟩, (by repeat constructor), ?_⟩
        rfl
      · skip
        refine W.region ?_; refine .o rfl rfl rfl rfl ?_; refine .val (.len rfl hxI) rfl rfl rfl ?_; refine .val (.cast (.opv rfl) (congrArg Value.bool (decide_eq_false (by omega)))) rfl rfl rfl ?_
        iterate 2 refine .o rfl rfl rfl rfl ?_
        refine .val (.cast (.opv rfl) (show _ = Value.bool true from congrArg Value.bool (decide_eq_true hO))) rfl rfl rfl ?_
        iterate 3 refine .o rfl rfl rfl rfl ?_
        refine .val (.call rfl (fun m hm => same6_eq (hxI.le (by repeat (first | exact hm.1 | replace hm := hm.2))) (hyI.le (by repeat (first | exact hm.1 | replace hm := hm.2))))) rfl rfl rfl ?_
        iterate 4 refine .o rfl rfl rfl rfl ?_
        refine .val (.cast (.opv rfl) (show _ = Value.bool true from congrArg Value.bool (decide_eq_true hO))) rfl rfl rfl ?_
        iterate 2 refine .o rfl rfl rfl rfl ?_
        refine .val (.len rfl hyI) rfl rfl rfl ?_; refine .val (.cast (.opv rfl) (congrArg Value.bool (decide_eq_false (by omega)))) rfl rfl rfl ?_
        iterate 3 refine .o rfl rfl rfl rfl ?_
        refine .val (.cast (.opv rfl) (show _ = Value.bool false from congrArg Value.bool (decide_eq_false (by rw [hO]; decide)))) rfl rfl rfl ?_
        iterate 3 refine .o rfl rfl rfl rfl ?_
        refine .val (.len rfl hxI) rfl rfl rfl ?_; refine .o rfl rfl rfl rfl ?_; refine .val (.len rfl hyI) rfl rfl rfl ?_; refine .val (.cast (.opv rfl) (congrArg Value.bool (decide_eq_true rfl))) rfl rfl rfl ?_
        iterate 3 refine .o rfl rfl rfl rfl ?_
        refine .val (.call rfl (fun m hm => awake6_any)) rfl rfl rfl ?_
        iterate 2 refine .o rfl rfl rfl rfl ?_
        refine WL.nil ?_; refine Kseq.go ?_
        refine W.ret ?_; refine ⟨.inl rfl, [_], h, ⟨.tmp rfl, trivial⟩, (by repeat constructor), ?_⟩
        rfl
    · obtain ⟨h1, h2⟩ : 1 < x.length ∧ 1 < y.length := (one_some hV hkl hx2 ho).resolve_right hxy
      refine W.region ?_; refine .o rfl rfl rfl rfl ?_; refine .val (.len rfl hxI) rfl rfl rfl ?_; refine .val (.cast (.opv rfl) (congrArg Value.bool (decide_eq_true (by omega)))) rfl rfl rfl ?_; refine .o rfl rfl rfl rfl ?_; refine WL.pass rfl rfl rfl ?_; refine WL.pass rfl rfl rfl ?_; refine WL.pass rfl rfl rfl ?_; refine WL.pass rfl rfl rfl ?_; refine WL.pass rfl rfl rfl ?_; refine WL.pass rfl rfl rfl ?_; refine WL.pass rfl rfl rfl ?_
      iterate 3 refine .o rfl rfl rfl rfl ?_
      refine .val (.cast (.opv rfl) (show _ = Value.bool true from congrArg Value.bool (decide_eq_true hO))) rfl rfl rfl ?_
      iterate 2 refine .o rfl rfl rfl rfl ?_
      refine .val (.len rfl hyI) rfl rfl rfl ?_; refine .val (.cast (.opv rfl) (congrArg Value.bool (decide_eq_true (by omega)))) rfl rfl rfl ?_
      iterate 2 refine .o rfl rfl rfl rfl ?_
      refine WL.pass rfl rfl rfl ?_; refine WL.pass rfl rfl rfl ?_
      iterate 2 refine .o rfl rfl rfl rfl ?_
      refine WL.pass rfl rfl rfl ?_; refine WL.pass rfl rfl rfl ?_; refine WL.pass rfl rfl rfl ?_; refine WL.pass rfl rfl rfl ?_; refine WL.pass rfl rfl rfl ?_
      iterate 3 refine .o rfl rfl rfl rfl ?_
      refine .val (.call rfl (fun m hm => awake6_any)) rfl rfl rfl ?_
      iterate 2 refine .o rfl rfl rfl rfl ?_
      refine WL.nil ?_; refine Kseq.go ?_
      refine W.ret ?_; refine ⟨.inl rfl, [_], h, ⟨.tmp rfl, trivial⟩, (by repeat constructor), ?_⟩
      rfl
end Go.Proofs.YtdnbkjgbehakpaaGreat
