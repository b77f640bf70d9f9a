/- The statements' functions of chapter 6: kept, closer. -/
import Derived.Test.YtdnbkjgbehakpaaGreatT134
namespace Go.Proofs.YtdnbkjgbehakpaaGreat
open Go Go.Eng Go.RowKit

/-- kept -/
theorem kept6_any {h : Mem} {av bv : Value} {a b : List Int} (ha : IsInts h av a) (hb : IsInts h bv b) : FnV Tryz.prog 104 #[av, bv] h (.bool (keptL a b)) := by
  have hla := ha.bd
  have hlb := hb.bd
  refine FnR.val ?_
  refine FnR.of_W (n := 33) Tryz.func104 rfl rfl (Nat.le_of_ble_eq_true rfl) fun c hr hD hF => ?_
  refine W.seq ?_; refine W.region ?_; refine .o rfl rfl rfl rfl ?_; refine WL.nil ?_
  refine Kseq.go (W.seq (W.seq ?_))
  refine W.region ?_; refine .o rfl rfl rfl rfl ?_; refine .val (.len rfl ha) rfl rfl rfl ?_; refine .o rfl rfl rfl rfl ?_; refine .val (.len rfl hb) rfl rfl rfl ?_; refine .o rfl rfl rfl rfl ?_; refine WL.nil ?_; refine Kseq.go ?_
  refine W.cond rfl rfl (fun he => ?_) (fun hne => ?_)
  · refine W.seq ?_
    refine W.region ?_; refine .o rfl rfl rfl rfl ?_; refine WL.nil ?_; refine Kseq.go ?_
    refine W.ret ?_; refine Kseq.ret ?_; refine ⟨.inl rfl, [_], h, ⟨.tmp rfl, trivial⟩, (by repeat constructor), ?_⟩
    exact congrArg Value.bool (decide_eq_false fun e => by rw [e.1] at he; simp at he).symm
  have hn : a.length = b.length := by simp at hne; omega
  refine W.skip (Kseq.go (W.seq (W.seq ?_)))
  refine W.region ?_; refine .o rfl rfl rfl rfl ?_; refine WL.nil ?_
  refine Kseq.go (W.block ?_)
  refine W.loop (σ := Nat) (fun k => [(0, av), (1, bv), (5, vi (k : Int))]) (fun _ => [h]) (fun _ => []) (fun k => k ≤ a.length ∧ ∀ i, i < k → a.getD i 0 = 3 ∨ a.getD i 0 = b.getD i 0) (fun k => a.length - k) 0 ⟨rfl, rfl, rfl, trivial⟩ (by simp) (List.nil_sublist _) ⟨Nat.zero_le _, fun i hi => absurd hi (Nat.not_lt_zero _)⟩ ?_
  rintro k ⟨hk, hall⟩
  refine W.seq (W.seq ?_)
  refine W.region ?_
  iterate 2 refine .o rfl rfl rfl rfl ?_
  refine .val (.len rfl ha) rfl rfl rfl ?_; refine .o rfl rfl rfl rfl ?_; refine WL.nil ?_; refine Kseq.go ?_
  refine W.condD rfl rfl (fun hlt => ?_) (fun hge => ?_)
  · have hkl : k < a.length := by omega
    have hkb : k < b.length := by omega
    refine W.skip (Kseq.go (W.seq (W.block (W.seq ?_))))
    refine W.toS [(0, av), (1, bv), (5, vi (k : Int)), (32, .bool (!decide (a.getD k 0 = 3) && !decide (a.getD k 0 = b.getD k 0)))] ?_ ?_
    · skip
      refine W.draw 14 (by kernel_rfl) (by kernel_rfl) (by kernel_rfl) rfl ?_; refine .val [] (.opv rfl) rfl rfl rfl rfl ?_; refine .val [] (.opv rfl) rfl rfl rfl rfl ?_; refine .val [] (.indexAddrN rfl rfl ha hkl) rfl rfl rfl rfl ?_; refine .val [] (.loadE rfl ha (by repeat constructor) hkl (by omega)) rfl rfl rfl rfl ?_; refine .val [] (.opv rfl) rfl rfl rfl rfl ?_; refine .val [] (.opv rfl) rfl rfl rfl rfl ?_
      refine DJ.splitN rfl rfl (fun g22 => ?_) (fun g22 => ?_)
      · refine .val [] (.opv rfl) rfl rfl rfl rfl ?_
        refine .val [] (.opv rfl) rfl rfl rfl rfl ?_; refine .val [] (.indexAddrN rfl rfl ha hkl) rfl rfl rfl rfl ?_; refine .val [] (.loadE rfl ha (by repeat constructor) hkl (by omega)) rfl rfl rfl rfl ?_; refine .val [] (.opv rfl) rfl rfl rfl rfl ?_; refine .val [] (.opv rfl) rfl rfl rfl rfl ?_; refine .val [] (.indexAddrN rfl rfl hb hkb) rfl rfl rfl rfl ?_; refine .val [] (.loadE rfl hb (by repeat constructor) hkb (by omega)) rfl rfl rfl rfl ?_; refine DJ.nil ?_
        iterate 2 refine .o rfl rfl rfl rfl ?_
        refine WL.nil ?_
        exact Keff.intro ⟨rfl, rfl, rfl, congrArg (fun b => some (Value.bool b)) (by first | (simp [-List.getD_eq_getElem?_getD]; done) | (simp_all [-List.getD_eq_getElem?_getD]; done) | (simp [-List.getD_eq_getElem?_getD]; omega) | (rw [Bool.eq_iff_iff]; simp [-List.getD_eq_getElem?_getD]; omega) | (simp [-List.getD_eq_getElem?_getD] at *; omega)), trivial⟩ (by simp) (by repeat (first | exact List.Sublist.refl _ | refine List.Sublist.cons _ ?_ | refine List.Sublist.cons_cons _ ?_))
      · refine DJ.pass rfl rfl rfl rfl ?_
        refine DJ.pass rfl rfl rfl rfl ?_; refine DJ.pass rfl rfl rfl rfl ?_; refine DJ.pass rfl rfl rfl rfl ?_; refine DJ.pass rfl rfl rfl rfl ?_; refine DJ.pass rfl rfl rfl rfl ?_; refine DJ.pass rfl rfl rfl rfl ?_; refine DJ.pass rfl rfl rfl rfl ?_; refine DJ.nil ?_; refine WL.pass rfl rfl rfl ?_; refine .o rfl rfl rfl rfl ?_; refine WL.nil ?_
        exact Keff.intro ⟨rfl, rfl, rfl, congrArg (fun b => some (Value.bool b)) (by first | (simp [-List.getD_eq_getElem?_getD]; done) | (simp_all [-List.getD_eq_getElem?_getD]; done) | (simp [-List.getD_eq_getElem?_getD]; omega) | (rw [Bool.eq_iff_iff]; simp [-List.getD_eq_getElem?_getD]; omega) | (simp [-List.getD_eq_getElem?_getD] at *; omega)), trivial⟩ (by simp) (by repeat (first | exact List.Sublist.refl _ | refine List.Sublist.cons _ ?_ | refine List.Sublist.cons_cons _ ?_))
    refine Kseq.go ?_
    refine W.cond rfl rfl (fun hb2 => ?_) (fun hb2 => ?_)
    · refine W.seq ?_
      refine W.region ?_; refine .o rfl rfl rfl rfl ?_; refine WL.nil ?_; refine Kseq.go ?_
      refine W.ret ?_; refine Kblock.ret (Kseq.ret (Kloop.ret (Kblock.ret (Kseq.ret ?_)))); refine ⟨.inl rfl, [_], h, ⟨.tmp rfl, trivial⟩, (by repeat constructor), ?_⟩
      refine congrArg Value.bool (decide_eq_false fun e => ?_).symm
      rw [Bool.and_eq_true, Bool.not_eq_true', Bool.not_eq_true', decide_eq_false_iff_not, decide_eq_false_iff_not] at hb2
      rcases e.2 k hkl with e2 | e2
      · exact hb2.1 e2
      · exact hb2.2 e2
    · refine W.skip (Kblock.normal (Kseq.go ?_))
      refine W.region ?_; refine .o rfl rfl rfl rfl ?_; refine .val (.incr rfl (by omega)) rfl rfl rfl ?_; refine .o rfl rfl rfl rfl ?_; refine WL.nil ?_
      refine Kloop.next (k + 1) ⟨hkl, fun i hi => ?_⟩ (by omega) ⟨rfl, rfl, rfl, trivial⟩ (by simp) (by repeat (first | exact List.Sublist.refl _ | refine List.Sublist.cons _ ?_ | refine List.Sublist.cons_cons _ ?_))
      rcases Nat.lt_succ_iff_lt_or_eq.1 hi with h2 | rfl
      · exact hall i h2
      · rw [Bool.and_eq_false_iff, Bool.not_eq_false', Bool.not_eq_false', decide_eq_true_eq, decide_eq_true_eq] at hb2
        exact hb2
  · have hkk : k = a.length := by omega
    subst hkk
    refine W.exit (Kseq.exit (Kloop.exit (Kblock.here (Kseq.go (W.seq ?_)))))
    refine W.region ?_; refine .o rfl rfl rfl rfl ?_; refine WL.nil ?_; refine Kseq.go ?_
    refine W.ret ?_; refine ⟨.inl rfl, [_], h, ⟨.tmp rfl, trivial⟩, (by repeat constructor), ?_⟩
    exact congrArg Value.bool (decide_eq_true ⟨hn, hall⟩).symm
/-- closer -/
theorem closer6_any {h : Mem} {xv hv : Value} {x r : House} {hour : Nat} (hx : IsHouse h xv x) (hr : IsHouse h hv r) (hsx : SmH x) (hs : SmH r) (hVx : ValidH x) (hV : ValidH r) (hC : Closer x r) (hne : ask6 x ≠ []) (hhx : (hour : Int) ≤ x.last) (hhr : (hour : Int) ≤ r.last) :
    FnV Tryz.prog 46 #[xv, hv, vi hour] h (.bool true) := by
  have hx' := hx
  have hr' := hr
  obtain ⟨wv, pv, kv, tv, bv, sv, f, rfl, hA⟩ := hx
  obtain ⟨wv2, pv2, kv2, tv2, bv2', sv2', f2, rfl, hA2⟩ := hr
  have hne2 : ask6 r ≠ [] := by
    obtain ⟨c, hc⟩ := List.exists_mem_of_ne_nil _ hne
    exact List.ne_nil_of_mem (hC.sub c hc)
  have hEx : ask6E x true = 0 := by rw [ask6E_with hVx, if_neg hne]
  have hEr : ask6E r true = 0 := by rw [ask6E_with hV, if_neg hne2]
  have hhourx : isHour x hour = true := isHour_iff.2 ⟨Int.natCast_nonneg _, hhx⟩
  have hhourr : isHour r hour = true := isHour_iff.2 ⟨Int.natCast_nonneg _, hhr⟩
  obtain ⟨p, hp1, hp2⟩ := boil6_least hVx (hour := hour) hhx
  obtain ⟨q, hq1, hq2⟩ := boil6_least hV (hour := hour) hhr
  have hkept := hC.kept hne
  have hwl := hC.whoseLen hne
  have hwm := hC.whose hne
  have hbl := hC.boil hp2 hq2
  refine FnR.val ?_
  refine FnR.of_W (n := 113) Tryz.func46 rfl rfl (Nat.le_of_ble_eq_true rfl) fun c hr hD hF => ?_
  refine W.seq ?_; refine W.region ?_
  refine WL.box rfl rfl rfl rfl (fun b3 => ?_)
  refine WL.box rfl rfl rfl rfl (fun b4 => ?_)
  refine .o rfl rfl rfl rfl ?_; refine WL.nil ?_
  refine Kseq.go (W.seq ?_)
  refine W.region ?_; refine .val (.loadBW rfl (.tail _ (.head _)) rfl) rfl rfl rfl ?_; refine WL.abs (OpAbs.call rfl (fun m hm => houseL_any (hx'.le (by repeat (first | exact hm.1 | replace hm := hm.2))) hsx)) rfl rfl rfl ?_
  rintro m22 v22 h22
  (refine WL.abs (OpAbs.call rfl (fun m hm => carry6_any (h22.le (by repeat (first | exact hm.1 | replace hm := hm.2))) hsx)) rfl rfl rfl ?_; rintro m23 _ ⟨l1, rfl, hl1⟩; rw [hEx])
  iterate 5 refine .o rfl rfl rfl rfl ?_
  refine WL.nil ?_
  refine Kseq.go (W.seq ?_)
  refine W.region ?_; refine .val (.loadBW rfl (.head _) rfl) rfl rfl rfl ?_; refine WL.abs (OpAbs.call rfl (fun m hm => houseL_any (hr'.le (by repeat (first | exact hm.1 | replace hm := hm.2))) hs)) rfl rfl rfl ?_
  rintro m28 v28 h28
  (refine WL.abs (OpAbs.call rfl (fun m hm => carry6_any (h28.le (by repeat (first | exact hm.1 | replace hm := hm.2))) hs)) rfl rfl rfl ?_; rintro m29 _ ⟨l2, rfl, hl2⟩; rw [hEr])
  iterate 5 refine .o rfl rfl rfl rfl ?_
  refine WL.nil ?_
  refine Kseq.go (W.seq ?_)
  refine W.region ?_; refine .val (.loadBW rfl (.tail _ (.head _)) rfl) rfl rfl rfl ?_; refine WL.abs (OpAbs.call rfl (fun m hm => houseL_any (hx'.le (by repeat (first | exact hm.1 | replace hm := hm.2))) hsx)) rfl rfl rfl ?_
  rintro m34 v34 h34
  (refine WL.abs (OpAbs.call rfl (fun m hm => whose6_any (h34.le (by repeat (first | exact hm.1 | replace hm := hm.2))) hsx)) rfl rfl rfl ?_; rintro m35 _ ⟨l3, rfl, hl3⟩; rw [hEx])
  iterate 5 refine .o rfl rfl rfl rfl ?_
  refine WL.nil ?_
  refine Kseq.go (W.seq ?_)
  refine W.region ?_; refine .val (.loadBW rfl (.head _) rfl) rfl rfl rfl ?_; refine WL.abs (OpAbs.call rfl (fun m hm => houseL_any (hr'.le (by repeat (first | exact hm.1 | replace hm := hm.2))) hs)) rfl rfl rfl ?_
  rintro m40 v40 h40
  (refine WL.abs (OpAbs.call rfl (fun m hm => whose6_any (h40.le (by repeat (first | exact hm.1 | replace hm := hm.2))) hs)) rfl rfl rfl ?_; rintro m41 _ ⟨l4, rfl, hl4⟩; rw [hEr])
  iterate 5 refine .o rfl rfl rfl rfl ?_
  refine WL.nil ?_
  refine Kseq.go (W.seq ?_)
  refine W.region ?_; refine .val (.loadBW rfl (.tail _ (.head _)) rfl) rfl rfl rfl ?_; refine WL.abs (OpAbs.call rfl (fun m hm => houseL_any (hx'.le (by repeat (first | exact hm.1 | replace hm := hm.2))) hsx)) rfl rfl rfl ?_
  rintro m46 v46 h46
  refine .o rfl rfl rfl rfl ?_
  (refine WL.abs (OpAbs.call rfl (fun m hm => boil6_any (hour : Int) (h46.le (by repeat (first | exact hm.1 | replace hm := hm.2))) hsx)) rfl rfl rfl ?_; rintro m48 _ ⟨l5, rfl, _, hl5⟩; rw [hhourx, hEx])
  iterate 5 refine .o rfl rfl rfl rfl ?_
  refine WL.nil ?_
  refine Kseq.go (W.seq ?_)
  refine W.region ?_; refine .val (.loadBW rfl (.head _) rfl) rfl rfl rfl ?_; refine WL.abs (OpAbs.call rfl (fun m hm => houseL_any (hr'.le (by repeat (first | exact hm.1 | replace hm := hm.2))) hs)) rfl rfl rfl ?_
  rintro m53 v53 h53
  refine .o rfl rfl rfl rfl ?_
  (refine WL.abs (OpAbs.call rfl (fun m hm => boil6_any (hour : Int) (h53.le (by repeat (first | exact hm.1 | replace hm := hm.2))) hs)) rfl rfl rfl ?_; rintro m55 _ ⟨l6, rfl, _, hl6⟩; rw [hhourr, hEr])
  iterate 5 refine .o rfl rfl rfl rfl ?_
  refine WL.nil ?_
  refine Kseq.go (W.seq (W.seq ?_))
  rw [hEx, if_pos rfl] at hl1 hl3
  rw [hEr, if_pos rfl] at hl2 hl4
  rw [hhourx] at hl5
  rw [hhourr] at hl6
  have hl5' := hl5 hEx _ hp1
  have hl6' := hl6 hEr _ hq1
  refine W.join fun mj hj => ?_
  have g1 := hl1.le (hj _ (by simp))
  have g2 := hl2.le (hj _ (by simp))
  have g3 := hl3.le (hj _ (by simp))
  have g4 := hl4.le (hj _ (by simp))
  have g5 := hl5'.le (hj _ (by simp))
  have g6 := hl6'.le (hj _ (by simp))
  have hl3b := g3.bd
  refine W.weaken [(7, l1), (8, vi 0), (9, l2), (10, vi 0), (11, l3), (12, vi 0), (13, l4), (14, vi 0), (15, l5), (16, vi 0), (17, l6), (18, vi 0)] [mj] [] (by repeat (first | exact trivial | refine ⟨rfl, ?_⟩)) (by simp) (List.nil_sublist _) ?_
  clear hl1 hl2 hl3 hl4 hl5 hl6 hl5' hl6'
  refine W.region ?_; refine .o rfl rfl rfl rfl ?_; refine .val (OpVal.neqF6 rfl rfl) rfl rfl rfl ?_
  iterate 2 refine .o rfl rfl rfl rfl ?_
  refine .val (OpVal.neqF6 rfl rfl) rfl rfl rfl ?_
  iterate 4 refine .o rfl rfl rfl rfl ?_
  refine .val (.cast (.call rfl (fun m hm => kept6_any (g2.le (by repeat (first | exact hm.1 | replace hm := hm.2))) (g1.le (by repeat (first | exact hm.1 | replace hm := hm.2))))) (congrArg Value.bool hkept)) rfl rfl rfl ?_
  iterate 4 refine .o rfl rfl rfl rfl ?_
  refine .val (OpVal.neqF6 rfl rfl) rfl rfl rfl ?_
  iterate 3 refine .o rfl rfl rfl rfl ?_
  refine .val (OpVal.neqF6 rfl rfl) rfl rfl rfl ?_
  iterate 3 refine .o rfl rfl rfl rfl ?_
  refine .val (.len rfl g3) rfl rfl rfl ?_; refine .o rfl rfl rfl rfl ?_; refine .val (.len rfl g4) rfl rfl rfl ?_; refine .val (.cast (.opv rfl) (congrArg Value.bool (decide_eq_false (by omega)))) rfl rfl rfl ?_
  iterate 3 refine .o rfl rfl rfl rfl ?_
  refine .val (OpVal.neqF6 rfl rfl) rfl rfl rfl ?_
  iterate 3 refine .o rfl rfl rfl rfl ?_
  refine .val (OpVal.neqF6 rfl rfl) rfl rfl rfl ?_
  iterate 3 refine .o rfl rfl rfl rfl ?_
  refine .val (.len rfl g5) rfl rfl rfl ?_; refine .o rfl rfl rfl rfl ?_; refine .val (.len rfl g6) rfl rfl rfl ?_; refine .val (.cast (.opv rfl) (congrArg Value.bool (decide_eq_false (by omega)))) rfl rfl rfl ?_; refine .o rfl rfl rfl rfl ?_; refine WL.nil ?_; refine Kseq.go ?_; refine W.condF rfl rfl ?_
  refine W.skip (Kseq.go (W.seq (W.seq ?_)))
  refine W.region ?_; refine .o rfl rfl rfl rfl ?_; refine WL.nil ?_
  refine Kseq.go (W.block ?_)
  refine W.loop (σ := Nat) (fun k => [(11, l3), (13, l4), (19, vi (k : Int))]) (fun _ => [mj]) (fun _ => []) (fun k => k ≤ (whose6 x).length) (fun k => (whose6 x).length - k) 0 ⟨rfl, rfl, rfl, trivial⟩ (by simp) (List.nil_sublist _) (Nat.zero_le _) ?_
  rintro k hk
  try dsimp only at hk ⊢
  refine W.seq (W.seq ?_)
  refine W.region ?_
  iterate 2 refine .o rfl rfl rfl rfl ?_
  refine .val (.len rfl g3) rfl rfl rfl ?_; refine .o rfl rfl rfl rfl ?_; refine WL.nil ?_; refine Kseq.go ?_
  refine W.condD rfl rfl (fun hlt => ?_) (fun hge => ?_)
  · have hkl : k < (whose6 x).length := by omega
    refine W.skip (Kseq.go (W.seq (W.block (W.seq ?_))))
    refine W.region ?_
    iterate 3 refine .o rfl rfl rfl rfl ?_
    refine .val (.indexAddrN rfl rfl g3 hkl) rfl rfl rfl ?_; refine .val (.loadE rfl g3 (by repeat constructor) hkl (by omega)) rfl rfl rfl ?_; refine .val (.cast (.call rfl (fun m hm => has_any _ (g4.le (by repeat (first | exact hm.1 | replace hm := hm.2))))) (congrArg Value.bool (decide_eq_true (hwm _ (mem_getD hkl))))) rfl rfl rfl ?_; refine .o rfl rfl rfl rfl ?_; refine WL.nil ?_; refine Kseq.go ?_; refine W.condF rfl rfl ?_
    refine W.skip (Kblock.normal (Kseq.go ?_))
    refine W.region ?_; refine .o rfl rfl rfl rfl ?_; refine .val (.incr rfl (by omega)) rfl rfl rfl ?_; refine .o rfl rfl rfl rfl ?_; refine WL.nil ?_
    exact Kloop.next (k + 1) (by omega) (by omega) ⟨rfl, rfl, rfl, trivial⟩ (by simp) (by repeat (first | exact List.Sublist.refl _ | refine List.Sublist.cons _ ?_ | refine List.Sublist.cons_cons _ ?_))
  · refine W.exit (Kseq.exit (Kloop.exit (Kblock.here (Kseq.go (W.seq ?_)))))
    refine W.region ?_; refine .o rfl rfl rfl rfl ?_; refine WL.nil ?_; refine Kseq.go ?_
    refine W.ret ?_; refine ⟨.inl rfl, [_], mj, ⟨.tmp rfl, trivial⟩, (by repeat constructor), ?_⟩
    rfl
end Go.Proofs.YtdnbkjgbehakpaaGreat
