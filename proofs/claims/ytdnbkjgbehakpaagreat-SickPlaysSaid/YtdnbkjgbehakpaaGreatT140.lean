/- The statement SickPlays: its contract. -/
import Derived.Test.YtdnbkjgbehakpaaGreatT139
namespace Go.Proofs.YtdnbkjgbehakpaaGreat
open Go Go.Eng Go.RowKit

theorem course_eq {r : House} (hV : ValidH r) (q : Course) : isCourse r q = courseB r q := by
  unfold isCourse courseB
  rw [Bool.and_assoc]
  rw [isTruth_eq (by have := hV.table.women; omega)]
  rfl
theorem truth_eq {r : House} (hV : ValidH r) (q : Course) : isTruth6 r q = truth6B r q := by
  unfold isTruth6 truth6B
  rw [decide_eq_true (fault6_zero.2 hV), Bool.true_and, course_eq hV]
  congr 1
  rw [Bool.eq_iff_iff, decide_eq_true_eq]
  exact right_full6
/-- SickPlays -/
theorem sickPlays_any {h : Mem} {v cv : Value} {r : House} {q : Course} (hv : IsHouse h v r) (hc : IsCourseV h cv q) : FnV Tryz.prog 15 #[v, cv] h (.bool true) := by
  have hv' := hv
  have hc' := hc
  obtain ⟨wv, pv, kv, tv, bv, sv, f, rfl, hA⟩ := hv
  obtain ⟨ov, hv2, rfl, hO, hH⟩ := hc
  have hOb := hO.bd
  have hHb := hH.bd
  refine FnR.val ?_
  refine FnR.of_W (n := 90) Tryz.func15 rfl rfl (Nat.le_of_ble_eq_true rfl) fun c hr hD hF => ?_
  refine W.seq ?_; refine W.region ?_
  refine WL.box rfl rfl rfl rfl (fun b2 => ?_)
  refine WL.box rfl rfl rfl rfl (fun b3 => ?_)
  refine .o rfl rfl rfl rfl ?_; refine WL.nil ?_
  refine Kseq.go (W.seq (W.seq ?_))
  refine W.freezeBox (.head _) (fun b hb => (hF b hb).elim) fun m3 h3 => ?_
  refine W.freezeBox (.head _) (fun b hb => (hF b hb).elim) fun m2 h2 => ?_
  refine W.join fun mj hj => ?_
  have hvj := hv'.le (hj h (by simp))
  have hcj := hc'.le (hj h (by simp))
  have hOj := IsInts.le hO (hj h (by simp))
  have hHj := IsInts.le hH (hj h (by simp))
  have h2j := h2.le (hj m2 (by simp))
  have h3j := h3.le (hj m3 (by simp))
  clear h2 h3
  refine W.weaken [(2, .pointer (some ⟨b2, 0, none⟩)), (3, .pointer (some ⟨b3, 0, none⟩))] [mj] [] (by repeat (first | exact trivial | refine ⟨rfl, ?_⟩)) (by simp) (List.nil_sublist _) ?_
  let ok : Bool := thin6 r && decide (q.owners.length ≤ 9 ∧ q.hours.length ≤ 9)
  refine W.toS [(2, .pointer (some ⟨b2, 0, none⟩)), (3, .pointer (some ⟨b3, 0, none⟩)), (23, .bool (!ok))] ?_ ?_
  · obtain ⟨tb, htb⟩ : ∃ tb, thin6 r = tb := ⟨_, rfl⟩
    refine W.region ?_; refine .val (.loadPW rfl h2j (by repeat constructor) rfl) rfl rfl rfl ?_; refine .val (.cast (.call rfl (fun m hm => thin6_any (hvj.le (by repeat (first | exact hm.1 | replace hm := hm.2))))) (congrArg Value.bool htb)) rfl rfl rfl ?_
    iterate 2 refine .o rfl rfl rfl rfl ?_
    refine WL.splitB rfl rfl (fun g12 => ?_) (fun g12 => ?_)
    · refine WL.pass rfl rfl rfl ?_
      refine WL.pass rfl rfl rfl ?_; refine WL.pass rfl rfl rfl ?_; refine WL.pass rfl rfl rfl ?_
      iterate 2 refine .o rfl rfl rfl rfl ?_
      refine WL.pass rfl rfl rfl ?_; refine WL.pass rfl rfl rfl ?_; refine WL.pass rfl rfl rfl ?_; refine WL.pass rfl rfl rfl ?_; refine .o rfl rfl rfl rfl ?_; refine WL.nil ?_
      exact Keff.intro ⟨rfl, rfl, congrArg (fun b => some (Value.bool b)) (by show _ = !(thin6 r && decide (q.owners.length ≤ 9 ∧ q.hours.length ≤ 9)); rw [htb]; first | exact (by first | (simp [-List.getD_eq_getElem?_getD]; done) | (simp_all [-List.getD_eq_getElem?_getD]; done) | (simp [-List.getD_eq_getElem?_getD]; omega) | (rw [Bool.eq_iff_iff]; simp [-List.getD_eq_getElem?_getD]; omega) | (simp [-List.getD_eq_getElem?_getD] at *; omega)) | (simp [*]; done) | (rw [Bool.eq_iff_iff]; simp_all; omega)), trivial⟩ (by simp) (by repeat (first | exact List.Sublist.refl _ | refine List.Sublist.cons _ ?_ | refine List.Sublist.cons_cons _ ?_))
    · refine .val (.fieldAddrB rfl) rfl rfl rfl ?_
      refine .val (.loadP rfl h3j (by repeat constructor) rfl) rfl rfl rfl ?_; refine .val (.len rfl hOj) rfl rfl rfl ?_
      iterate 3 refine .o rfl rfl rfl rfl ?_
      refine WL.split rfl rfl (fun g18 => ?_) (fun g18 => ?_)
      · refine WL.pass rfl rfl rfl ?_
        refine WL.pass rfl rfl rfl ?_; refine WL.pass rfl rfl rfl ?_; refine WL.pass rfl rfl rfl ?_; refine .o rfl rfl rfl rfl ?_; refine WL.nil ?_
        exact Keff.intro ⟨rfl, rfl, congrArg (fun b => some (Value.bool b)) (by show _ = !(thin6 r && decide (q.owners.length ≤ 9 ∧ q.hours.length ≤ 9)); rw [htb]; first | exact (by first | (simp [-List.getD_eq_getElem?_getD]; done) | (simp_all [-List.getD_eq_getElem?_getD]; done) | (simp [-List.getD_eq_getElem?_getD]; omega) | (rw [Bool.eq_iff_iff]; simp [-List.getD_eq_getElem?_getD]; omega) | (simp [-List.getD_eq_getElem?_getD] at *; omega)) | (simp [*]; done) | (rw [Bool.eq_iff_iff]; simp_all; omega)), trivial⟩ (by simp) (by repeat (first | exact List.Sublist.refl _ | refine List.Sublist.cons _ ?_ | refine List.Sublist.cons_cons _ ?_))
      · refine .val (.fieldAddrB rfl) rfl rfl rfl ?_
        refine .val (.loadP rfl h3j (by repeat constructor) rfl) rfl rfl rfl ?_; refine .val (.len rfl hHj) rfl rfl rfl ?_
        iterate 2 refine .o rfl rfl rfl rfl ?_
        refine WL.nil ?_
        exact Keff.intro ⟨rfl, rfl, congrArg (fun b => some (Value.bool b)) (by show _ = !(thin6 r && decide (q.owners.length ≤ 9 ∧ q.hours.length ≤ 9)); rw [htb]; first | exact (by first | (simp [-List.getD_eq_getElem?_getD]; done) | (simp_all [-List.getD_eq_getElem?_getD]; done) | (simp [-List.getD_eq_getElem?_getD]; omega) | (rw [Bool.eq_iff_iff]; simp [-List.getD_eq_getElem?_getD]; omega) | (simp [-List.getD_eq_getElem?_getD] at *; omega)) | (simp [*]; done) | (rw [Bool.eq_iff_iff]; simp_all; omega)), trivial⟩ (by simp) (by repeat (first | exact List.Sublist.refl _ | refine List.Sublist.cons _ ?_ | refine List.Sublist.cons_cons _ ?_))
  refine Kseq.go ?_
  refine W.cond rfl rfl (fun hno => ?_) (fun hyes => ?_)
  · refine W.seq ?_
    refine W.region ?_; refine .val (.call rfl (fun m hm => awake6_any)) rfl rfl rfl ?_; refine .o rfl rfl rfl rfl ?_; refine WL.nil ?_; refine Kseq.go ?_
    refine W.ret ?_; refine Kseq.ret ?_; refine ⟨.inl rfl, [_], mj, ⟨.tmp rfl, trivial⟩, (by repeat constructor), ?_⟩
    rfl
  have hok : ok = true := by simpa using hyes
  obtain ⟨hth, hlen⟩ : thin6 r = true ∧ (q.owners.length ≤ 9 ∧ q.hours.length ≤ 9) := by
    have : (thin6 r && decide (q.owners.length ≤ 9 ∧ q.hours.length ≤ 9)) = true := hok
    rw [Bool.and_eq_true, decide_eq_true_eq] at this
    exact this
  have hs := thin6_sm hth
  obtain ⟨PE, hPE⟩ : ∃ PE, play6E r q = PE := ⟨_, rfl⟩
  obtain ⟨LL, hLL⟩ : ∃ LL, (if play6E r q = 0 then bits (lastN r q []) else []) = LL := ⟨_, rfl⟩
  obtain ⟨TB, hTB⟩ : ∃ TB, truth6B r q = TB := ⟨_, rfl⟩
  refine W.skip (Kseq.go (W.seq ?_))
  refine W.draw 9 (by kernel_rfl) (by kernel_rfl) (by kernel_rfl) rfl ?_; refine .val [] (.loadPW rfl h2j (by repeat constructor) rfl) rfl rfl rfl rfl ?_; refine DJ.abs (A := fun m x => IsHouse m x r) [] (OpAbs.call rfl (fun m hm => houseL_any (hvj.le (by repeat (first | exact hm.1 | replace hm := hm.2))) hs)) rfl rfl rfl rfl ?_; refine .val [] (.loadPW rfl h3j (by repeat constructor) rfl) rfl rfl rfl rfl ?_; refine DJ.abs (A := fun m x => IsCourseV m x q) [] (OpAbs.call rfl (fun m hm => courseL_any (hcj.le (by repeat (first | exact hm.1 | replace hm := hm.2))) (by omega) (by omega))) rfl rfl rfl rfl ?_
  refine DJ.abs (A := fun m x => ∃ lv, x = .tuple #[lv, vi PE] ∧ IsInts m lv LL) [(29, fun m x => IsCourseV m x q), (27, fun m x => IsHouse m x r)] (fun m29 v29 h29 => fun m27 v27 h27 => OpAbs.mono (OpAbs.call rfl (fun m hm => play6_any (h27.le (by repeat (first | exact hm.1 | replace hm := hm.2))) hs (h29.le (by repeat (first | exact hm.1 | replace hm := hm.2))))) (fun m x hx => by rw [hPE] at hx; rw [hPE] at hLL; rw [hLL] at hx; exact hx)) rfl rfl rfl rfl ?_ (hG := ⟨(by repeat constructor), rfl, (by repeat constructor), rfl, trivial⟩)
  refine DJ.abs (A := fun m x => ∃ lv, x = .tuple #[lv, vi PE] ∧ IsInts m lv LL) [(30, fun m x => ∃ lv, x = .tuple #[lv, vi PE] ∧ IsInts m lv LL)] (fun m30 v30 h30 => OpAbs.ofVal (OpVal.opv rfl) (.head _) h30) rfl rfl rfl rfl ?_ (hG := ⟨(by repeat constructor), rfl, trivial⟩)
  refine DJ.abs (A := fun m x => IsInts m x LL) [(25, fun m x => ∃ lv, x = .tuple #[lv, vi PE] ∧ IsInts m lv LL)] (fun m25 v25 h25 => by obtain ⟨lv, rfl, hl⟩ := h25; exact OpAbs.ofVal (OpVal.opv rfl) (.head _) hl) rfl rfl rfl rfl ?_ (hG := ⟨(by repeat constructor), rfl, trivial⟩)
  refine DJ.val [(25, fun m x => ∃ lv, x = .tuple #[lv, vi PE] ∧ IsInts m lv LL)] (fun m25 v25 h25 => (by obtain ⟨lv, rfl, hl⟩ := h25; exact OpVal.cast (.opv rfl) (show _ = vi PE from rfl))) rfl rfl rfl rfl ?_ (hG := ⟨(by repeat constructor), rfl, trivial⟩)
  refine DJ.abs (A := fun m x => IsInts m x LL) [(31, fun m x => IsInts m x LL)] (fun m31 v31 h31 => OpAbs.ofVal (A := fun m x => IsInts m x LL) (OpVal.opv rfl) (.head _) h31) rfl rfl rfl rfl ?_ (hG := ⟨(by repeat constructor), rfl, trivial⟩)
  refine DJ.nil ?_
  rintro m5 v5 h5
  rintro m31 v31 h31
  rintro m25 v25 h25
  rintro m30 v30 h30
  rintro m29 v29 h29
  rintro m27 v27 h27
  refine .o rfl rfl rfl rfl ?_; refine WL.nil ?_
  refine Kseq.go (W.seq ?_)
  refine W.draw 3 (by kernel_rfl) (by kernel_rfl) (by kernel_rfl) rfl ?_; refine .val [] (.loadPW rfl h2j (by repeat constructor) rfl) rfl rfl rfl rfl ?_; refine DJ.abs (A := fun m x => IsHouse m x r) [] (OpAbs.call rfl (fun m hm => houseL_any (hvj.le (by repeat (first | exact hm.1 | replace hm := hm.2))) hs)) rfl rfl rfl rfl ?_; refine .val [] (.loadPW rfl h3j (by repeat constructor) rfl) rfl rfl rfl rfl ?_; refine DJ.nil ?_
  rintro m34 v34 h34
  refine WL.abs (OpAbs.call rfl (fun m hm => courseL_any (hcj.le (by repeat (first | exact hm.1 | replace hm := hm.2))) (by omega) (by omega))) rfl rfl rfl ?_
  rintro m36 v36 h36
  refine .val (.cast (.call rfl (fun m hm => proveTruth6_any (h34.le (by repeat (first | exact hm.1 | replace hm := hm.2))) hs (h36.le (by repeat (first | exact hm.1 | replace hm := hm.2))))) (congrArg Value.bool hTB)) rfl rfl rfl ?_; refine .o rfl rfl rfl rfl ?_; refine WL.nil ?_
  refine Kseq.go (W.seq ?_)
  refine W.region ?_; refine .val (.loadPW rfl h2j (by repeat constructor) rfl) rfl rfl rfl ?_; refine .val (.call rfl (fun m hm => fault6L_any (hvj.le (by repeat (first | exact hm.1 | replace hm := hm.2))) hs)) rfl rfl rfl ?_; refine .o rfl rfl rfl rfl ?_; refine WL.nil ?_
  refine Kseq.go (W.seq (W.seq ?_))
  refine W.join fun mk hk => ?_
  have hvk := hvj.le (hk mj (by simp))
  have hck := hcj.le (hk mj (by simp))
  have h2k := h2j.le (hk mj (by simp))
  have h3k := h3j.le (hk mj (by simp))
  have h5k := IsInts.le h5 (hk _ (by simp))
  refine W.weaken [(2, .pointer (some ⟨b2, 0, none⟩)), (3, .pointer (some ⟨b3, 0, none⟩)), (5, v5), (6, vi PE), (7, .bool TB), (8, vi (fault6 r))] [mk] [] (by repeat (first | exact trivial | refine ⟨rfl, ?_⟩)) (by simp) (List.nil_sublist _) ?_
  by_cases hf : fault6 r = 0
  · have hV := fault6_zero.1 hf
    have hte := truth_eq hV q
    have hce := course_eq hV q
    rw [hTB] at hte
    rw [hf]
    refine W.region ?_; refine .val (.loadPW rfl h2k (by repeat constructor) rfl) rfl rfl rfl ?_; refine WL.abs (OpAbs.call rfl (fun m hm => houseL_any (hvk.le (by repeat (first | exact hm.1 | replace hm := hm.2))) hs)) rfl rfl rfl ?_
    rintro m41 v41 h41
    refine .val (.cast (.call rfl (fun m hm => checkHouse_any (h41.le (by repeat (first | exact hm.1 | replace hm := hm.2))) hs)) (congrArg (Value.int .i64) hf)) rfl rfl rfl ?_; refine .o rfl rfl rfl rfl ?_; refine .val (OpVal.neqF6 rfl rfl) rfl rfl rfl ?_
    iterate 3 refine .o rfl rfl rfl rfl ?_
    refine .val (OpVal.eqT6 rfl rfl) rfl rfl rfl ?_; refine .o rfl rfl rfl rfl ?_; refine .val (.loadPW rfl h2k (by repeat constructor) rfl) rfl rfl rfl ?_; refine .val (.loadPW rfl h3k (by repeat constructor) rfl) rfl rfl rfl ?_; refine .val (.cast (.call rfl (fun m hm => isTruthR6_any (hvk.le (by repeat (first | exact hm.1 | replace hm := hm.2))) hV hs (hck.le (by repeat (first | exact hm.1 | replace hm := hm.2))))) (congrArg Value.bool hte)) rfl rfl rfl ?_; refine .o rfl rfl rfl rfl ?_; refine .val (.cast (OpVal.neqB6 rfl rfl) (show _ = Value.bool false from congrArg Value.bool (by simp))) rfl rfl rfl ?_; refine .o rfl rfl rfl rfl ?_; refine WL.nil ?_; refine Kseq.go ?_; refine W.condF rfl rfl ?_
    refine W.skip (Kseq.go (W.seq (W.seq ?_)))
    cases hcb : courseB r q with
    | false =>
      have e : PE = 2 := by rw [← hPE]; unfold play6E; rw [if_neg (by simpa using hf), if_pos hcb]
      have e2 : LL.length = 0 := by rw [← hLL, hPE, e]; rfl
      refine W.region ?_; refine .o rfl rfl rfl rfl ?_; refine .val (OpVal.eqT6 rfl rfl) rfl rfl rfl ?_; refine .o rfl rfl rfl rfl ?_; refine .val (.loadPW rfl h2k (by repeat constructor) rfl) rfl rfl rfl ?_; refine .val (.loadPW rfl h3k (by repeat constructor) rfl) rfl rfl rfl ?_; refine .val (.cast (.call rfl (fun m hm => isCourseR_any (hvk.le (by repeat (first | exact hm.1 | replace hm := hm.2))) hs (hck.le (by repeat (first | exact hm.1 | replace hm := hm.2))))) (congrArg Value.bool (hce.trans hcb))) rfl rfl rfl ?_
      iterate 2 refine .o rfl rfl rfl rfl ?_
      refine WL.nil ?_; refine Kseq.go ?_; refine W.condT rfl rfl ?_; refine W.region ?_; refine .o rfl rfl rfl rfl ?_; refine WL.nil ?_
      refine Kseq.go (W.seq (W.seq ?_))
      refine W.region ?_; refine .o rfl rfl rfl rfl ?_; refine .val (.cast (.opv rfl) (show _ = Value.bool true from rfl)) rfl rfl rfl ?_; refine WL.nil ?_; refine Kseq.go ?_; refine W.condT rfl rfl ?_; refine W.seq ?_; refine W.region ?_
      iterate 2 refine .o rfl rfl rfl rfl ?_
      refine .val (.cast (.opv rfl) (show _ = Value.bool true from congrArg Value.bool (decide_eq_true e))) rfl rfl rfl ?_
      iterate 2 refine .o rfl rfl rfl rfl ?_
      refine .val (.cast (.len rfl h5k) (congrArg (fun x : Nat => vi (x : Int)) e2)) rfl rfl rfl ?_; refine .val (OpVal.eqT6 rfl rfl) rfl rfl rfl ?_
      iterate 2 refine .o rfl rfl rfl rfl ?_
      refine .val (.call rfl (fun m hm => awake6_any)) rfl rfl rfl ?_
      iterate 2 refine .o rfl rfl rfl rfl ?_
      refine WL.nil ?_; refine Kseq.go ?_
      refine W.ret ?_; refine Kseq.ret ?_; refine ⟨.inl rfl, [_], mk, ⟨.tmp rfl, trivial⟩, (by repeat constructor), ?_⟩
      rfl
    | true =>
      have e : PE = 0 := by rw [← hPE]; unfold play6E; rw [if_neg (by simpa using hf), if_neg (by simp [hcb])]
      have e2 : LL = bits (lastN r q []) := by rw [← hLL, hPE, if_pos e]
      subst e2
      obtain ⟨hq1, hq2⟩ := isCourse_fit (hce.trans hcb)
      have hL := lastN_lt hV hq1 []
      have hp60 : 2 ^ r.th ≤ 2 ^ 60 := Nat.pow_le_pow_right (by omega) (by have := hV.th.2.2; omega)
      refine W.region ?_; refine .o rfl rfl rfl rfl ?_; refine .val (OpVal.eqT6 rfl rfl) rfl rfl rfl ?_; refine .o rfl rfl rfl rfl ?_; refine .val (.loadPW rfl h2k (by repeat constructor) rfl) rfl rfl rfl ?_; refine .val (.loadPW rfl h3k (by repeat constructor) rfl) rfl rfl rfl ?_; refine .val (.cast (.call rfl (fun m hm => isCourseR_any (hvk.le (by repeat (first | exact hm.1 | replace hm := hm.2))) hs (hck.le (by repeat (first | exact hm.1 | replace hm := hm.2))))) (congrArg Value.bool (hce.trans hcb))) rfl rfl rfl ?_
      iterate 2 refine .o rfl rfl rfl rfl ?_
      refine WL.nil ?_; refine Kseq.go ?_; refine W.condF rfl rfl ?_
      refine W.skip (Kseq.go (W.seq (W.seq ?_)))
      refine W.region ?_; refine .o rfl rfl rfl rfl ?_; refine .val (OpVal.neqF6 rfl rfl) rfl rfl rfl ?_; refine WL.nil ?_; refine Kseq.go ?_; refine W.condF rfl rfl ?_
      refine W.skip (Kseq.go (W.seq ?_))
      refine W.region ?_; refine .o rfl rfl rfl rfl ?_; refine .val (.cast (.opv rfl) (show _ = Value.bool true from congrArg Value.bool (decide_eq_true e))) rfl rfl rfl ?_
      iterate 2 refine .o rfl rfl rfl rfl ?_
      refine .val (.loadPW rfl h2k (by repeat constructor) rfl) rfl rfl rfl ?_; refine .val (.loadPW rfl h3k (by repeat constructor) rfl) rfl rfl rfl ?_; refine .val (.call rfl (fun m hm => lastR_any (hvk.le (by repeat (first | exact hm.1 | replace hm := hm.2))) hV (hck.le (by repeat (first | exact hm.1 | replace hm := hm.2))) hq1 hq2 (IsBoils.nil m) (by simp))) rfl rfl rfl ?_; refine WL.abs (OpAbs.call rfl (fun m hm => bits_any (by omega))) rfl rfl rfl ?_
      rintro m84 v84 h84
      refine .val (.call rfl (fun m hm => same6_eq (h5k.le (by repeat (first | exact hm.1 | replace hm := hm.2))) (h84.le (by repeat (first | exact hm.1 | replace hm := hm.2))))) rfl rfl rfl ?_
      iterate 2 refine .o rfl rfl rfl rfl ?_
      refine .val (.call rfl (fun m hm => awake6_any)) rfl rfl rfl ?_
      iterate 2 refine .o rfl rfl rfl rfl ?_
      refine WL.nil ?_; refine Kseq.go ?_
      refine W.ret ?_; refine ⟨.inl rfl, [_], mk, ⟨.tmp rfl, trivial⟩, (by repeat constructor), ?_⟩
      rfl
  · have e : PE = fault6 r := by rw [← hPE]; unfold play6E; rw [if_pos hf]
    have e2 : LL.length = 0 := by rw [← hLL, hPE, e, if_neg hf]; rfl
    have e3 : TB = false := by rw [← hTB]; unfold truth6B; rw [decide_eq_false hf]; rfl
    subst e3
    refine W.region ?_; refine .val (.loadPW rfl h2k (by repeat constructor) rfl) rfl rfl rfl ?_; refine WL.abs (OpAbs.call rfl (fun m hm => houseL_any (hvk.le (by repeat (first | exact hm.1 | replace hm := hm.2))) hs)) rfl rfl rfl ?_
    rintro m41 v41 h41
    refine .val (.call rfl (fun m hm => checkHouse_any (h41.le (by repeat (first | exact hm.1 | replace hm := hm.2))) hs)) rfl rfl rfl ?_; refine .o rfl rfl rfl rfl ?_; refine .val (OpVal.neqF6 rfl rfl) rfl rfl rfl ?_
    iterate 3 refine .o rfl rfl rfl rfl ?_
    refine .val (OpVal.eqF6 rfl rfl hf) rfl rfl rfl ?_; refine .o rfl rfl rfl rfl ?_; refine WL.pass rfl rfl rfl ?_; refine WL.pass rfl rfl rfl ?_; refine WL.pass rfl rfl rfl ?_; refine .o rfl rfl rfl rfl ?_; refine .val (.cast (OpVal.neqB6 rfl rfl) (show _ = Value.bool false from rfl)) rfl rfl rfl ?_; refine .o rfl rfl rfl rfl ?_; refine WL.nil ?_; refine Kseq.go ?_; refine W.condF rfl rfl ?_
    refine W.skip (Kseq.go (W.seq (W.seq ?_)))
    refine W.region ?_; refine .o rfl rfl rfl rfl ?_; refine .val (OpVal.eqF6 rfl rfl hf) rfl rfl rfl ?_; refine .o rfl rfl rfl rfl ?_; refine WL.pass rfl rfl rfl ?_; refine WL.pass rfl rfl rfl ?_; refine WL.pass rfl rfl rfl ?_; refine WL.pass rfl rfl rfl ?_; refine .o rfl rfl rfl rfl ?_; refine WL.nil ?_; refine Kseq.go ?_; refine W.condF rfl rfl ?_
    refine W.skip (Kseq.go (W.seq (W.seq ?_)))
    refine W.region ?_; refine .o rfl rfl rfl rfl ?_; refine .val (.cast (.opv rfl) (show _ = Value.bool true from congrArg (fun b => Value.bool (!b)) (decide_eq_false hf))) rfl rfl rfl ?_; refine WL.nil ?_; refine Kseq.go ?_; refine W.condT rfl rfl ?_; refine W.seq ?_; refine W.region ?_
    iterate 2 refine .o rfl rfl rfl rfl ?_
    refine .val (.cast (.opv rfl) (show _ = Value.bool true from congrArg Value.bool (decide_eq_true e))) rfl rfl rfl ?_
    iterate 2 refine .o rfl rfl rfl rfl ?_
    refine .val (.cast (.len rfl h5k) (congrArg (fun x : Nat => vi (x : Int)) e2)) rfl rfl rfl ?_; refine .val (OpVal.eqT6 rfl rfl) rfl rfl rfl ?_
    iterate 2 refine .o rfl rfl rfl rfl ?_
    refine .val (.call rfl (fun m hm => awake6_any)) rfl rfl rfl ?_
    iterate 2 refine .o rfl rfl rfl rfl ?_
    refine WL.nil ?_; refine Kseq.go ?_
    refine W.ret ?_; refine Kseq.ret ?_; refine ⟨.inl rfl, [_], mk, ⟨.tmp rfl, trivial⟩, (by repeat constructor), ?_⟩
    rfl
end Go.Proofs.YtdnbkjgbehakpaaGreat
