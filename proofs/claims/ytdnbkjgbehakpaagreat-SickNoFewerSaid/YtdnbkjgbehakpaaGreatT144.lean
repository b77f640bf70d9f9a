/- The statements' functions of chapter 6: word, Listed, Ordered; SickNoFewer. -/
import Derived.Test.YtdnbkjgbehakpaaGreatP39
import Derived.Test.YtdnbkjgbehakpaaGreatT36
import Derived.Test.YtdnbkjgbehakpaaGreatT137
import Derived.Test.YtdnbkjgbehakpaaGreatT134
namespace Go.Proofs.YtdnbkjgbehakpaaGreat
open Go Go.Eng Go.RowKit

/-- word -/
theorem word6_any {h : Mem} {wv : Value} {ws : List Nat} (k : Nat) (hw : IsU16s h wv ws) : FnV Tryz.prog 123 #[wv, vi k] h (vi (wordAt ws k)) := by
  obtain ⟨hv, hb⟩ := hw
  have hlen := IsArr.len hv
  unfold maxLen at hlen
  refine FnR.val ?_
  refine FnR.of_W (n := 16) Tryz.func123 rfl rfl (Nat.le_of_ble_eq_true rfl) fun c hr hD hF => ?_
  refine W.seq ?_; refine W.region ?_; refine .o rfl rfl rfl rfl ?_; refine WL.nil ?_
  refine Kseq.go (W.seq (W.seq ?_))
  refine W.region ?_; refine .o rfl rfl rfl rfl ?_; refine .val (.len rfl hv) rfl rfl rfl ?_; refine .o rfl rfl rfl rfl ?_; refine WL.nil ?_; refine Kseq.go ?_
  refine W.condD rfl rfl (fun he => ?_) (fun hne => ?_)
  · refine W.seq ?_
    refine W.region ?_; refine .o rfl rfl rfl rfl ?_; refine WL.nil ?_; refine Kseq.go ?_
    refine W.ret ?_; refine Kseq.ret ?_; refine ⟨.inl rfl, [_], h, ⟨.tmp rfl, trivial⟩, (by repeat constructor), ?_⟩
    unfold wordAt
    rw [if_pos (by omega)]; rfl
  · have hk : k % ws.length < ws.length := Nat.mod_lt _ (by omega)
    have hx : ws.getD (k % ws.length) 0 < 65536 := by
      rw [List.getD_eq_getElem?_getD, List.getElem?_eq_getElem hk]
      exact hb _ (List.getElem_mem _)
    refine W.skip (Kseq.go (W.seq ?_))
    refine W.region ?_
    iterate 3 refine .o rfl rfl rfl rfl ?_
    refine .val (.len rfl hv) rfl rfl rfl ?_; refine .val (.cast (.rem rfl rfl (by omega) (by omega)) (show vi ((k : Int) % (ws.length : Int)) = vi ((k % ws.length : Nat) : Int) from rfl)) rfl rfl rfl ?_; refine .val (.indexAddrN rfl rfl hv (by omega)) rfl rfl rfl ?_; refine .val (.loadE rfl hv (by repeat constructor) (by omega) (by omega)) rfl rfl rfl ?_; refine .val (.conv rfl (i64_in (by omega) (by omega))) rfl rfl rfl ?_; refine .o rfl rfl rfl rfl ?_; refine WL.nil ?_; refine Kseq.go ?_
    refine W.ret ?_; refine ⟨.inl rfl, [_], h, ⟨.tmp rfl, trivial⟩, (by repeat constructor), ?_⟩
    unfold wordAt
    rw [if_neg (by omega)]; rfl
/-- Listed -/
theorem listed6_any {h : Mem} {v : Value} {r : House} {b : Nat} (hv : IsHouse h v r) (hV : ValidH r) (hb : b < 65536) : FnR Tryz.prog 71 #[v, vi (b : Int)] h (fun m q => IsInts m q (bits (b &&& (2 ^ r.th - 1)))) := by
  have hv' := hv
  obtain ⟨wv, pv, kv, tv, bv, sv, f, rfl, hA⟩ := hv
  have hth := hV.thW
  have h10 := hV.th
  have hp10 : 2 ^ r.th ≤ 2 ^ 10 := Nat.pow_le_pow_right (by omega) h10.2.2
  have hpo : 0 < 2 ^ r.th := Nat.pow_pos (by omega)
  have hle : b &&& (2 ^ r.th - 1) ≤ b := Nat.and_le_left
  refine FnR.of_W (n := 13) Tryz.func71 rfl rfl (Nat.le_of_ble_eq_true rfl) fun c hr hD hF => ?_
  refine W.seq ?_; refine W.region ?_
  refine WL.box rfl rfl rfl rfl (fun b2 => ?_)
  refine .o rfl rfl rfl rfl ?_; refine WL.nil ?_
  refine Kseq.go (W.seq ?_)
  refine W.region ?_; refine .o rfl rfl rfl rfl ?_; refine .val (.loadBW rfl (.head _) rfl) rfl rfl rfl ?_; refine .val (.cast (.call rfl (fun m hm => thingsR_any (hv'.le (by repeat (first | exact hm.1 | replace hm := hm.2))))) (congrArg (Value.int .i64) hth)) rfl rfl rfl ?_; refine .val (.conv rfl (wrap_u64 (by omega) (by omega))) rfl rfl rfl ?_
  refine .val ((OpVal.shl rfl rfl (by omega) (by rw [pow_cast]; omega) (by rw [pow_cast]; omega)).cast (congrArg (Value.int .i64) (pow_cast r.th))) rfl rfl rfl ?_
  refine .val (.cast (.sub rfl rfl (by omega) (by omega)) (congrArg (Value.int .i64) (show ((2 ^ r.th : Nat) : Int) - 1 = ((2 ^ r.th - 1 : Nat) : Int) by omega))) rfl rfl rfl ?_; refine .val (.band rfl rfl (by omega) (by omega)) rfl rfl rfl ?_; refine WL.abs (OpAbs.call rfl (fun m hm => bits_any (by omega))) rfl rfl rfl ?_
  rintro m12 v12 h12
  refine .o rfl rfl rfl rfl ?_; refine WL.nil ?_; refine Kseq.go ?_
  refine W.ret ?_; refine ⟨.inl rfl, [_], m12, ⟨.tmp rfl, trivial⟩, (by repeat constructor), ?_⟩
  exact h12
/-- Ordered -/
theorem ordered6_any {h : Mem} {v wv0 : Value} {r : House} {k : Nat} {ws : List Nat} (hv : IsHouse h v r) (hV : ValidH r) (hk : (k : Int) ≤ r.last) (hw : IsU16s h wv0 ws) : FnR Tryz.prog 72 #[v, vi (k : Int), wv0] h (fun m q => ∃ l, IsInts m q l ∧ l.length ≤ 3 ∧ Below r.th l) := by
  have hv' := hv
  obtain ⟨wv, pv, kv, tv, bv, sv, f, rfl, hA⟩ := hv
  have hth := hV.thW
  have h10 := hV.th
  have hla := hV.last
  have hw0 : wordAt ws 0 % 4 ≤ 3 := by omega
  refine FnR.of_W (n := 40) Tryz.func72 rfl rfl (Nat.le_of_ble_eq_true rfl) fun c hr hD hF => ?_
  refine W.seq ?_; refine W.region ?_
  refine WL.box rfl rfl rfl rfl (fun b3 => ?_)
  refine .o rfl rfl rfl rfl ?_; refine WL.nil ?_
  refine Kseq.go (W.seq ?_)
  refine W.freezeBox (.head _) (fun b hb => (hF b hb).elim) fun m3 h3 => ?_
  refine W.region ?_; refine .o rfl rfl rfl rfl ?_; refine WL.nil ?_
  refine Kseq.go (W.seq (W.seq ?_))
  refine W.region ?_; refine .o rfl rfl rfl rfl ?_; refine WL.nil ?_
  refine Kseq.go (W.block ?_)
  refine W.nilRow 3 1 ?_; refine W.loop (σ := Nat × Value × List Int) (fun s => [(1, vi (k : Int)), (2, wv0), (3, .pointer (some ⟨b3, 0, none⟩)), (7, s.2.1), (8, vi (s.1 : Int))]) (fun _ => [m3, h]) (fun s => [ir 3 s.2.1 s.2.2]) (fun s => s.1 ≤ 3 ∧ s.2.2.length = s.1 ∧ Below r.th s.2.2) (fun s => 3 - s.1) (0, .slice none 0 0, []) ⟨rfl, rfl, rfl, rfl, rfl, trivial⟩ (by simp) (.refl _) ⟨Nat.zero_le _, rfl, fun _ hx => by cases hx⟩ ?_
  rintro ⟨i, a, l⟩ ⟨hi, hll, hB⟩
  dsimp only at hi hll hB ⊢
  refine W.seq (W.seq ?_)
  refine W.toS [(1, vi (k : Int)), (2, wv0), (3, .pointer (some ⟨b3, 0, none⟩)), (7, a), (8, vi (i : Int)), (26, .bool (decide (i < wordAt ws 0 % 4) && (decide ((k : Int) + i ≤ r.last) && decide (0 < r.th))))] ?_ ?_
  · skip
    refine W.region ?_
    iterate 2 refine .o rfl rfl rfl rfl ?_
    refine .val (.call (vs := [wv0, vi 0]) rfl (fun m hm => word6_any 0 (hw.le (by repeat (first | exact hm.1 | replace hm := hm.2))))) rfl rfl rfl ?_; refine .val (.cast (.rem rfl rfl (by omega) (by omega)) (show _ = vi ((wordAt ws 0 % 4 : Nat) : Int) from rfl)) rfl rfl rfl ?_; refine .val (.cast (.opv rfl) (congrArg Value.bool (show _ = decide (i < wordAt ws 0 % 4) from decide_eq_decide.2 (by omega)))) rfl rfl rfl ?_; refine .o rfl rfl rfl rfl ?_
    refine WL.split rfl rfl (fun g14 => ?_) (fun g14 => ?_)
    · refine .o rfl rfl rfl rfl ?_
      refine .o rfl rfl rfl rfl ?_; refine .val (.add rfl rfl (by omega) (by omega)) rfl rfl rfl ?_; refine .val (.fieldAddrB rfl) rfl rfl rfl ?_; refine .val (.loadP rfl h3 (by repeat constructor) rfl) rfl rfl rfl ?_
      iterate 3 refine .o rfl rfl rfl rfl ?_
      refine WL.split rfl rfl (fun g22 => ?_) (fun g22 => ?_)
      · refine .val (.loadPW rfl h3 (by repeat constructor) rfl) rfl rfl rfl ?_
        refine .val (.cast (.call rfl (fun m hm => thingsR_any (hv'.le (by repeat (first | exact hm.1 | replace hm := hm.2))))) (congrArg (Value.int .i64) hth)) rfl rfl rfl ?_; refine .val (.cast (.opv rfl) (congrArg Value.bool (show _ = decide (0 < r.th) from decide_eq_decide.2 (by omega)))) rfl rfl rfl ?_; refine .o rfl rfl rfl rfl ?_; refine WL.nil ?_
        exact Keff.intro ⟨rfl, rfl, rfl, rfl, rfl, congrArg (fun b => some (Value.bool b)) (by first | exact (by first | (simp [-List.getD_eq_getElem?_getD]; done) | (simp_all [-List.getD_eq_getElem?_getD]; done) | (simp [-List.getD_eq_getElem?_getD]; omega) | (rw [Bool.eq_iff_iff]; simp [-List.getD_eq_getElem?_getD]; omega) | (simp [-List.getD_eq_getElem?_getD] at *; omega)) | (simp [*]; done) | (simp_all; done)), trivial⟩ (by simp) (by repeat (first | exact List.Sublist.refl _ | refine List.Sublist.cons _ ?_ | refine List.Sublist.cons_cons _ ?_))
      · refine WL.pass rfl rfl rfl ?_
        refine WL.pass rfl rfl rfl ?_; refine WL.pass rfl rfl rfl ?_; refine .o rfl rfl rfl rfl ?_; refine WL.nil ?_
        exact Keff.intro ⟨rfl, rfl, rfl, rfl, rfl, congrArg (fun b => some (Value.bool b)) (by first | exact (by first | (simp [-List.getD_eq_getElem?_getD]; done) | (simp_all [-List.getD_eq_getElem?_getD]; done) | (simp [-List.getD_eq_getElem?_getD]; omega) | (rw [Bool.eq_iff_iff]; simp [-List.getD_eq_getElem?_getD]; omega) | (simp [-List.getD_eq_getElem?_getD] at *; omega)) | (simp [*]; done) | (simp_all; done)), trivial⟩ (by simp) (by repeat (first | exact List.Sublist.refl _ | refine List.Sublist.cons _ ?_ | refine List.Sublist.cons_cons _ ?_))
    · refine WL.pass rfl rfl rfl ?_
      refine WL.pass rfl rfl rfl ?_; refine WL.pass rfl rfl rfl ?_; refine WL.pass rfl rfl rfl ?_; refine WL.pass rfl rfl rfl ?_; refine WL.pass rfl rfl rfl ?_
      iterate 2 refine .o rfl rfl rfl rfl ?_
      refine WL.pass rfl rfl rfl ?_; refine WL.pass rfl rfl rfl ?_; refine WL.pass rfl rfl rfl ?_; refine .o rfl rfl rfl rfl ?_; refine WL.nil ?_
      exact Keff.intro ⟨rfl, rfl, rfl, rfl, rfl, congrArg (fun b => some (Value.bool b)) (by first | exact (by first | (simp [-List.getD_eq_getElem?_getD]; done) | (simp_all [-List.getD_eq_getElem?_getD]; done) | (simp [-List.getD_eq_getElem?_getD]; omega) | (rw [Bool.eq_iff_iff]; simp [-List.getD_eq_getElem?_getD]; omega) | (simp [-List.getD_eq_getElem?_getD] at *; omega)) | (simp [*]; done) | (simp_all; done)), trivial⟩ (by simp) (by repeat (first | exact List.Sublist.refl _ | refine List.Sublist.cons _ ?_ | refine List.Sublist.cons_cons _ ?_))
  refine Kseq.go ?_
  refine W.cond rfl rfl (fun hb => ?_) (fun hb => ?_)
  · simp only [Bool.and_eq_true, decide_eq_true_eq] at hb
    obtain ⟨hb1, hb2, hb3⟩ := hb
    have hxm : wordAt ws (i + 1) % r.th < r.th := Nat.mod_lt _ hb3
    refine W.skip (Kseq.go (W.seq (W.block ?_)))
    refine W.draw 9 (by kernel_rfl) (by kernel_rfl) (by kernel_rfl) rfl ?_; refine .val [] (.opv rfl) rfl rfl rfl rfl ?_; refine .val [] (.opv rfl) rfl rfl rfl rfl ?_; refine .val [] (.opv rfl) rfl rfl rfl rfl ?_; refine .val [] (.incr rfl (by omega)) rfl rfl rfl rfl ?_; refine .val [] (.call rfl (fun m hm => word6_any (i + 1) (hw.le (by repeat (first | exact hm.1 | replace hm := hm.2))))) rfl rfl rfl rfl ?_; refine .val [] (.loadPW rfl h3 (by repeat constructor) rfl) rfl rfl rfl rfl ?_; refine .val [] (.cast (.call rfl (fun m hm => thingsR_any (hv'.le (by repeat (first | exact hm.1 | replace hm := hm.2))))) (congrArg (Value.int .i64) hth)) rfl rfl rfl rfl ?_; refine .val [] (.cast (.rem rfl rfl (by omega) (by omega)) (show _ = vi ((wordAt ws (i + 1) % r.th : Nat) : Int) from rfl)) rfl rfl rfl rfl ?_; refine DJ.abs (A := fun m v => IsCells m 1 v 1 [vi ((wordAt ws (i + 1) % r.th : Nat) : Int)]) [] (OpAbs.litI rfl) rfl rfl rfl rfl ?_
    refine DJ.nil ?_
    rintro m37 v37 h37
    refine WL.appInt rfl (fun _ => (.head _)) rfl (by assumption) (by repeat constructor) (by omega) rfl rfl rfl ?_
    intro a38 cp38
    refine .o rfl rfl rfl rfl ?_; refine WL.nil ?_
    refine Kblock.normal (Kseq.go ?_)
    refine W.region ?_; refine .o rfl rfl rfl rfl ?_; refine .val (.incr rfl (by omega)) rfl rfl rfl ?_; refine .o rfl rfl rfl rfl ?_; refine WL.nil ?_
    exact Kloop.next (i + 1, _, l ++ [((wordAt ws (i + 1) % r.th : Nat) : Int)]) ⟨by dsimp only; omega, by dsimp only; rw [List.length_append]; simp; omega, fun x hx => by rcases List.mem_append.1 hx with h1 | h1; exact hB x h1; (rw [List.mem_singleton] at h1; omega)⟩ (by dsimp only; omega) ⟨rfl, rfl, rfl, rfl, rfl, trivial⟩ (by simp) (.refl _)
  · refine W.exit (Kseq.exit (Kloop.exit (Kblock.here (Kseq.go (W.seq ?_)))))
    refine W.freezeInts (.head _) (fun b hb => (hF b hb).elim) fun mr hmr => ?_
    refine W.region ?_
    iterate 2 refine .o rfl rfl rfl rfl ?_
    refine WL.nil ?_; refine Kseq.go ?_
    refine W.ret ?_; refine ⟨.inl rfl, [_], mr, ⟨.tmp rfl, trivial⟩, (by repeat constructor), ?_⟩
    exact ⟨l, hmr, by omega, hB⟩
/-- SickNoFewer -/
theorem sickNoFewer_any {h : Mem} {v wv0 : Value} {r : House} {n b : Nat} {ws : List Nat} (hv : IsHouse h v r) (hn : n < 256) (hb : b < 65536) (hw : IsU16s h wv0 ws) : FnV Tryz.prog 17 #[v, .int .u8 n, .int .u16 b, wv0] h (.bool true) := by
  have hv' := hv
  obtain ⟨wv, pv, kv, tv, bv, sv, f, rfl, hA⟩ := hv
  refine FnR.val ?_
  refine FnR.of_W (n := 131) Tryz.func17 rfl rfl (Nat.le_of_ble_eq_true rfl) fun c hr hD hF => ?_
  refine W.seq ?_; refine W.region ?_
  refine WL.box rfl rfl rfl rfl (fun b4 => ?_)
  refine .o rfl rfl rfl rfl ?_; refine WL.nil ?_
  refine Kseq.go (W.seq (W.seq ?_))
  refine W.freezeBox (.head _) (fun b hb => (hF b hb).elim) fun m4 h4 => ?_
  cases hR : ready6 r with
  | false =>
    refine W.region ?_; refine .val (.loadPW rfl h4 (by repeat constructor) rfl) rfl rfl rfl ?_; refine .val (.cast (.call rfl (fun m hm => ready6_any (hv'.le (by repeat (first | exact hm.1 | replace hm := hm.2))))) (congrArg Value.bool hR)) rfl rfl rfl ?_; refine .o rfl rfl rfl rfl ?_; refine WL.nil ?_; refine Kseq.go ?_; refine W.condT rfl rfl ?_; refine W.seq ?_; refine W.region ?_; refine .val (.call rfl (fun m hm => awake6_any)) rfl rfl rfl ?_; refine .o rfl rfl rfl rfl ?_; refine WL.nil ?_; refine Kseq.go ?_
    refine W.ret ?_; refine Kseq.ret ?_; refine ⟨.inl rfl, [_], h, ⟨.tmp rfl, trivial⟩, (by repeat constructor), ?_⟩
    rfl
  | true =>
  obtain ⟨hV, hs, hf0, _⟩ := ready6_iff hR
  have hla := hV.last
  obtain ⟨L, hL⟩ : ∃ L : Nat, r.last = (L : Int) := ⟨r.last.toNat, by omega⟩
  have hk : n % (L + 1) < L + 1 := Nat.mod_lt _ (by omega)
  refine W.region ?_; refine .val (.loadPW rfl h4 (by repeat constructor) rfl) rfl rfl rfl ?_; refine .val (.cast (.call rfl (fun m hm => ready6_any (hv'.le (by repeat (first | exact hm.1 | replace hm := hm.2))))) (congrArg Value.bool hR)) rfl rfl rfl ?_; refine .o rfl rfl rfl rfl ?_; refine WL.nil ?_; refine Kseq.go ?_; refine W.condF rfl rfl ?_
  refine W.skip (Kseq.go (W.seq ?_))
  refine W.region ?_; refine .o rfl rfl rfl rfl ?_; refine .val (.conv rfl (i64_in (by omega) (by omega))) rfl rfl rfl ?_; refine .val (.fieldAddrB rfl) rfl rfl rfl ?_; refine .val (.cast (.loadP rfl h4 (by repeat constructor) rfl) (congrArg (Value.int .i64) hL)) rfl rfl rfl ?_; refine .val (.cast (.add rfl rfl (by omega) (by omega)) (show _ = vi ((L + 1 : Nat) : Int) from rfl)) rfl rfl rfl ?_; refine .val (.cast (.rem rfl rfl (by omega) (by omega)) (show vi ((n : Int) % ((L + 1 : Nat) : Int)) = vi ((n % (L + 1) : Nat) : Int) from rfl)) rfl rfl rfl ?_; refine .o rfl rfl rfl rfl ?_; refine WL.nil ?_
  refine Kseq.go (W.seq ?_)
  generalize n % (L + 1) = k at *
  have hkl : (k : Int) ≤ r.last := by omega
  have hih : isHour r (k : Int) = true := isHour_iff.2 ⟨Int.natCast_nonneg _, hkl⟩
  have hO := ordE_eq hV hkl
  have hE := ask6E_with hV
  have h10 := hV.th.2.2
  obtain ⟨x, hx1, hx2⟩ := boil6_least hV (hour := k) hkl
  have hxl : x.length ≤ r.th := inc_zero_len hx2.inc
  refine W.region ?_; refine .val (.loadPW rfl h4 (by repeat constructor) rfl) rfl rfl rfl ?_; refine WL.abs (OpAbs.call rfl (fun m hm => houseL_any (hv'.le (by repeat (first | exact hm.1 | replace hm := hm.2))) hs)) rfl rfl rfl ?_
  rintro m30 v30 h30
  refine .o rfl rfl rfl rfl ?_; refine WL.abs (OpAbs.call rfl (fun m hm => boil6_any (k : Int) (h30.le (by repeat (first | exact hm.1 | replace hm := hm.2))) hs)) rfl rfl rfl ?_
  rintro m32 _ ⟨xv, rfl, hxa, hxb⟩
  rw [hih] at hxa hxb
  rw [hih]
  iterate 5 refine .o rfl rfl rfl rfl ?_
  refine WL.nil ?_
  refine Kseq.go (W.seq ?_)
  refine W.region ?_; refine .val (.loadPW rfl h4 (by repeat constructor) rfl) rfl rfl rfl ?_; refine WL.abs (OpAbs.call rfl (fun m hm => houseL_any (hv'.le (by repeat (first | exact hm.1 | replace hm := hm.2))) hs)) rfl rfl rfl ?_
  rintro m37 v37 h37
  refine .o rfl rfl rfl rfl ?_; refine WL.abs (OpAbs.call rfl (fun m hm => order6_any (k : Int) (h37.le (by repeat (first | exact hm.1 | replace hm := hm.2))) hs)) rfl rfl rfl ?_
  rintro m39 _ ⟨yv, rfl, hya, hyb⟩
  iterate 5 refine .o rfl rfl rfl rfl ?_
  refine WL.nil ?_
  refine Kseq.go (W.seq ?_)
  obtain ⟨A, hAd⟩ : ∃ A, bits (b &&& (2 ^ r.th - 1)) = A := ⟨_, rfl⟩
  have hAlt : b &&& (2 ^ r.th - 1) < 2 ^ r.th := by
    have h1 : b &&& (2 ^ r.th - 1) ≤ 2 ^ r.th - 1 := Nat.and_le_right
    have h2 : 0 < 2 ^ r.th := Nat.pow_pos (by omega)
    omega
  have hAi : Inc r.th 0 A := by rw [← hAd]; exact bits_inc6 (by omega) hAlt
  have hAl : A.length ≤ r.th := inc_zero_len hAi
  refine W.draw 7 (by kernel_rfl) (by kernel_rfl) (by kernel_rfl) rfl ?_; refine .val [] (.loadPW rfl h4 (by repeat constructor) rfl) rfl rfl rfl rfl ?_; refine .val [] (.opv rfl) rfl rfl rfl rfl ?_; refine .val [] (.conv rfl (i64_in (by omega) (by omega))) rfl rfl rfl rfl ?_; refine DJ.abs (A := fun m q => IsInts m q A) [] (OpAbs.mono (OpAbs.call rfl (fun m hm => listed6_any (hv'.le (by repeat (first | exact hm.1 | replace hm := hm.2))) hV hb)) (fun m q hq => hAd ▸ hq)) rfl rfl rfl rfl ?_; refine .val [] (.loadPW rfl h4 (by repeat constructor) rfl) rfl rfl rfl rfl ?_; refine .val [] (.opv rfl) rfl rfl rfl rfl ?_; refine .val [] (.opv rfl) rfl rfl rfl rfl ?_; refine DJ.nil ?_
  rintro m45 v45 h45
  refine WL.abs (OpAbs.call rfl (fun m hm => ordered6_any (hv'.le (by repeat (first | exact hm.1 | replace hm := hm.2))) hV hkl (hw.le (by repeat (first | exact hm.1 | replace hm := hm.2))))) rfl rfl rfl ?_
  rintro m49 v49 h49
  iterate 2 refine .o rfl rfl rfl rfl ?_
  refine WL.nil ?_
  refine Kseq.go (W.seq ?_)
  obtain ⟨B, hBI, hBl, hBb⟩ := h49
  obtain ⟨P1, hP1⟩ : ∃ P1, proveBoilB r k A 99 = P1 := ⟨_, rfl⟩
  obtain ⟨P2, hP2⟩ : ∃ P2, proveOrdB r k B 99 = P2 := ⟨_, rfl⟩
  refine W.draw 11 (by kernel_rfl) (by kernel_rfl) (by kernel_rfl) rfl ?_; refine .val [] (.loadPW rfl h4 (by repeat constructor) rfl) rfl rfl rfl rfl ?_; refine DJ.abs (A := fun m q => IsHouse m q r) [] (OpAbs.call rfl (fun m hm => houseL_any (hv'.le (by repeat (first | exact hm.1 | replace hm := hm.2))) hs)) rfl rfl rfl rfl ?_; refine .val [] (.opv rfl) rfl rfl rfl rfl ?_; refine .val [] (.opv rfl) rfl rfl rfl rfl ?_; refine DJ.abs (A := fun m q => IsInts m q A) [] (OpAbs.call rfl (fun m hm => list6_any (h45.le (by repeat (first | exact hm.1 | replace hm := hm.2))) (by omega))) rfl rfl rfl rfl ?_
  refine DJ.val [(54, fun m q => IsInts m q A), (51, fun m q => IsHouse m q r)] (fun m54 v54 h54 => fun m51 v51 h51 => OpVal.cast (.call rfl (fun m hm => proveBoil_any 99 (h51.le (by repeat (first | exact hm.1 | replace hm := hm.2))) hs (h54.le (by repeat (first | exact hm.1 | replace hm := hm.2))) (by omega))) (congrArg Value.bool hP1)) rfl rfl rfl rfl ?_ (hG := ⟨(by repeat constructor), rfl, (by repeat constructor), rfl, trivial⟩)
  refine .val [] (.loadPW rfl h4 (by repeat constructor) rfl) rfl rfl rfl rfl ?_; refine DJ.abs (A := fun m q => IsHouse m q r) [] (OpAbs.call rfl (fun m hm => houseL_any (hv'.le (by repeat (first | exact hm.1 | replace hm := hm.2))) hs)) rfl rfl rfl rfl ?_; refine .val [] (.opv rfl) rfl rfl rfl rfl ?_; refine .val [] (.opv rfl) rfl rfl rfl rfl ?_; refine DJ.abs (A := fun m q => IsInts m q B) [] (OpAbs.call rfl (fun m hm => list6_any (hBI.le (by repeat (first | exact hm.1 | replace hm := hm.2))) (by omega))) rfl rfl rfl rfl ?_; refine DJ.nil ?_
  rintro m60 v60 h60
  rintro m57 v57 h57
  rintro m54 v54 h54
  rintro m51 v51 h51
  refine .val (.cast (.call rfl (fun m hm => proveOrder_any 99 (h57.le (by repeat (first | exact hm.1 | replace hm := hm.2))) hs (h60.le (by repeat (first | exact hm.1 | replace hm := hm.2))) (by omega))) (congrArg Value.bool hP2)) rfl rfl rfl ?_
  iterate 2 refine .o rfl rfl rfl rfl ?_
  refine WL.nil ?_
  refine Kseq.go (W.seq (W.seq ?_))
  by_cases hne : ask6 r = []
  · rw [if_pos hne] at hE hO
    obtain ⟨hn1, hn2⟩ := prove_none hV hne (hour := (k : Int)) (a := A) (b := B) (m := 99) (n := 99)
    rw [hP1] at hn1
    rw [hP2] at hn2
    subst hn1 hn2
    refine W.region ?_; refine .o rfl rfl rfl rfl ?_
    refine .val (.cast (.opv rfl) (show _ = Value.bool true from congrArg (fun b => Value.bool (!b)) (decide_eq_false (by rw [hE]; decide)))) rfl rfl rfl ?_
    refine WL.nil ?_; refine Kseq.go ?_; refine W.condT rfl rfl ?_; refine W.seq ?_; refine W.region ?_; refine .o rfl rfl rfl rfl ?_; refine .val (.cast (.opv rfl) (show _ = Value.bool true from congrArg Value.bool (decide_eq_true hE))) rfl rfl rfl ?_
    iterate 3 refine .o rfl rfl rfl rfl ?_
    refine .val (.cast (.opv rfl) (show _ = Value.bool true from congrArg Value.bool (decide_eq_true (hO.trans hE.symm)))) rfl rfl rfl ?_
    iterate 10 refine .o rfl rfl rfl rfl ?_
    refine .val (.call rfl (fun m hm => awake6_any)) rfl rfl rfl ?_
    iterate 2 refine .o rfl rfl rfl rfl ?_
    refine WL.nil ?_; refine Kseq.go ?_
    refine W.ret ?_; refine Kseq.ret ?_; refine ⟨.inl rfl, [_], h, ⟨.tmp rfl, trivial⟩, (by repeat constructor), ?_⟩
    rfl
  rw [if_neg hne] at hE hO
  have hxI := hxb hE x hx1
  have hd1 := fewest_does hV hne hkl hx2
  refine W.region ?_; refine .o rfl rfl rfl rfl ?_; refine .val (.cast (.opv rfl) (show _ = Value.bool false from congrArg (fun b => Value.bool (!b)) (decide_eq_true hE))) rfl rfl rfl ?_; refine WL.nil ?_; refine Kseq.go ?_; refine W.condF rfl rfl ?_
  refine W.skip (Kseq.go (W.seq (W.seq ?_)))
  refine W.toS [(4, .pointer (some ⟨b4, 0, none⟩)), (9, vi (k : Int)), (12, yv), (13, vi (ordE r k)), (15, v49), (17, .bool P2), (98, .bool false)] ?_ ?_
  · cases P1 with
    | false =>
      refine W.region ?_; refine .val (.loadPW rfl h4 (by repeat constructor) rfl) rfl rfl rfl ?_; refine WL.abs (OpAbs.call rfl (fun m hm => houseL_any (hv'.le (by repeat (first | exact hm.1 | replace hm := hm.2))) hs)) rfl rfl rfl ?_
      rintro m83 v83 h83
      iterate 2 refine .o rfl rfl rfl rfl ?_
      refine WL.abs (OpAbs.call rfl (fun m hm => list6_any (hxI.le (by repeat (first | exact hm.1 | replace hm := hm.2))) (by omega))) rfl rfl rfl ?_
      rintro m86 v86 h86
      refine .o rfl rfl rfl rfl ?_; refine .val (.len rfl hxI) rfl rfl rfl ?_; refine .val (.cast (.call rfl (fun m hm => proveBoil_any _ (h83.le (by repeat (first | exact hm.1 | replace hm := hm.2))) hs (h86.le (by repeat (first | exact hm.1 | replace hm := hm.2))) (by omega))) (congrArg Value.bool hd1)) rfl rfl rfl ?_
      iterate 4 refine .o rfl rfl rfl rfl ?_
      refine WL.pass rfl rfl rfl ?_; refine WL.pass rfl rfl rfl ?_; refine WL.pass rfl rfl rfl ?_
      iterate 2 refine .o rfl rfl rfl rfl ?_
      refine WL.nil ?_
      exact Keff.intro ⟨rfl, rfl, rfl, rfl, rfl, rfl, rfl, trivial⟩ (by intro y hy; repeat (first | exact hy | refine .tail _ ?_)) (by repeat (first | exact List.Sublist.refl _ | refine List.Sublist.cons _ ?_ | refine List.Sublist.cons_cons _ ?_))
    | true =>
      have hsh := fewest_least hV hx2 hAi hP1
      refine W.region ?_; refine .val (.loadPW rfl h4 (by repeat constructor) rfl) rfl rfl rfl ?_; refine WL.abs (OpAbs.call rfl (fun m hm => houseL_any (hv'.le (by repeat (first | exact hm.1 | replace hm := hm.2))) hs)) rfl rfl rfl ?_
      rintro m83 v83 h83
      iterate 2 refine .o rfl rfl rfl rfl ?_
      refine WL.abs (OpAbs.call rfl (fun m hm => list6_any (hxI.le (by repeat (first | exact hm.1 | replace hm := hm.2))) (by omega))) rfl rfl rfl ?_
      rintro m86 v86 h86
      refine .o rfl rfl rfl rfl ?_; refine .val (.len rfl hxI) rfl rfl rfl ?_; refine .val (.cast (.call rfl (fun m hm => proveBoil_any _ (h83.le (by repeat (first | exact hm.1 | replace hm := hm.2))) hs (h86.le (by repeat (first | exact hm.1 | replace hm := hm.2))) (by omega))) (congrArg Value.bool hd1)) rfl rfl rfl ?_
      iterate 6 refine .o rfl rfl rfl rfl ?_
      refine .val (.cast (.call rfl (fun m hm => shorter_any (h45.le (by repeat (first | exact hm.1 | replace hm := hm.2))) (hxI.le (by repeat (first | exact hm.1 | replace hm := hm.2))))) (congrArg Value.bool hsh)) rfl rfl rfl ?_
      iterate 2 refine .o rfl rfl rfl rfl ?_
      refine WL.nil ?_
      exact Keff.intro ⟨rfl, rfl, rfl, rfl, rfl, rfl, rfl, trivial⟩ (by intro y hy; repeat (first | exact hy | refine .tail _ ?_)) (by repeat (first | exact List.Sublist.refl _ | refine List.Sublist.cons _ ?_ | refine List.Sublist.cons_cons _ ?_))
  refine Kseq.go ?_; refine W.condF rfl rfl ?_
  refine W.skip (Kseq.go (W.seq (W.seq ?_)))
  cases ho : order6 r k with
  | none =>
    rw [if_pos ho] at hO
    have hn2 := order_none hV hkl ho (b := B) (m := 99)
    rw [hP2] at hn2
    subst hn2
    refine W.region ?_; refine .o rfl rfl rfl rfl ?_
    refine .val (.cast (.opv rfl) (show _ = Value.bool true from congrArg (fun b => Value.bool (!b)) (decide_eq_false (by rw [hO]; decide)))) rfl rfl rfl ?_
    refine WL.nil ?_; refine Kseq.go ?_; refine W.condT rfl rfl ?_; refine W.seq ?_; refine W.region ?_; refine .o rfl rfl rfl rfl ?_; refine .val (.cast (.opv rfl) (show _ = Value.bool true from congrArg Value.bool (decide_eq_true hO))) rfl rfl rfl ?_
    iterate 5 refine .o rfl rfl rfl rfl ?_
    refine .val (.call rfl (fun m hm => awake6_any)) rfl rfl rfl ?_
    iterate 2 refine .o rfl rfl rfl rfl ?_
    refine WL.nil ?_; refine Kseq.go ?_
    refine W.ret ?_; refine Kseq.ret ?_; refine ⟨.inl rfl, [_], h, ⟨.tmp rfl, trivial⟩, (by repeat constructor), ?_⟩
    rfl
  | some y =>
    rw [if_neg (by rw [ho]; simp)] at hO
    have hyI := hyb hO y ho
    have hyl : y.length ≤ 3 := by have h1 := (order6_least ho).len; have h2 := longest_le hV hkl; omega
    have hd2 := order_does hV hne hkl ho
    refine W.region ?_; refine .o rfl rfl rfl rfl ?_; refine .val (.cast (.opv rfl) (show _ = Value.bool false from congrArg (fun b => Value.bool (!b)) (decide_eq_true hO))) rfl rfl rfl ?_; refine WL.nil ?_; refine Kseq.go ?_; refine W.condF rfl rfl ?_
    refine W.skip (Kseq.go (W.seq ?_))
    cases P2 with
    | false =>
      refine W.region ?_; refine .val (.loadPW rfl h4 (by repeat constructor) rfl) rfl rfl rfl ?_; refine WL.abs (OpAbs.call rfl (fun m hm => houseL_any (hv'.le (by repeat (first | exact hm.1 | replace hm := hm.2))) hs)) rfl rfl rfl ?_
      rintro m111 v111 h111
      iterate 2 refine .o rfl rfl rfl rfl ?_
      refine WL.abs (OpAbs.call rfl (fun m hm => list6_any (hyI.le (by repeat (first | exact hm.1 | replace hm := hm.2))) (by omega))) rfl rfl rfl ?_
      rintro m114 v114 h114
      refine .o rfl rfl rfl rfl ?_; refine .val (.len rfl hyI) rfl rfl rfl ?_; refine .val (.cast (.call rfl (fun m hm => proveOrder_any _ (h111.le (by repeat (first | exact hm.1 | replace hm := hm.2))) hs (h114.le (by repeat (first | exact hm.1 | replace hm := hm.2))) (by omega))) (congrArg Value.bool hd2)) rfl rfl rfl ?_
      iterate 4 refine .o rfl rfl rfl rfl ?_
      refine WL.pass rfl rfl rfl ?_; refine WL.pass rfl rfl rfl ?_; refine WL.pass rfl rfl rfl ?_; refine WL.pass rfl rfl rfl ?_
      iterate 3 refine .o rfl rfl rfl rfl ?_
      refine .val (.call rfl (fun m hm => awake6_any)) rfl rfl rfl ?_
      iterate 2 refine .o rfl rfl rfl rfl ?_
      refine WL.nil ?_; refine Kseq.go ?_
      refine W.ret ?_; refine ⟨.inl rfl, [_], h, ⟨.tmp rfl, trivial⟩, (by repeat constructor), ?_⟩
      rfl
    | true =>
      have hsh := order_least hV hkl ho hP2
      refine W.region ?_; refine .val (.loadPW rfl h4 (by repeat constructor) rfl) rfl rfl rfl ?_; refine WL.abs (OpAbs.call rfl (fun m hm => houseL_any (hv'.le (by repeat (first | exact hm.1 | replace hm := hm.2))) hs)) rfl rfl rfl ?_
      rintro m111 v111 h111
      iterate 2 refine .o rfl rfl rfl rfl ?_
      refine WL.abs (OpAbs.call rfl (fun m hm => list6_any (hyI.le (by repeat (first | exact hm.1 | replace hm := hm.2))) (by omega))) rfl rfl rfl ?_
      rintro m114 v114 h114
      refine .o rfl rfl rfl rfl ?_; refine .val (.len rfl hyI) rfl rfl rfl ?_; refine .val (.cast (.call rfl (fun m hm => proveOrder_any _ (h111.le (by repeat (first | exact hm.1 | replace hm := hm.2))) hs (h114.le (by repeat (first | exact hm.1 | replace hm := hm.2))) (by omega))) (congrArg Value.bool hd2)) rfl rfl rfl ?_
      iterate 6 refine .o rfl rfl rfl rfl ?_
      refine .val (.cast (.call rfl (fun m hm => shorter_any (hBI.le (by repeat (first | exact hm.1 | replace hm := hm.2))) (hyI.le (by repeat (first | exact hm.1 | replace hm := hm.2))))) (congrArg Value.bool hsh)) rfl rfl rfl ?_
      iterate 4 refine .o rfl rfl rfl rfl ?_
      refine .val (.call rfl (fun m hm => awake6_any)) rfl rfl rfl ?_
      iterate 2 refine .o rfl rfl rfl rfl ?_
      refine WL.nil ?_; refine Kseq.go ?_
      refine W.ret ?_; refine ⟨.inl rfl, [_], h, ⟨.tmp rfl, trivial⟩, (by repeat constructor), ?_⟩
      rfl
end Go.Proofs.YtdnbkjgbehakpaaGreat
