/- The statement ErrandQuicker: its contract. -/
import Derived.Test.YtdjkokpbeaapoaaGreatT93
namespace Go.Proofs.YtdjkokpbeaapoaaGreat
open Go Go.Eng Go.RowKit

theorem ints_store {xs : List Int} {k : Nat} (hk : k < xs.length) (u : Int) : (xs.map vi).take (k * 1 + 0) ++ ((vi u).cells.toList ++ (xs.map vi).drop (k * 1 + 0 + 1)) = (xs.set k u).map vi := by
  rw [List.set_eq_take_append_cons_drop, if_pos hk, List.map_append, List.map_cons, List.map_take, List.map_drop]
  simp [Value.cells]
/-- The first k numbers made smaller. -/
def mz (a b : List Int) (k : Nat) : List Int := (List.range b.length).map fun i => if i < k then min (a.getD i 0) (b.getD i 0) else b.getD i 0
theorem mz_len (a b : List Int) (k : Nat) : (mz a b k).length = b.length := by simp [mz]
theorem mz_get {a b : List Int} {k i : Nat} (h : i < b.length) : (mz a b k).getD i 0 = if i < k then min (a.getD i 0) (b.getD i 0) else b.getD i 0 := by
  simp [mz, List.getD_eq_getElem?_getD, h]
theorem mz_zero (a b : List Int) : mz a b 0 = b := by
  apply List.ext_getElem
  · exact mz_len _ _ _
  intro i h1 h2
  simp [mz, List.getD_eq_getElem?_getD, List.getElem?_eq_getElem h2]
theorem mz_succ {a b : List Int} {k : Nat} (h : k < b.length) : (mz a b k).set k (min (a.getD k 0) (b.getD k 0)) = mz a b (k + 1) := by
  apply List.ext_getElem
  · simp [mz_len]
  intro i h1 h2
  have hi : i < b.length := by simpa [mz_len] using h2
  rw [List.getElem_set]
  have hg : ∀ k (hh : i < (mz a b k).length), (mz a b k)[i] = if i < k then min (a.getD i 0) (b.getD i 0) else b.getD i 0 := fun k hh => by
    have := mz_get (a := a) (k := k) hi
    rwa [List.getD_eq_getElem?_getD, List.getElem?_eq_getElem hh] at this
  rw [hg (k + 1)]
  split
  · rename_i e; subst e; rw [if_pos (by omega)]
  · rename_i e
    rw [hg k]
    by_cases h3 : i < k
    · rw [if_pos h3, if_pos (by omega)]
    · rw [if_neg h3, if_neg (by omega)]
theorem mz_truth {r : Errand} {a b : List Int} (ha : TruthE r a) (hb : TruthE r b) : TruthE r (mz a b b.length) := by
  refine ⟨by rw [mz_len]; exact hb.len, fun i hi => ?_⟩
  have h1 := ha.has i hi
  have h2 := hb.has i hi
  rw [mz_get (by rw [hb.len]; exact hi), if_pos (by rw [hb.len]; exact hi)]
  omega
theorem mz_le {r : Errand} {a b : List Int} (ha : TruthE r a) (hb : TruthE r b) (i : Nat) : (mz a b b.length).getD i 0 ≤ a.getD i 0 := by
  rcases Nat.lt_or_ge i b.length with h | h
  · rw [mz_get h, if_pos h]; omega
  · rw [getD_out (by rw [mz_len]; exact h), getD_out (by rw [ha.len, ← hb.len]; exact h)]; exact Int.le_refl _
/-- ErrandQuicker -/
theorem errandQuicker_any {h : Mem} {v wv : Value} {r : Errand} {ws : List Nat} {x y z : Nat} (hv : IsErrand h v r) (hws : IsWds h wv ws) (hx : x < 65536) (hy : y < 65536) (hz : z < 256) : FnV Tryz.prog 3 #[v, wv, .int .u16 (x : Int), .int .u16 (y : Int), .int .u8 (z : Int)] h (.bool true) := by
  have hv' := hv
  obtain ⟨wov, pv, hov, sv, f, rfl, hW, hP, hM, hH, hS⟩ := hv
  refine FnR.val ?_
  refine FnR.of_W (n := 119) Tryz.func3 rfl rfl (Nat.le_of_ble_eq_true rfl) fun c hr hD hF => ?_
  refine W.seq ?_
  refine W.region ?_
  refine WL.box rfl rfl rfl rfl (fun b5 => ?_)
  refine WL.val (OpVal.opv rfl) rfl rfl rfl ?_
  refine WL.nil ?_
  refine Kseq.go (W.seq (W.seq ?_))
  refine W.freezeBox (.head _) (fun b hb => (hF b hb).elim) fun m1 h1 => ?_
  skip
  refine W.region ?_
  refine WL.val (OpVal.loadPW rfl (by assumption) (by repeat (first | exact .head _ | refine .tail _ ?_)) (by rfl)) rfl rfl rfl ?_
  refine WL.val (OpVal.call rfl (fun m hm => ready11_any (hv'.le (by repeat (first | exact hm.1 | replace hm := hm.2))))) rfl rfl rfl ?_
  refine WL.val (OpVal.opv rfl) rfl rfl rfl ?_
  refine WL.nil ?_
  refine Kseq.go ?_
  refine W.cond rfl rfl (fun he => ?_) (fun hne => ?_)
  · refine W.seq ?_
    refine W.region ?_
    refine WL.val (OpVal.call rfl (fun m hm => awake11_any)) rfl rfl rfl ?_
    refine WL.val (OpVal.opv rfl) rfl rfl rfl ?_
    refine WL.nil ?_
    refine Kseq.go ?_
    refine W.ret ?_; refine Kseq.ret ?_; refine ⟨.inl rfl, [_], h, ⟨.tmp rfl, trivial⟩, (by repeat (first | exact .head _ | refine .tail _ ?_)), ?_⟩
    rfl
  obtain ⟨hth, hV⟩ := readyE_iff.1 (show readyE r = true by simpa using hne)
  have hs : SmE r := ThinE.sm hth
  refine W.skip (Kseq.go (W.seq ?_))
  skip
  refine W.region ?_
  refine WL.val (OpVal.loadPW rfl (by assumption) (by repeat (first | exact .head _ | refine .tail _ ?_)) (by rfl)) rfl rfl rfl ?_
  refine WL.val (OpVal.opv rfl) rfl rfl rfl ?_
  refine WL.abs (OpAbs.call rfl (fun m hm => walked11_any (hv'.le (by repeat (first | exact hm.1 | replace hm := hm.2))) (hws.le (by repeat (first | exact hm.1 | replace hm := hm.2))))) rfl rfl rfl ?_
  rintro m27 v27 h27
  refine WL.val (OpVal.opv rfl) rfl rfl rfl ?_
  refine WL.nil ?_
  refine Kseq.go (W.seq ?_)
  obtain ⟨l, hl, hw, hl6⟩ := h27
  let A31 : Mem → Value → Prop := fun m q => ∃ tr, TruthE r tr ∧ IsInts m q tr
  skip
  refine W.draw 7 (by kernel_rfl) (by kernel_rfl) (by kernel_rfl) rfl ?_
  refine DJ.val [] (OpVal.loadPW rfl (by assumption) (by repeat (first | exact .head _ | refine .tail _ ?_)) (by rfl)) rfl rfl rfl rfl ?_
  refine DJ.val [] (OpVal.opv rfl) rfl rfl rfl rfl ?_
  refine DJ.val [] (OpVal.conv rfl (i64_in (by omega) (by omega))) rfl rfl rfl rfl ?_
  refine DJ.abs (A := A31) [] (OpAbs.call rfl (fun m hm => chosen11_any (hv'.le (by repeat (first | exact hm.1 | replace hm := hm.2))) hV (by omega) (by omega))) rfl rfl rfl rfl ?_
  refine DJ.val [] (OpVal.loadPW rfl (by assumption) (by repeat (first | exact .head _ | refine .tail _ ?_)) (by rfl)) rfl rfl rfl rfl ?_
  refine DJ.val [] (OpVal.opv rfl) rfl rfl rfl rfl ?_
  refine DJ.val [] (OpVal.conv rfl (i64_in (by omega) (by omega))) rfl rfl rfl rfl ?_
  refine DJ.nil ?_
  rintro m31 v31 h31
  (refine WL.callM rfl rfl (M0 := [h]) (by simp) (Split.none _) rfl (chosenM_any hv' hV (by omega) (by omega)) rfl rfl rfl ?_; rintro bv M1 a1 ⟨rfl, tb, hTb, rfl⟩)
  refine WL.val (OpVal.opv rfl) rfl rfl rfl ?_
  refine WL.val (OpVal.opv rfl) rfl rfl rfl ?_
  refine WL.nil ?_
  refine Kseq.go (W.seq (W.seq ?_))
  obtain ⟨ta, hTa, hta⟩ := h31
  have hal := hTa.len
  have hbl := hTb.len
  have hst := hV.streetsLen
  have hsl := streets_le hV.women
  skip
  refine W.region ?_
  refine WL.val (OpVal.opv rfl) rfl rfl rfl ?_
  refine WL.nil ?_
  refine Kseq.go (W.block ?_)
  refine W.loop (σ := Nat) (fun k => [(4, .int .u8 (z : Int)), (5, .pointer (some ⟨b5, 0, none⟩)), (11, v27), (12, v31), (13, bv), (14, .int .i64 (k : Int))]) (fun _ => [m31, m27, m1, h]) (fun k => [.row 3 1 bv tb.length ((mz ta tb k).map vi)]) (fun k => k ≤ tb.length) (fun k => tb.length - k) 0 ⟨rfl, rfl, rfl, rfl, rfl, rfl, trivial⟩ (by simp) (by rw [mz_zero]; exact .refl _) (Nat.zero_le _) ?_
  intro k hk
  have hml := mz_len ta tb k
  refine W.seq (W.seq ?_)
  refine W.region ?_
  refine WL.val (OpVal.opv rfl) rfl rfl rfl ?_
  refine WL.val (OpVal.opv rfl) rfl rfl rfl ?_
  refine WL.val (OpVal.len rfl hta) rfl rfl rfl ?_
  refine WL.val (OpVal.opv rfl) rfl rfl rfl ?_
  refine WL.nil ?_
  refine Kseq.go ?_
  refine W.condD rfl rfl (fun hlt => ?_) (fun hge => ?_)
  · have hkb : k < tb.length := by omega
    have hmk := mz_get (a := ta) (k := k) hkb
    rw [if_neg (Nat.lt_irrefl _)] at hmk
    have est := ints_store (xs := mz ta tb k) (k := k) (by omega) (min (ta.getD k 0) (tb.getD k 0))
    rw [mz_succ hkb] at est
    refine W.skip (Kseq.go (W.seq (W.block ?_)))
    refine W.draw 11 (by kernel_rfl) (by kernel_rfl) (by kernel_rfl) rfl ?_
    refine DJ.val [] (OpVal.opv rfl) rfl rfl rfl rfl ?_
    refine DJ.val [] (OpVal.opv rfl) rfl rfl rfl rfl ?_
    refine DJ.val [] (OpVal.opv rfl) rfl rfl rfl rfl ?_
    refine DJ.val [] (OpVal.opv rfl) rfl rfl rfl rfl ?_
    refine DJ.val [] (OpVal.indexAddrN rfl rfl hta (by omega)) rfl rfl rfl rfl ?_
    refine DJ.val [] (OpVal.loadE rfl hta (by repeat (first | exact .head _ | refine .tail _ ?_)) (by omega) (by omega)) rfl rfl rfl rfl ?_
    refine DJ.val [] (OpVal.opv rfl) rfl rfl rfl rfl ?_
    refine DJ.val [] (OpVal.opv rfl) rfl rfl rfl rfl ?_
    refine DJ.val [] (OpVal.indexAddrR rfl rfl (.head _) hkb) rfl rfl rfl rfl ?_
    refine DJ.val [] (OpVal.loadR (u := vi (tb.getD k 0)) rfl (.head _) hkb (by omega) (by rw [Nat.mul_one, Nat.add_zero, List.getElem?_map, List.getElem?_eq_getElem (show k < (mz ta tb k).length by omega)]; rw [List.getD_eq_getElem?_getD, List.getElem?_eq_getElem (show k < (mz ta tb k).length by omega)] at hmk; exact congrArg (fun x => some (vi x)) hmk)) rfl rfl rfl rfl ?_
    refine DJ.val [] (OpVal.min2 rfl rfl) rfl rfl rfl rfl ?_
    refine DJ.nil ?_
    refine WL.val (OpVal.indexAddrR rfl rfl (.head _) hkb) rfl rfl rfl ?_
    (refine WL.storeR (T := 3) (k := 1) (xs := (mz ta tb k).map vi) (μ' := [.row 3 1 bv tb.length ((mz ta tb (k + 1)).map vi)]) rfl (by rw [← est]; exact .head _) rfl rfl rfl hkb (Nat.le_of_ble_eq_true rfl) (by simp [Value.cells, Value.oneCell']) ?_)
    refine WL.nil ?_
    refine Kblock.normal (Kseq.go ?_)
    skip
    refine W.region ?_
    refine WL.val (OpVal.opv rfl) rfl rfl rfl ?_
    refine WL.val (OpVal.incr rfl (by omega)) rfl rfl rfl ?_
    refine WL.val (OpVal.opv rfl) rfl rfl rfl ?_
    refine WL.nil ?_
    skip
    exact Kloop.next (k + 1) (by omega) (by omega) ⟨rfl, rfl, rfl, rfl, rfl, rfl, trivial⟩ (by simp) (.refl _)
  refine W.exit (Kseq.exit (Kloop.exit (Kblock.here (Kseq.go (W.seq ?_)))))
  have hkk : k = tb.length := by omega
  subst hkk
  have hTm := mz_truth hTa hTb
  have hle := mz_le hTa hTb
  refine W.freezeInts (T := 3) (v := bv) (xs := mz ta tb tb.length) (by show Pick (.row _ _ _ (mz ta tb tb.length).length _) _ _; rw [mz_len]; exact .head _) (fun b hb => (hF b hb).elim) fun m13 h13 => ?_
  have hstart := hV.start
  generalize mz ta tb tb.length = tc at *
  skip
  refine W.region ?_
  refine WL.val (OpVal.loadPW rfl h1 (by repeat (first | exact .head _ | refine .tail _ ?_)) rfl) rfl rfl rfl ?_
  refine WL.alloc rfl rfl rfl (fun b15 => ?_)
  (refine WL.store [_, _, _, _, _, _, _] rfl (.head _) rfl rfl rfl (Nat.le_of_ble_eq_true rfl) (by simp [Value.cells]; exact ⟨IsArr.one hW, IsArr.one hP, rfl, IsArr.one hH, IsArr.one hS, rfl, rfl⟩) rfl ?_)
  refine WL.nil ?_
  refine Kseq.go (W.seq ?_)
  skip
  refine W.region ?_
  refine WL.val (OpVal.fieldAddrB rfl) rfl rfl rfl ?_
  refine WL.val (OpVal.loadP rfl h1 (by repeat (first | exact .head _ | refine .tail _ ?_)) rfl) rfl rfl rfl ?_
  refine WL.val (OpVal.opv rfl) rfl rfl rfl ?_
  refine WL.val (OpVal.conv rfl (i64_in (by omega) (by omega))) rfl rfl rfl ?_
  refine WL.val (OpVal.rem rfl rfl (by omega) (by omega)) rfl rfl rfl ?_
  refine WL.val (OpVal.sub rfl rfl (by omega) (by omega)) rfl rfl rfl ?_
  refine WL.val (OpVal.max2 rfl rfl) rfl rfl rfl ?_
  refine WL.val (OpVal.fieldAddrB rfl) rfl rfl rfl ?_
  refine WL.store [_, _, _, _, _, _, _] rfl (.head _) rfl rfl rfl (Nat.le_of_ble_eq_true rfl) (by first | (simp [Value.cells, Value.oneCell']; done) | exact IsArr.ones hW (by omega) | exact IsArr.ones hP (by omega) | exact IsArr.ones hS (by omega) | exact IsArr.ones hH (by omega) | exact IsArr.ones hL (by omega)) rfl ?_
  refine WL.nil ?_
  refine Kseq.go (W.seq ?_)
  generalize hst' : max 0 (r.start - (z : Int) % 9) = st'
  let rx : Errand := ⟨r.table, r.home, r.streets, st', r.calls⟩
  have hVx : ValidE rx := ⟨hV.table, hV.some, hV.women, hV.calls, hV.homeLen, hV.streetsLen, by show 0 ≤ st' ∧ st' ≤ 1439; omega, hV.home, hV.street⟩
  have hsx : SmE rx := ⟨hs.table, hs.home, hs.streets⟩
  have hTx : TruthE rx tc := ⟨hTm.len, hTm.has⟩
  have hwx : Walk rx.n l := hw
  have hvx : IsErrand h (.agg #[wov, pv, vi r.table.wrong, hov, sv, vi st', vi r.calls]) rx := ⟨wov, pv, hov, sv, f, rfl, hW, hP, hM, hH, hS⟩
  skip
  refine W.region ?_
  refine WL.val (OpVal.loadPW rfl (by assumption) (by repeat (first | exact .head _ | refine .tail _ ?_)) (by rfl)) rfl rfl rfl ?_
  refine WL.abs (OpAbs.call rfl (fun m hm => errand_any (hv'.le (by repeat (first | exact hm.1 | replace hm := hm.2))) hs)) rfl rfl rfl ?_
  rintro m65 v65 h65
  refine WL.val (OpVal.opv rfl) rfl rfl rfl ?_
  refine WL.abs (OpAbs.call rfl (fun m hm => list11_any (hta.le (by repeat (first | exact hm.1 | replace hm := hm.2))) (by omega))) rfl rfl rfl ?_
  rintro m67 v67 h67
  refine WL.val (OpVal.opv rfl) rfl rfl rfl ?_
  refine WL.abs (OpAbs.call rfl (fun m hm => list11_any (hl.le (by repeat (first | exact hm.1 | replace hm := hm.2))) (by omega))) rfl rfl rfl ?_
  rintro m69 v69 h69
  refine WL.abs (OpAbs.call rfl (fun m hm => play11_ok hV hTa hw hs (h65.le (by repeat (first | exact hm.1 | replace hm := hm.2))) (h67.le (by repeat (first | exact hm.1 | replace hm := hm.2))) (h69.le (by repeat (first | exact hm.1 | replace hm := hm.2))))) rfl rfl rfl ?_
  rintro m70 _ ⟨cv, rfl, hcv⟩
  refine WL.val (OpVal.opv rfl) rfl rfl rfl ?_
  refine WL.val (OpVal.opv rfl) rfl rfl rfl ?_
  refine WL.val (OpVal.opv rfl) rfl rfl rfl ?_
  refine WL.val (OpVal.opv rfl) rfl rfl rfl ?_
  refine WL.val (OpVal.opv rfl) rfl rfl rfl ?_
  refine WL.nil ?_
  refine Kseq.go (W.seq ?_)
  skip
  refine W.region ?_
  refine WL.val (OpVal.loadBW rfl (.head _) rfl) rfl rfl rfl ?_
  refine WL.abs (OpAbs.call rfl (fun m hm => errand_any (hvx.le (by repeat (first | exact hm.1 | replace hm := hm.2))) hsx)) rfl rfl rfl ?_
  rintro m75 v75 h75
  refine WL.val (OpVal.opv rfl) rfl rfl rfl ?_
  refine WL.abs (OpAbs.call rfl (fun m hm => list11_any (h13.le (by repeat (first | exact hm.1 | replace hm := hm.2))) (by omega))) rfl rfl rfl ?_
  rintro m77 v77 h77
  refine WL.val (OpVal.opv rfl) rfl rfl rfl ?_
  refine WL.abs (OpAbs.call rfl (fun m hm => list11_any (hl.le (by repeat (first | exact hm.1 | replace hm := hm.2))) (by omega))) rfl rfl rfl ?_
  rintro m79 v79 h79
  refine WL.abs (OpAbs.call rfl (fun m hm => play11_ok hVx hTx hwx hsx (h75.le (by repeat (first | exact hm.1 | replace hm := hm.2))) (h77.le (by repeat (first | exact hm.1 | replace hm := hm.2))) (h79.le (by repeat (first | exact hm.1 | replace hm := hm.2))))) rfl rfl rfl ?_
  rintro m80 _ ⟨dv, rfl, hdv⟩
  refine WL.val (OpVal.opv rfl) rfl rfl rfl ?_
  refine WL.val (OpVal.opv rfl) rfl rfl rfl ?_
  refine WL.val (OpVal.opv rfl) rfl rfl rfl ?_
  refine WL.val (OpVal.opv rfl) rfl rfl rfl ?_
  refine WL.val (OpVal.opv rfl) rfl rfl rfl ?_
  refine WL.nil ?_
  refine Kseq.go (W.seq (W.seq ?_))
  have hm1 := minutes_len r ta l
  have hm2 := minutes_len rx tc l
  skip
  refine W.region ?_
  refine WL.val (OpVal.opv rfl) rfl rfl rfl ?_
  refine WL.val (OpVal.opv rfl) rfl rfl rfl ?_
  refine WL.val (OpVal.opv rfl) rfl rfl rfl ?_
  refine WL.val (OpVal.opv rfl) rfl rfl rfl ?_
  refine WL.val (OpVal.opv rfl) rfl rfl rfl ?_
  refine WL.val (OpVal.opv rfl) rfl rfl rfl ?_
  refine WL.val (OpVal.opv rfl) rfl rfl rfl ?_
  refine WL.val (OpVal.opv rfl) rfl rfl rfl ?_
  refine WL.val (OpVal.len rfl hcv) rfl rfl rfl ?_
  refine WL.val (OpVal.opv rfl) rfl rfl rfl ?_
  refine WL.val (OpVal.len rfl hl) rfl rfl rfl ?_
  refine WL.val (OpVal.cast (OpVal.opv rfl) (congrArg Value.bool (show _ = false from by rw [hm1]; simp))) rfl rfl rfl ?_
  refine WL.val (OpVal.opv rfl) rfl rfl rfl ?_
  refine WL.val (OpVal.opv rfl) rfl rfl rfl ?_
  refine WL.val (OpVal.opv rfl) rfl rfl rfl ?_
  refine WL.val (OpVal.len rfl hdv) rfl rfl rfl ?_
  refine WL.val (OpVal.opv rfl) rfl rfl rfl ?_
  refine WL.val (OpVal.len rfl hl) rfl rfl rfl ?_
  refine WL.val (OpVal.cast (OpVal.opv rfl) (congrArg Value.bool (show _ = false from by rw [hm2]; simp))) rfl rfl rfl ?_
  refine WL.val (OpVal.opv rfl) rfl rfl rfl ?_
  refine WL.nil ?_
  refine Kseq.go ?_
  refine W.cond rfl rfl (fun he => absurd he (by simp)) (fun _ => ?_)
  refine W.skip (Kseq.go (W.seq (W.seq ?_)))
  skip
  refine W.region ?_
  refine WL.val (OpVal.opv rfl) rfl rfl rfl ?_
  refine WL.nil ?_
  refine Kseq.go (W.block ?_)
  refine W.loopC (σ := Nat) (fun k => [(16, cv), (18, dv), (20, .int .i64 (k : Int))]) (fun k => k ≤ l.length) (fun k => l.length - k) 0 ⟨rfl, rfl, rfl, trivial⟩ (Nat.zero_le _) ?_
  intro k hk
  refine W.seq (W.seq ?_)
  refine W.region ?_
  refine WL.val (OpVal.opv rfl) rfl rfl rfl ?_
  refine WL.val (OpVal.opv rfl) rfl rfl rfl ?_
  refine WL.val (OpVal.len rfl hcv) rfl rfl rfl ?_
  refine WL.val (OpVal.opv rfl) rfl rfl rfl ?_
  refine WL.nil ?_
  refine Kseq.go ?_
  refine W.condD rfl rfl (fun hlt => ?_) (fun hge => ?_)
  · have hkl : k < l.length := by omega
    have hfin := minuteAt_le (x := rx) (r := r) (w := l) (a := tc) (b := ta) rfl (by show st' ≤ r.start; omega) (fun _ => Int.le_refl _) hle (k + 1)
    refine W.skip (Kseq.go (W.seq (W.block (W.seq ?_))))
    refine W.draw 8 (by kernel_rfl) (by kernel_rfl) (by kernel_rfl) rfl ?_
    refine DJ.val [] (OpVal.opv rfl) rfl rfl rfl rfl ?_
    refine DJ.val [] (OpVal.opv rfl) rfl rfl rfl rfl ?_
    refine DJ.val [] (OpVal.indexAddrN rfl rfl hdv (by omega)) rfl rfl rfl rfl ?_
    refine DJ.val [] (OpVal.cast (OpVal.loadE rfl hdv (by repeat (first | exact .head _ | refine .tail _ ?_)) (by omega) (by omega)) (congrArg (Value.int .i64) (minutes_get hkl))) rfl rfl rfl rfl ?_
    refine DJ.val [] (OpVal.opv rfl) rfl rfl rfl rfl ?_
    refine DJ.val [] (OpVal.opv rfl) rfl rfl rfl rfl ?_
    refine DJ.val [] (OpVal.indexAddrN rfl rfl hcv (by omega)) rfl rfl rfl rfl ?_
    refine DJ.val [] (OpVal.cast (OpVal.loadE rfl hcv (by repeat (first | exact .head _ | refine .tail _ ?_)) (by omega) (by omega)) (congrArg (Value.int .i64) (minutes_get hkl))) rfl rfl rfl rfl ?_
    refine DJ.nil ?_
    refine WL.val (OpVal.cast (OpVal.opv rfl) (congrArg Value.bool (decide_eq_false (by omega)))) rfl rfl rfl ?_
    refine WL.nil ?_
    refine Kseq.go ?_
    refine W.cond rfl rfl (fun he => absurd he (by simp)) (fun _ => ?_)
    refine W.skip (Kblock.normal (Kseq.go ?_))
    refine W.region ?_
    refine WL.val (OpVal.opv rfl) rfl rfl rfl ?_
    refine WL.val (OpVal.incr rfl (by omega)) rfl rfl rfl ?_
    refine WL.val (OpVal.opv rfl) rfl rfl rfl ?_
    refine WL.nil ?_
    skip
    exact Kloop.nextC (k + 1) (by omega) (by omega) ⟨rfl, rfl, rfl, trivial⟩ (by simp) (by repeat (first | exact List.Sublist.refl _ | refine List.Sublist.cons _ ?_ | refine List.Sublist.cons_cons _ ?_))
  refine W.exit (Kseq.exit (Kloop.exit (Kblock.here (Kseq.go (W.seq ?_)))))
  skip
  refine W.region ?_
  refine WL.val (OpVal.call rfl (fun m hm => awake11_any)) rfl rfl rfl ?_
  refine WL.val (OpVal.opv rfl) rfl rfl rfl ?_
  refine WL.nil ?_
  refine Kseq.go ?_
  refine W.ret ?_; skip; refine ⟨.inl rfl, [_], h, ⟨.tmp rfl, trivial⟩, (by repeat (first | exact .head _ | refine .tail _ ?_)), ?_⟩
  rfl
end Go.Proofs.YtdjkokpbeaapoaaGreat
