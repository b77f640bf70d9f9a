/- The reference's functions of chapter 6: Hours, Courses, Truths, All. -/
import Derived.Test.YtdnbkjgbehakpaaGreatT139
import Derived.Test.YtdnbkjgbehakpaaGreatT1
namespace Go.Proofs.YtdnbkjgbehakpaaGreat
open Go Go.Eng Go.RowKit

/-- What is left of a number behind some touches. -/
def hRest (ts : List Touch) (n : Nat) : Nat → Nat
  | 0 => n
  | k + 1 => hRest ts n k / (ts.getD k default).size
theorem hRest_cons (t : Touch) (ts : List Touch) (n : Nat) : ∀ k, hRest (t :: ts) n (k + 1) = hRest ts (n / t.size) k
  | 0 => rfl
  | k + 1 => by
    show hRest (t :: ts) n (k + 1) / ((t :: ts).getD (k + 1) default).size = _
    rw [hRest_cons t ts n k, List.getD_cons_succ]; rfl
theorem hRest_le (ts : List Touch) (n : Nat) : ∀ k, hRest ts n k ≤ n
  | 0 => Nat.le_refl _
  | k + 1 => Nat.le_trans (Nat.div_le_self _ _) (hRest_le ts n k)
theorem hours_take : ∀ {ts : List Touch} {n k : Nat}, k < ts.length → hoursL (ts.take (k + 1)) n = hoursL (ts.take k) n ++ [(ts.getD k default).lo + ((hRest ts n k % (ts.getD k default).size : Nat) : Int)]
  | [], _, _, h => by simp at h
  | t :: ts, n, 0, _ => by simp [hoursL, hRest]
  | t :: ts, n, k + 1, h => by
    have ih := hours_take (ts := ts) (n := n / t.size) (k := k) (by simpa using h)
    rw [hRest_cons, List.getD_cons_succ]
    simp only [List.take_succ_cons, hoursL]
    rw [ih, List.cons_append]
/-- Hours -/
theorem hoursR_any {h : Mem} {v : Value} {r : House} {n : Nat} (hv : IsHouse h v r) (hV : ValidH r) (hn : n ≤ 10000) : FnR Tryz.prog 100 #[v, vi (n : Int)] h (fun m q => IsInts m q (hoursL r.touches n)) := by
  have hv' := hv
  obtain ⟨wv, pv, kv, tv, bv, sv, f, rfl, hA⟩ := hv
  have hT := hA.T
  have htn := hV.touchN
  refine FnR.of_W (n := 41) Tryz.func100 rfl rfl (Nat.le_of_ble_eq_true rfl) fun c hr hD hF => ?_
  refine W.seq ?_; refine W.region ?_
  refine WL.box rfl rfl rfl rfl (fun b2 => ?_)
  refine .o rfl ?_; refine WL.nil ?_
  refine Kseq.go (W.seq ?_)
  refine W.freezeBox (.head _) (fun b hb => (hF b hb).elim) fun m2 h2 => ?_
  refine W.region ?_; refine .o rfl ?_; refine WL.nil ?_
  refine Kseq.go (W.seq (W.seq ?_))
  refine W.region ?_; refine .o rfl ?_; refine WL.nil ?_
  refine Kseq.go (W.block ?_)
  refine W.nilRow 3 1 ?_; refine W.loop (σ := Nat × Value) (fun s => [(1, vi ((hRest r.touches n s.1 : Nat) : Int)), (2, .pointer (some ⟨b2, 0, none⟩)), (5, s.2), (6, vi (s.1 : Int))]) (fun _ => [m2, h]) (fun s => [ir 3 s.2 (hoursL (r.touches.take s.1) n)]) (fun s => s.1 ≤ r.touches.length) (fun s => r.touches.length - s.1) (0, .slice none 0 0) ⟨rfl, rfl, rfl, rfl, trivial⟩ (by simp) (.refl _) (Nat.zero_le _) ?_
  rintro ⟨k, a⟩ hk
  dsimp only at hk ⊢
  have hll : (hoursL (r.touches.take k) n).length ≤ k := by rw [hoursL_len, List.length_take]; omega
  refine W.seq (W.seq ?_)
  refine W.region ?_; refine .o rfl ?_; refine .val (.fieldAddrB rfl) rfl rfl rfl ?_; refine .val (.loadP rfl h2 (by repeat constructor) rfl) rfl rfl rfl ?_; refine .val (.len rfl hT) rfl rfl rfl ?_; refine .o rfl ?_; refine WL.nil ?_; refine Kseq.go ?_
  refine W.condD rfl rfl (fun hlt => ?_) (fun hge => ?_)
  · have hkl : k < r.touches.length := by omega
    have hz := hV.hoursZ hkl
    have ht := hours_take (ts := r.touches) (n := n) hkl
    have hre : hRest r.touches n (k + 1) = hRest r.touches n k / (r.touches.getD k default).size := rfl
    obtain ⟨q, hq⟩ : ∃ q, r.touches.getD k default = q := ⟨_, rfl⟩
    have hle := hRest_le r.touches n k
    rw [hq] at hz ht hre
    obtain ⟨S, hS⟩ : ∃ S, q.size = S := ⟨_, rfl⟩
    have hSz : (S : Int) = q.hi - q.lo + 1 := by rw [← hS]; unfold Touch.size; omega
    rw [hS] at ht hre
    generalize hRest r.touches n k = x at *
    have hmod : x % S < S := Nat.mod_lt _ (by omega)
    refine W.skip (Kseq.go (W.seq (W.block (W.seq ?_))))
    refine W.region ?_; refine .val (.fieldAddrB rfl) rfl rfl rfl ?_; refine .val (.loadP rfl h2 (by repeat constructor) rfl) rfl rfl rfl ?_; refine .o rfl ?_; refine .val (.indexAddrN rfl rfl hT hkl) rfl rfl rfl ?_; refine .val (.fieldAddrN rfl hT hkl) rfl rfl rfl ?_
    refine .val (.cast (.loadES rfl hT (by repeat constructor) hkl (by omega)) (show _ = Value.agg #[vi q.lo, vi q.hi] from by rw [← hq]; rfl)) rfl rfl rfl ?_
    refine WL.alloc rfl rfl rfl (fun b7 => ?_)
    refine WL.store [_, _] rfl (.head _) rfl rfl rfl (Nat.le_of_ble_eq_true rfl) (by first | (simp [Value.cells, Value.oneCell']; done) | exact IsArr.ones hW (by omega) | exact IsArr.ones hP (by omega) | exact IsArr.ones hS (by omega) | exact IsArr.ones hH (by omega) | exact IsArr.ones hL (by omega) | exact IsArr.ones hB (by omega) | exact IsArr.ones hT (by omega) | exact IsArr.ones hm (by omega)) rfl ?_
    refine WL.nil ?_
    refine Kseq.go (W.seq ?_)
    refine W.region ?_; refine .val (.fieldAddrB rfl) rfl rfl rfl ?_; refine .val (.loadB rfl (.head _) rfl) rfl rfl rfl ?_; refine .val (.fieldAddrB rfl) rfl rfl rfl ?_; refine .val (.loadB rfl (.head _) rfl) rfl rfl rfl ?_; refine .val (.sub rfl rfl (by omega) (by omega)) rfl rfl rfl ?_; refine .val (.cast (.add rfl rfl (by omega) (by omega)) (show _ = vi ((S : Nat) : Int) from congrArg (Value.int .i64) (by omega))) rfl rfl rfl ?_; refine .o rfl ?_; refine WL.nil ?_
    refine Kseq.go (W.seq ?_)
    refine W.draw 8 (by kernel_rfl) (by kernel_rfl) (by kernel_rfl) rfl ?_; refine .val [] (.opv rfl) rfl rfl rfl rfl ?_; refine .val [] (.fieldAddrB rfl) rfl rfl rfl rfl ?_; refine .val [] (.loadB rfl (.head _) rfl) rfl rfl rfl rfl ?_; refine .val [] (.opv rfl) rfl rfl rfl rfl ?_; refine .val [] (.opv rfl) rfl rfl rfl rfl ?_; refine .val [] (.cast (.rem rfl rfl (by omega) (by omega)) (show _ = vi ((x % S : Nat) : Int) from rfl)) rfl rfl rfl rfl ?_; refine .val [] (.add rfl rfl (by omega) (by omega)) rfl rfl rfl rfl ?_; refine DJ.abs (A := fun m v => IsCells m 1 v 1 [vi (q.lo + ((x % S : Nat) : Int))]) [] (OpAbs.litI rfl) rfl rfl rfl rfl ?_; refine DJ.nil ?_
    rintro m35 v35 h35
    refine WL.appInt rfl (fun _ => (.tail _ (.head _))) rfl (by assumption) (by repeat constructor) (by omega) rfl rfl rfl ?_
    intro a36 cp36
    refine .o rfl ?_; refine WL.nil ?_; refine Kseq.go ?_; refine W.region ?_
    iterate 2 refine .o rfl ?_
    refine .val (.cast (.quo rfl rfl (by omega) (by omega) (by omega)) (show _ = vi ((x / S : Nat) : Int) from rfl)) rfl rfl rfl ?_; refine .o rfl ?_; refine WL.nil ?_
    refine Kblock.normal (Kseq.go ?_)
    refine W.region ?_; refine .o rfl ?_; refine .val (.incr rfl (by omega)) rfl rfl rfl ?_; refine .o rfl ?_; refine WL.nil ?_
    exact Kloop.next (k + 1, _) (by dsimp only; omega) (by dsimp only; omega) ⟨congrArg (fun z : Nat => some (vi (z : Int))) hre.symm, rfl, rfl, rfl, trivial⟩ (by simp) (by dsimp only; rw [ht]; exact (by repeat first | exact .refl _ | refine .cons _ ?_))
  · refine W.exit (Kseq.exit (Kloop.exit (Kblock.here (Kseq.go (W.seq ?_)))))
    have hkk : k = r.touches.length := by omega
    subst hkk
    refine W.freezeInts (.head _) (fun b hb => (hF b hb).elim) fun mr hmr => ?_
    refine W.region ?_
    iterate 2 refine .o rfl ?_
    refine WL.nil ?_; refine Kseq.go ?_
    refine W.ret ?_; refine ⟨.inl rfl, [_], mr, ⟨.tmp rfl, trivial⟩, (by repeat constructor), ?_⟩
    rw [List.take_length] at hmr
    exact hmr
/-! ### Lists of courses -/
def AllC (m : Mem) (vs : List Value) (l : List Course) : Prop := vs.length = l.length ∧ ∀ i, i < l.length → IsCourseV m (vs.getD i undef) (l.getD i default)
theorem AllC.le {m m' : Mem} {vs : List Value} {l : List Course} (h : AllC m vs l) (hm : MLe m m') : AllC m' vs l := ⟨h.1, fun i hi => (h.2 i hi).le hm⟩
theorem AllC.nil (m : Mem) : AllC m [] [] := ⟨rfl, fun _ h => absurd h (Nat.not_lt_zero _)⟩
theorem AllC.push {m : Mem} {vs : List Value} {l : List Course} {v : Value} {c : Course} (h : AllC m vs l) (hc : IsCourseV m v c) : AllC m (vs ++ [v]) (l ++ [c]) := by
  refine ⟨by simp [h.1], fun i hi => ?_⟩
  rw [List.length_append, List.length_singleton] at hi
  rcases Nat.lt_succ_iff_lt_or_eq.1 hi with h1 | rfl
  · rw [List.getD_eq_getElem?_getD, List.getElem?_append_left (by rw [h.1]; exact h1), List.getD_eq_getElem?_getD (l := l ++ [c]), List.getElem?_append_left h1, ← List.getD_eq_getElem?_getD, ← List.getD_eq_getElem?_getD]
    exact h.2 i h1
  · rw [List.getD_eq_getElem?_getD, List.getElem?_append_right (by rw [h.1]; exact Nat.le_refl _), List.getD_eq_getElem?_getD (l := l ++ [c]), List.getElem?_append_right (Nat.le_refl _), h.1]
    simpa using hc
theorem AllC.mem {m : Mem} {vs : List Value} {l : List Course} (h : AllC m vs l) {u : Value} (hu : u ∈ vs) : ∃ c, IsCourseV m u c := by
  obtain ⟨i, hi, e⟩ := List.mem_iff_getElem.1 hu
  have := h.2 i (by rw [← h.1]; exact hi)
  rw [List.getD_eq_getElem?_getD, List.getElem?_eq_getElem hi, Option.getD_some, e] at this
  exact ⟨_, this⟩
theorem AllC.size {m : Mem} {vs : List Value} {l : List Course} (h : AllC m vs l) : ∀ u ∈ vs, u.cells.size = 2 := fun u hu => by
  obtain ⟨c, ov, hv, rfl, _⟩ := h.mem hu
  rfl
theorem AllC.one {m : Mem} {vs : List Value} {l : List Course} (h : AllC m vs l) : ∀ u ∈ vs, ∀ x ∈ u.cells.toList, x.oneCell' = true := fun u hu => by
  obtain ⟨c, ov, hv, rfl, h1, h2⟩ := h.mem hu
  intro x hx
  simp [Value.cells] at hx
  rcases hx with rfl | rfl
  · exact IsArr.one h1
  · exact IsArr.one h2
def IsCourses (m : Mem) (v : Value) (l : List Course) : Prop := ∃ vs, AllC m vs l ∧ IsArr m 2 v l.length (fun i j => (vs.getD i undef).cells.getD j undef)
theorem IsCourses.le {m m' : Mem} {v : Value} {l : List Course} (h : IsCourses m v l) (hm : MLe m m') : IsCourses m' v l := by
  obtain ⟨vs, h1, h2⟩ := h
  exact ⟨vs, h1.le hm, h2.le hm⟩
theorem IsCourses.bd {m : Mem} {v : Value} {l : List Course} (h : IsCourses m v l) : l.length ≤ 9223372036854775807 := by
  obtain ⟨vs, _, h2⟩ := h
  have := IsArr.len h2; unfold maxLen at this; omega
theorem coursesOf_succ (ts : List Touch) (l : List Int) (k : Nat) : coursesOf ts l (k + 1) = coursesOf ts l k ++ [⟨l, hoursL ts k⟩] := by simp [coursesOf, List.range_succ]
theorem coursesTo_succ (r : House) (k : Nat) : coursesTo r (k + 1) = coursesTo r k ++ coursesOf r.touches ((truths r.table).getD k []) (times r).toNat := by simp [coursesTo, List.range_succ]
theorem coursesOf_len (ts : List Touch) (l : List Int) (k : Nat) : (coursesOf ts l k).length = k := by simp [coursesOf]
theorem coursesTo_len (r : House) : ∀ k, (coursesTo r k).length = k * (times r).toNat
  | 0 => by simp [coursesTo]
  | k + 1 => by rw [coursesTo_succ, List.length_append, coursesTo_len r k, coursesOf_len, Nat.succ_mul]
theorem truths_len6 {r : House} (hV : ValidH r) : (truths r.table).length ≤ 2000 := by
  have h1 : (truths r.table).length ≤ (many r.table).toNat := truthsTo_len _ _
  have h2 := hV.many
  have h3 := times_pos hV.sizes
  have h4 := hV.manyPos
  have h5 : many r.table * 1 ≤ many r.table * times r := Int.mul_le_mul_of_nonneg_left h3 (by omega)
  omega
theorem courses_len6 {r : House} (hV : ValidH r) : (courses r).length ≤ 4000000 := by
  unfold courses
  rw [coursesTo_len]
  have h1 := truths_len6 hV
  have h2 := hV.times
  exact Nat.le_trans (Nat.mul_le_mul h1 (show (times r).toNat ≤ 2000 by omega)) (by decide)
set_option maxHeartbeats 1000000 in
/-- Courses -/
theorem coursesR_any {h : Mem} {v : Value} {r : House} (hv : IsHouse h v r) (hV : ValidH r) (hs : SmH r) : FnR Tryz.prog 42 #[v] h (fun m q => IsCourses m q (courses r)) := by
  have hv' := hv
  obtain ⟨wv, pv, kv, tv, bv, sv, f, rfl, hA⟩ := hv
  have hTab := hA.table
  have hz : ∀ i, i < r.tn → 0 ≤ (r.touches.getD i default).lo ∧ (r.touches.getD i default).lo ≤ (r.touches.getD i default).hi ∧ (r.touches.getD i default).hi ≤ 5 := fun i hi => hV.hoursZ hi
  have h1t := times_pos hV.sizes
  have h2t := hV.times
  obtain ⟨T, hT⟩ : ∃ T : Nat, (times r).toNat = T := ⟨_, rfl⟩
  have hTi : times r = (T : Int) := by omega
  have htl := truths_len6 hV
  refine FnR.of_W (n := 34) Tryz.func42 rfl rfl (Nat.le_of_ble_eq_true rfl) fun c hr hD hF => ?_
  refine W.seq ?_; refine W.region ?_
  refine WL.box rfl rfl rfl rfl (fun b1 => ?_)
  refine .o rfl ?_; refine WL.nil ?_
  refine Kseq.go (W.seq ?_)
  refine W.freezeBox (.head _) (fun b hb => (hF b hb).elim) fun m1 h1 => ?_
  refine W.region ?_; refine .o rfl ?_; refine WL.nil ?_
  refine Kseq.go (W.seq ?_)
  refine W.region ?_; refine .val (.fieldAddrB rfl) rfl rfl rfl ?_; refine .val (.loadPA (vs := [wv, pv, vi r.table.wrong]) rfl h1 (by repeat constructor) rfl rfl) rfl rfl rfl ?_; refine WL.abs (OpAbs.call rfl (fun m hm => truths_any (hTab.le (by repeat first | exact hm.1 | replace hm := hm.2)) hs.table hV.table.owned)) rfl rfl rfl ?_
  rintro m9 v9 h9
  refine .o rfl ?_; refine WL.nil ?_
  refine Kseq.go (W.seq (W.seq ?_))
  have htr := h9
  obtain ⟨vs0, hvs0, hvA⟩ := h9
  refine W.region ?_; refine .o rfl ?_; refine WL.nil ?_
  refine Kseq.go (W.block ?_)
  refine W.nilRow 76 2 ?_; refine W.loop (σ := Nat × Value × Mem × List Value) (fun s => [(1, .pointer (some ⟨b1, 0, none⟩)), (3, s.2.1), (4, v9), (5, vi (s.1 : Int))]) (fun s => [m9, m1, h, s.2.2.1]) (fun s => [kr 76 2 s.2.1 s.2.2.2]) (fun s => s.1 ≤ (truths r.table).length ∧ AllC s.2.2.1 s.2.2.2 (coursesTo r s.1)) (fun s => (truths r.table).length - s.1) (0, .slice none 0 0, h, []) ⟨rfl, rfl, rfl, rfl, trivial⟩ (by simp) (.refl _) ⟨Nat.zero_le _, AllC.nil h⟩ ?_
  rintro ⟨i, a, m0, vs⟩ ⟨hi, hall⟩
  dsimp only at hi hall ⊢
  refine W.seq (W.seq ?_)
  refine W.region ?_
  iterate 2 refine .o rfl ?_
  refine .val (.len rfl hvA) rfl rfl rfl ?_; refine .o rfl ?_; refine WL.nil ?_; refine Kseq.go ?_
  refine W.condD rfl rfl (fun hlt => ?_) (fun hge => ?_)
  · have hil : i < (truths r.table).length := by omega
    have hli := hvs0.2 i hil
    have hct := coursesTo_succ r i
    have hcl := coursesTo_len r i
    rw [hT] at hct hcl
    have hiT : i * T ≤ 2000 * 2000 := Nat.mul_le_mul (by omega) (by omega)
    obtain ⟨li, hlie⟩ : ∃ li, (truths r.table).getD i [] = li := ⟨_, rfl⟩
    rw [hlie] at hli hct
    obtain ⟨la, lc, hle⟩ := IsArr.form hli
    rw [hle] at hli
    refine W.skip (Kseq.go (W.seq (W.block (W.seq ?_))))
    refine W.region ?_; refine .o rfl ?_; refine WL.nil ?_
    refine Kseq.go (W.block ?_)
    refine W.loop (σ := Nat × Value × Mem × List Value) (fun s => [(1, .pointer (some ⟨b1, 0, none⟩)), (3, s.2.1), (4, v9), (5, vi (i : Int)), (6, vi (s.1 : Int))]) (fun s => [m9, m1, h, s.2.2.1]) (fun s => [kr 76 2 s.2.1 s.2.2.2]) (fun s => s.1 ≤ T ∧ AllC s.2.2.1 s.2.2.2 (coursesTo r i ++ coursesOf r.touches li s.1)) (fun s => T - s.1) (0, a, m0, vs) ⟨rfl, rfl, rfl, rfl, rfl, trivial⟩ (by simp) (.refl _) ⟨Nat.zero_le _, by show AllC m0 vs (coursesTo r i ++ []); rw [List.append_nil]; exact hall⟩ ?_
    rintro ⟨n, a2, m2, vs2⟩ ⟨hn, hall2⟩
    dsimp only at hn hall2 ⊢
    have hvl := hall2.1
    rw [List.length_append, hcl, coursesOf_len] at hvl
    refine W.seq (W.seq ?_)
    refine W.region ?_; refine .o rfl ?_; refine .val (.loadPW rfl h1 (by repeat constructor) rfl) rfl rfl rfl ?_; refine .val (.cast (.call rfl (fun m hm => times_any (hv'.le (by repeat first | exact hm.1 | replace hm := hm.2)) hs hz)) (congrArg (Value.int .i64) hTi)) rfl rfl rfl ?_; refine .o rfl ?_; refine WL.nil ?_; refine Kseq.go ?_
    refine W.condD rfl rfl (fun hlt2 => ?_) (fun hge2 => ?_)
    · have hnl : n < T := by omega
      refine W.skip (Kseq.go (W.seq (W.block ?_)))
      refine W.draw 10 (by kernel_rfl) (by kernel_rfl) (by kernel_rfl) rfl ?_; refine .val [] (.opv rfl) rfl rfl rfl rfl ?_; refine .val [] (.opv rfl) rfl rfl rfl rfl ?_; refine .val [] (.opv rfl) rfl rfl rfl rfl ?_; refine .val [] (.indexAddrN rfl rfl hvA hil) rfl rfl rfl rfl ?_; refine .val [] (.cast (.loadE rfl hvA (by repeat constructor) hil (by omega)) (show _ = Value.slice la li.length lc from hle)) rfl rfl rfl rfl ?_; refine .val [] (.loadPW rfl h1 (by repeat constructor) rfl) rfl rfl rfl rfl ?_; refine .val [] (.opv rfl) rfl rfl rfl rfl ?_; refine DJ.abs (A := fun m q => IsInts m q (hoursL r.touches n)) [] (OpAbs.call rfl (fun m hm => hoursR_any (hv'.le (by repeat first | exact hm.1 | replace hm := hm.2)) hV (by omega))) rfl rfl rfl rfl ?_
      refine DJ.abs (A := fun m q => IsCourseV m q ⟨li, hoursL r.touches n⟩) [(29, fun m q => IsInts m q (hoursL r.touches n))] (fun m29 v29 h29 => by obtain ⟨a29, c29, rfl⟩ := IsArr.form h29; exact OpAbs.mono (OpAbs.join (OpAbs.ofVal (A := fun m x => x = .agg #[.slice la li.length lc, .slice a29 (hoursL r.touches n).length c29] ∧ IsInts m (.slice a29 (hoursL r.touches n).length c29) (hoursL r.touches n)) (OpVal.build2 rfl rfl) (m := m29) (by repeat constructor) ⟨rfl, h29⟩) (m := m9) (by repeat constructor)) (fun m x hx => by obtain ⟨m1, l1, l2, e, hh⟩ := hx; exact ⟨_, _, e, hli.le l2, hh.le l1⟩)) rfl rfl rfl rfl ?_ (hG := ⟨(by repeat constructor), rfl, trivial⟩)
      refine DJ.abs (A := fun m x => ∃ ov hv2, IsCells m 2 x 1 [ov, hv2] ∧ IsInts m ov li ∧ IsInts m hv2 (hoursL r.touches n)) [(30, fun m q => IsCourseV m q ⟨li, hoursL r.touches n⟩)] (fun m30 v30 h30 => by obtain ⟨ov, hv2, rfl, hO, hH⟩ := h30; exact OpAbs.mono (OpAbs.join (OpAbs.lit [ov, hv2] rfl (Nat.le_of_ble_eq_true rfl) rfl rfl (by simp [Value.cells]) (Nat.le_of_ble_eq_true rfl) rfl (by simp; exact ⟨IsArr.one hO, IsArr.one hH⟩)) (m := m30) (by repeat constructor)) (fun m x hx => by obtain ⟨m1, l1, l2, hc, _⟩ := hx; exact ⟨ov, hv2, ⟨hc.1, hc.2.le l1⟩, hO.le l2, hH.le l2⟩)) rfl rfl rfl rfl ?_ (hG := ⟨(by repeat constructor), rfl, trivial⟩)
      refine DJ.nil ?_
      rintro m31 v31 h31
      rintro m30 v30 h30
      rintro m29 v29 h29
      (obtain ⟨ov, hv2, hc, hO, hH⟩ := h31; refine WL.appK (.agg #[ov, hv2]) rfl (fun _ => .head _) rfl hc (by repeat constructor) rfl rfl (by omega) (by omega) (Nat.le_of_ble_eq_true rfl) rfl rfl rfl ?_; intro a32 c32)
      refine .o rfl ?_; refine WL.nil ?_
      refine Kblock.normal (Kseq.go ?_)
      refine W.join fun mj hj => ?_
      refine W.region ?_; refine .o rfl ?_; refine .val (.incr rfl (by omega)) rfl rfl rfl ?_; refine .o rfl ?_; refine WL.nil ?_
      exact Kloop.next (n + 1, .slice a32 (vs2.length + 1) c32, mj, vs2 ++ [.agg #[ov, hv2]]) ⟨by dsimp only; omega, by dsimp only; rw [coursesOf_succ, ← List.append_assoc]; exact (hall2.le (hj _ (by simp))).push ⟨ov, hv2, rfl, hO.le (hj _ (by simp)), hH.le (hj _ (by simp))⟩⟩ (by dsimp only; omega) ⟨rfl, rfl, rfl, rfl, rfl, trivial⟩ (by simp) (.refl _)
    · refine W.exit (Kseq.exit (Kloop.exit (Kblock.here (Kblock.normal (Kseq.go ?_)))))
      have hnn : n = T := by omega
      subst hnn
      rw [← hct] at hall2
      refine W.region ?_; refine .o rfl ?_; refine .val (.incr rfl (by omega)) rfl rfl rfl ?_; refine .o rfl ?_; refine WL.nil ?_
      exact Kloop.next (i + 1, a2, m2, vs2) ⟨by dsimp only; omega, hall2⟩ (by dsimp only; omega) ⟨rfl, rfl, rfl, rfl, trivial⟩ (by simp) (.refl _)
  · refine W.exit (Kseq.exit (Kloop.exit (Kblock.here (Kseq.go (W.seq ?_)))))
    have hii : i = (truths r.table).length := by omega
    subst hii
    have hvl := hall.1
    refine W.freezeK (.head _) (fun b hb => (hF b hb).elim) (by omega) hall.size hall.one fun mr hmr => ?_
    refine W.join fun mj hj => ?_
    refine W.region ?_
    iterate 2 refine .o rfl ?_
    refine WL.nil ?_; refine Kseq.go ?_
    refine W.ret ?_; refine ⟨.inl rfl, [_], mj, ⟨.tmp rfl, trivial⟩, (by repeat constructor), ?_⟩
    exact ⟨vs, hall.le (hj _ (by simp)), by rw [hvl] at hmr; exact hmr.le (hj _ (by simp))⟩
set_option maxHeartbeats 1000000 in
/-- Truths -/
theorem truthsR6_any {h : Mem} {v : Value} {r : House} (hv : IsHouse h v r) (hV : ValidH r) (hs : SmH r) : FnR Tryz.prog 63 #[v] h (fun m q => IsCourses m q (truths6 r)) := by
  have hv' := hv
  obtain ⟨wv, pv, kv, tv, bv, sv, f, rfl, hA⟩ := hv
  have h5 := hs.signs
  have hcl := courses_len6 hV
  refine FnR.of_W (n := 31) Tryz.func63 rfl rfl (Nat.le_of_ble_eq_true rfl) fun c hr hD hF => ?_
  refine W.seq ?_; refine W.region ?_
  refine WL.box rfl rfl rfl rfl (fun b1 => ?_)
  refine .o rfl ?_; refine WL.nil ?_
  refine Kseq.go (W.seq ?_)
  refine W.freezeBox (.head _) (fun b hb => (hF b hb).elim) fun m1 h1 => ?_
  refine W.region ?_; refine .o rfl ?_; refine WL.nil ?_
  refine Kseq.go (W.seq ?_)
  refine W.region ?_; refine .val (.loadPW rfl h1 (by repeat constructor) rfl) rfl rfl rfl ?_; refine WL.abs (OpAbs.call rfl (fun m hm => coursesR_any (hv'.le (by repeat first | exact hm.1 | replace hm := hm.2)) hV hs)) rfl rfl rfl ?_
  rintro m7 v7 h7
  refine .o rfl ?_; refine WL.nil ?_
  refine Kseq.go (W.seq (W.seq ?_))
  obtain ⟨vs0, hvs0, hvA⟩ := h7
  let p : Course → Bool := fun c => decide (right6 r c = full6 r)
  refine W.region ?_; refine .o rfl ?_; refine WL.nil ?_
  refine Kseq.go (W.block ?_)
  refine W.nilRow 76 2 ?_; refine W.loop (σ := Nat × Value × Mem × List Value) (fun s => [(1, .pointer (some ⟨b1, 0, none⟩)), (3, s.2.1), (4, v7), (5, vi (s.1 : Int))]) (fun s => [m7, m1, h, s.2.2.1]) (fun s => [kr 76 2 s.2.1 s.2.2.2]) (fun s => s.1 ≤ (courses r).length ∧ AllC s.2.2.1 s.2.2.2 (((courses r).take s.1).filter p)) (fun s => (courses r).length - s.1) (0, .slice none 0 0, h, []) ⟨rfl, rfl, rfl, rfl, trivial⟩ (by simp) (.refl _) ⟨Nat.zero_le _, AllC.nil h⟩ ?_
  rintro ⟨i, a, m0, vs⟩ ⟨hi, hall⟩
  dsimp only at hi hall ⊢
  have hvl := hall.1
  have hfl := List.length_filter_le p ((courses r).take i)
  rw [List.length_take] at hfl
  refine W.seq (W.seq ?_)
  refine W.region ?_
  iterate 2 refine .o rfl ?_
  refine .val (.len rfl hvA) rfl rfl rfl ?_; refine .o rfl ?_; refine WL.nil ?_; refine Kseq.go ?_
  refine W.condD rfl rfl (fun hlt => ?_) (fun hge => ?_)
  · have hil : i < (courses r).length := by omega
    have hci := hvs0.2 i hil
    have htk := take_succ_getD (d := default) hil
    obtain ⟨c, hce⟩ : ∃ c, (courses r).getD i default = c := ⟨_, rfl⟩
    have hcm : c ∈ scenes r := hV.mem.1 (by rw [← hce]; exact getDc hil)
    have hfit := scene_fit hcm
    rw [hce] at hci htk
    have hcv := hci
    obtain ⟨ov, hv2, eci, hO, hH⟩ := hci
    refine W.skip (Kseq.go (W.seq (W.block (W.seq ?_))))
    refine W.draw 7 (by kernel_rfl) (by kernel_rfl) (by kernel_rfl) rfl ?_; refine .val [] (.loadPW rfl h1 (by repeat constructor) rfl) rfl rfl rfl rfl ?_; refine .val [] (.opv rfl) rfl rfl rfl rfl ?_; refine .val [] (.opv rfl) rfl rfl rfl rfl ?_; refine .val [] (.indexAddrN rfl rfl hvA hil) rfl rfl rfl rfl ?_
    refine .val [] (.cast (.loadEA rfl hvA (by repeat constructor) hil) (show _ = Value.agg #[ov, hv2] from by simp only [eci]; rfl)) rfl rfl rfl rfl ?_
    refine .val [] (.call rfl (fun m hm => rightR_any6 (hv'.le (by repeat first | exact hm.1 | replace hm := hm.2)) hV (IsCourseV.le (eci ▸ hcv) (by repeat first | exact hm.1 | replace hm := hm.2)) hfit.owners hfit.hours)) rfl rfl rfl rfl ?_; refine .val [] (.loadPW rfl h1 (by repeat constructor) rfl) rfl rfl rfl rfl ?_; refine DJ.nil ?_; refine .val (.call rfl (fun m hm => full6R_any (hv'.le (by repeat first | exact hm.1 | replace hm := hm.2)) (by omega))) rfl rfl rfl ?_; refine .val (.cast (.opv rfl) (show _ = Value.bool (p c) from congrArg Value.bool (decide_eq_decide.2 (by omega)))) rfl rfl rfl ?_; refine WL.nil ?_; refine Kseq.go ?_
    refine W.cond rfl rfl (fun hb => ?_) (fun hb => ?_)
    · skip
      refine W.region ?_
      iterate 3 refine .o rfl ?_
      refine .val (.indexAddrN rfl rfl hvA hil) rfl rfl rfl ?_
      refine .val (.cast (.loadEA rfl hvA (by repeat constructor) hil) (show _ = Value.agg #[ov, hv2] from by simp only [eci]; rfl)) rfl rfl rfl ?_
      refine WL.abs (OpAbs.mono (OpAbs.lit [ov, hv2] rfl (Nat.le_of_ble_eq_true rfl) rfl rfl (by simp [Value.cells]) (Nat.le_of_ble_eq_true rfl) rfl (by simp; exact ⟨IsArr.one hO, IsArr.one hH⟩)) (fun m' v' h' => h'.1)) rfl rfl rfl ?_
      rintro m28 v28 h28
      (refine WL.appK (.agg #[ov, hv2]) rfl (fun _ => .head _) rfl h28 (by repeat constructor) rfl rfl (by omega) (by omega) (Nat.le_of_ble_eq_true rfl) rfl rfl rfl ?_; intro a29 c29)
      refine .o rfl ?_; refine WL.nil ?_
      refine Kblock.normal (Kseq.go ?_)
      refine W.join fun mj hj => ?_
      refine W.region ?_; refine .o rfl ?_; refine .val (.incr rfl (by omega)) rfl rfl rfl ?_; refine .o rfl ?_; refine WL.nil ?_
      exact Kloop.next (i + 1, .slice a29 (vs.length + 1) c29, mj, vs ++ [.agg #[ov, hv2]]) ⟨by dsimp only; omega, by dsimp only; rw [htk, List.filter_append, List.filter_cons_of_pos (by exact hb), List.filter_nil]; exact (hall.le (hj _ (by simp))).push ⟨ov, hv2, rfl, hO.le (hj _ (by simp)), hH.le (hj _ (by simp))⟩⟩ (by dsimp only; omega) ⟨rfl, rfl, rfl, rfl, trivial⟩ (by simp) (.refl _)
    · refine W.skip (Kblock.normal (Kseq.go ?_))
      refine W.region ?_; refine .o rfl ?_; refine .val (.incr rfl (by omega)) rfl rfl rfl ?_; refine .o rfl ?_; refine WL.nil ?_
      exact Kloop.next (i + 1, a, m0, vs) ⟨by dsimp only; omega, by dsimp only; rw [htk, List.filter_append, List.filter_cons_of_neg (by rw [hb]; simp), List.filter_nil, List.append_nil]; exact hall⟩ (by dsimp only; omega) ⟨rfl, rfl, rfl, rfl, trivial⟩ (by simp) (.refl _)
  · refine W.exit (Kseq.exit (Kloop.exit (Kblock.here (Kseq.go (W.seq ?_)))))
    have hii : i = (courses r).length := by omega
    subst hii
    refine W.freezeK (.head _) (fun b hb => (hF b hb).elim) (by omega) hall.size hall.one fun mr hmr => ?_
    refine W.join fun mj hj => ?_
    rw [List.take_length] at hall hvl
    refine W.region ?_
    iterate 2 refine .o rfl ?_
    refine WL.nil ?_; refine Kseq.go ?_
    refine W.ret ?_; refine ⟨.inl rfl, [_], mj, ⟨.tmp rfl, trivial⟩, (by repeat constructor), ?_⟩
    exact ⟨vs, hall.le (hj _ (by simp)), by rw [hvl] at hmr; exact hmr.le (hj _ (by simp))⟩
end Go.Proofs.YtdnbkjgbehakpaaGreat
