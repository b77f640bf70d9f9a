/- Errands as values. -/
import Derived.Test.YtppkhehbkoeinaaT22
import Derived.Test.YtppkhehbkoeinaaP20
namespace Go.Proofs.Ytppkhehbkoeinaa
open Go Go.Eng Go.RowKit

def IsRgs (m : Mem) (v : Value) (rs : List Rg) : Prop := IsArr m 2 v rs.length (fun i j => match j with
  | 0 => .int .i64 (rs.getD i default).lo
  | _ => .int .i64 (rs.getD i default).hi)
theorem IsRgs.le {m m' : Mem} {v : Value} {xs : List Rg} (h : IsRgs m v xs) (hm : MLe m m') : IsRgs m' v xs := IsArr.le h hm
theorem IsRgs.bd {m : Mem} {v : Value} {xs : List Rg} (h : IsRgs m v xs) : xs.length ≤ 9223372036854775807 := by have := IsArr.len h; unfold maxLen at this; omega
theorem IsRgs.nil (m : Mem) : IsRgs m (.slice none 0 0) [] := IsArr.nil m 2 _
def rv2 (r : Rg) : Value := .agg #[vi r.lo, vi r.hi]
theorem rgs_of {m : Mem} {v : Value} {rs : List Rg} (h : IsArr m 2 v (rs.map rv2).length (fun i j => ((rs.map rv2).getD i undef).cells.getD j undef)) : IsRgs m v rs := by
  rw [List.length_map] at h
  refine h.congr fun i j hi hj => ?_
  have e : (rs.map rv2).getD i undef = rv2 (rs.getD i default) := by simp [List.getD_eq_getElem?_getD, List.getElem?_eq_getElem hi]
  rw [e]
  match j, hj with
  | 0, _ => rfl
  | 1, _ => rfl
/-- An errand, by its cells. -/
def IsErrand (m : Mem) (v : Value) (r : Errand) : Prop := ∃ wv pv hv sv f, v = .agg #[wv, pv, .int .i64 r.table.wrong, hv, sv, .int .i64 r.start, .int .i64 r.calls] ∧ IsWomen m wv r.table.women ∧ IsPieces m pv f r.table.pieces ∧ IsMarks m f r.table.pieces ∧ IsRgs m hv r.home ∧ IsRgs m sv r.streets
theorem IsErrand.le {m m' : Mem} {v : Value} {r : Errand} (h : IsErrand m v r) (hm : MLe m m') : IsErrand m' v r := by
  obtain ⟨wv, pv, hv, sv, f, e, h1, h2, h3, h4, h5⟩ := h
  exact ⟨wv, pv, hv, sv, f, e, h1.le hm, h2.le hm, h3.le hm, h4.le hm, h5.le hm⟩
theorem IsErrand.tableOf {m : Mem} {wv pv : Value} {f : Nat → Value} {r : Errand} (h1 : IsWomen m wv r.table.women) (h2 : IsPieces m pv f r.table.pieces) (h3 : IsMarks m f r.table.pieces) : IsTable m (.agg #[wv, pv, .int .i64 r.table.wrong]) r.table := ⟨wv, pv, f, rfl, h1, h2, h3⟩
/-- The cells of an errand. -/
abbrev ecs (wv pv hv sv : Value) (r : Errand) : Array Value := #[wv, pv, .int .i64 r.table.wrong, hv, sv, .int .i64 r.start, .int .i64 r.calls]
/-- The streets' minutes in an array of ten. -/
def pad10 (l : List Int) : List Int := l ++ List.replicate (10 - l.length) 0
theorem pad10_len {l : List Int} (h : l.length ≤ 10) : (pad10 l).length = 10 := by simp [pad10]; omega
theorem pad10_at {l : List Int} {i : Nat} (h : i < l.length) : (((pad10 l).map vi).toArray)[0 + i]? = some (vi (l.getD i 0)) := by
  rw [Nat.zero_add, List.getElem?_toArray, List.getElem?_map]
  unfold pad10
  rw [List.getElem?_append_left h, List.getElem?_eq_getElem h]
  simp [List.getD_eq_getElem?_getD, List.getElem?_eq_getElem h]
theorem pad10_store {xs : List Int} {k : Nat} (h : k < xs.length) (h10 : xs.length ≤ 10) : (((pad10 (xs.take k)).map vi).toArray).toList.take (0 + k) ++ ((vi (xs.getD k 0)).cells.toList ++ (((pad10 (xs.take k)).map vi).toArray).toList.drop (0 + k + 1)) = (pad10 (xs.take (k + 1))).map vi := by
  have e : xs.take (k + 1) = xs.take k ++ [xs.getD k 0] := take_succ_getD h
  have hl : (xs.take k).length = k := by simp; omega
  rw [e]
  unfold pad10
  rw [List.length_append, hl]
  simp only [Nat.zero_add, List.map_append, List.map_replicate, List.length_cons, List.length_nil]
  rw [List.take_append_of_le_length (by rw [List.length_map, hl]; exact Nat.le_refl _), List.take_of_length_le (by rw [List.length_map, hl]; exact Nat.le_refl _), List.drop_append, List.drop_of_length_le (by rw [List.length_map, hl]; omega)]
  simp only [List.length_map, hl, List.nil_append, List.drop_replicate, List.append_assoc, List.map_cons, List.map_nil]
  congr 3
  omega
/-- Errands that can be walked through. -/
structure SmE (r : Errand) : Prop where
  table : Sm r.table
  home : r.home.length ≤ 20
  streets : r.streets.length ≤ 20
end Go.Proofs.Ytppkhehbkoeinaa

/- The program's functions of chapter 11: their contracts. -/
namespace Go.Proofs.Ytppkhehbkoeinaa
open Go Go.Eng Go.RowKit

/-- within -/
theorem withinE_any {h : Mem} (n low high : Int) : FnV Try.prog 103 #[.int .i64 n, .int .i64 low, .int .i64 high] h (.bool (decide (low ≤ n ∧ n ≤ high))) := by
  refine FnR.val ?_
  refine FnR.of_W (n := 15) Try.func103 rfl rfl (Nat.le_of_ble_eq_true rfl) fun c hr hD hF => ?_
  refine W.seq ?_; refine W.region ?_; refine .o rfl ?_; refine WL.nil ?_
  refine Kseq.go (W.seq ?_)
  refine W.region ?_
  iterate 4 refine .o rfl ?_
  refine WL.split rfl rfl (fun g10 => ?_) (fun g10 => ?_)
  · refine .o rfl ?_
    iterate 4 refine .o rfl ?_
    refine WL.nil ?_; refine Kseq.go ?_
    (refine W.ret ?_; refine ⟨.inl rfl, [_], h, ⟨.tmp rfl, trivial⟩, (by repeat constructor), ?_⟩; exact congrArg Value.bool (by first | (simp [-List.getD_eq_getElem?_getD]; done) | (simp_all [-List.getD_eq_getElem?_getD]; done) | (simp [-List.getD_eq_getElem?_getD]; omega) | (rw [Bool.eq_iff_iff]; simp [-List.getD_eq_getElem?_getD]; omega) | (simp [-List.getD_eq_getElem?_getD] at *; omega)))
  · refine WL.pass rfl rfl rfl ?_
    refine WL.pass rfl rfl rfl ?_; refine WL.pass rfl rfl rfl ?_
    iterate 2 refine .o rfl ?_
    refine WL.nil ?_; refine Kseq.go ?_
    (refine W.ret ?_; refine ⟨.inl rfl, [_], h, ⟨.tmp rfl, trivial⟩, (by repeat constructor), ?_⟩; exact congrArg Value.bool (by first | (simp [-List.getD_eq_getElem?_getD]; done) | (simp_all [-List.getD_eq_getElem?_getD]; done) | (simp [-List.getD_eq_getElem?_getD]; omega) | (rw [Bool.eq_iff_iff]; simp [-List.getD_eq_getElem?_getD]; omega) | (simp [-List.getD_eq_getElem?_getD] at *; omega)))

/-- slices.IndexFunc of posser/errand.Range -/
theorem indexFuncRg_any {h : Mem} {v : Value} {N : Nat} {f : Nat → Nat → Value} {g : FuncId} [TC Try.prog g] {fs cs : Array Value} {p : Nat → Bool} (hv : IsArr h 2 v N f)
    (hp : ∀ i, i < N → ∀ m, MLe h m → FnV Try.prog g (fs ++ #[.agg ((List.range 2).map (f i)).toArray] ++ cs) m (.bool (p i))) : FnR Try.prog 145 #[v, .func (.func g) fs cs] h (fun _ r => ∃ i : Int, r = .int .i64 i ∧ (0 ≤ i ↔ ex N p = true)) := by
  have hlen := hv.len
  unfold maxLen at hlen
  refine FnR.of_W (n := 19) Try.func145 rfl rfl (Nat.le_of_ble_eq_true rfl) fun c hr hD hF => ?_
  refine W.seq ?_; refine W.region ?_; refine .o rfl ?_; refine WL.nil ?_
  refine Kseq.go (W.seq (W.seq ?_))
  refine W.region ?_; refine .o rfl ?_; refine .val (.len rfl (by assumption)) rfl rfl rfl ?_; refine .o rfl ?_; refine WL.nil ?_
  refine Kseq.go (W.block ?_)
  refine W.loopC (σ := Nat) (fun k => [(0, v), (1, .func (.func g) fs cs), (7, .int .i64 (N : Int)), (8, .int .i64 (k : Int))]) (fun k => k ≤ N ∧ ∀ j, j < k → p j = false) (fun k => N - k) 0 ⟨rfl, rfl, rfl, rfl, trivial⟩ ⟨Nat.zero_le _, fun j hj => absurd hj (Nat.not_lt_zero _)⟩ ?_
  rintro k ⟨hk, hall⟩
  refine W.seq ?_; refine W.region ?_; refine .o rfl ?_; refine WL.nil ?_
  refine Kseq.go (W.seq ?_)
  refine W.condD rfl rfl (fun hlt => ?_) (fun hge => ?_)
  · refine W.skip (Kseq.go (W.seq (W.block (W.seq ?_))))
    refine W.region ?_
    iterate 2 refine .o rfl ?_
    refine WL.nil ?_
    refine Kseq.go (W.seq ?_)
    refine W.region ?_
    iterate 3 refine .o rfl ?_
    refine .val (.indexAddrN rfl rfl (by assumption) (by omega)) rfl rfl rfl ?_; refine .val (.loadEA rfl (by assumption) (by repeat constructor) (by omega)) rfl rfl rfl ?_; refine .val (.callC rfl rfl (fun m hm => hp k (by omega) m (by repeat first | exact hm.1 | replace hm := hm.2))) rfl rfl rfl ?_; refine WL.nil ?_; refine Kseq.go ?_
    refine W.cond rfl rfl (fun he => ?_) (fun hne => ?_)
    · refine W.seq ?_
      refine W.region ?_
      iterate 2 refine .o rfl ?_
      refine WL.nil ?_; refine Kseq.go ?_
      refine W.ret ?_; refine Kblock.ret (Kseq.ret (Kloop.ret (Kblock.ret (Kseq.ret ?_)))); refine ⟨.inl rfl, [_], h, ⟨.tmp rfl, trivial⟩, (by repeat constructor), ?_⟩
      exact ⟨_, rfl, ⟨fun _ => ex_iff.2 ⟨k, by omega, he⟩, fun _ => by omega⟩⟩
    · refine W.skip (Kblock.normal (Kseq.go ?_))
      refine W.region ?_; refine .val (.incr rfl (by omega)) rfl rfl rfl ?_; refine .o rfl ?_; refine WL.nil ?_
      refine Kloop.nextC (k + 1) ⟨by omega, fun j hj => ?_⟩ (by omega) ⟨rfl, rfl, rfl, rfl, trivial⟩ (by simp) (.refl _)
      rcases Nat.lt_succ_iff_lt_or_eq.1 hj with h | rfl
      · exact hall j h
      · exact hne
  · refine W.exit (Kseq.exit (Kloop.exit (Kblock.here (Kseq.go (W.seq ?_)))))
    refine W.region ?_; refine .o rfl ?_; refine WL.nil ?_; refine Kseq.go ?_
    refine W.ret ?_; refine ⟨.inl rfl, [_], h, ⟨.tmp rfl, trivial⟩, (by repeat constructor), ?_⟩
    refine ⟨_, rfl, ⟨fun h => by omega, fun hm => ?_⟩⟩
    obtain ⟨j, hj, he⟩ := ex_iff.1 hm
    rw [hall j (by omega)] at he; cases he
/-- slices.ContainsFunc of posser/errand.Range -/
theorem containsFuncRg_any {h : Mem} {v : Value} {N : Nat} {f : Nat → Nat → Value} {g : FuncId} [TC Try.prog g] {fs cs : Array Value} {p : Nat → Bool} (hv : IsArr h 2 v N f)
    (hp : ∀ i, i < N → ∀ m, MLe h m → FnV Try.prog g (fs ++ #[.agg ((List.range 2).map (f i)).toArray] ++ cs) m (.bool (p i))) : FnV Try.prog 129 #[v, .func (.func g) fs cs] h (.bool (ex N p)) := by
  refine FnR.val ?_
  refine FnR.of_W (n := 9) Try.func129 rfl rfl (Nat.le_of_ble_eq_true rfl) fun c hr hD hF => ?_
  refine W.seq ?_; refine W.region ?_; refine .o rfl ?_; refine WL.nil ?_
  refine Kseq.go (W.seq ?_)
  refine W.region ?_
  iterate 2 refine .o rfl ?_
  refine WL.abs (OpAbs.call rfl (fun m hm => indexFuncRg_any (hv.le (by repeat first | exact hm.1 | replace hm := hm.2)) (fun i hi m' hm' => hp i hi m' (MLe.trans (by repeat first | exact hm.1 | replace hm := hm.2) hm')))) rfl rfl rfl ?_
  rintro m7 _ ⟨i, rfl, hi⟩
  iterate 2 refine .o rfl ?_
  refine WL.nil ?_; refine Kseq.go ?_
  refine W.ret ?_; refine ⟨.inl rfl, [_], h, ⟨.tmp rfl, trivial⟩, (by repeat constructor), ?_⟩
  exact congrArg Value.bool (by rw [Bool.eq_iff_iff, ← hi]; simp)

/-- all of posser/errand.Range, its inner function -/
theorem allInRg_any {h : Mem} {b : Nat} {g : FuncId} [TC Try.prog g] {fs cs : Array Value} {x : Value} {r : Bool} (hb : IsBox h b #[.func (.func g) fs cs] 156) (hx : ∃ x0 x1 : Value, x = .agg #[x0, x1])
    (hp : ∀ m, MLe h m → FnV Try.prog g (fs ++ #[x] ++ cs) m (.bool r)) : FnV Try.prog 130 #[x, .pointer (some ⟨b, 0, none⟩)] h (.bool (!r)) := by
  refine FnR.val ?_
  obtain ⟨x0, x1, rfl⟩ := hx
  refine FnR.of_W (n := 8) Try.func130 rfl rfl (Nat.le_of_ble_eq_true rfl) fun c hr hD hF => ?_
  refine W.seq ?_; refine W.region ?_
  refine WL.box rfl rfl rfl rfl (fun b2 => ?_)
  refine .o rfl ?_; refine WL.nil ?_
  refine Kseq.go (W.seq ?_)
  refine W.region ?_; refine .val (.loadP rfl (by assumption) (by repeat constructor) rfl) rfl rfl rfl ?_; refine .val (.loadBW rfl (.head _) rfl) rfl rfl rfl ?_; refine .val (.callC rfl rfl (fun m hm => hp m (by repeat first | exact hm.1 | replace hm := hm.2))) rfl rfl rfl ?_
  iterate 2 refine .o rfl ?_
  refine WL.nil ?_; refine Kseq.go ?_
  refine W.ret ?_; refine ⟨.inl rfl, [_], h, ⟨.tmp rfl, trivial⟩, (by repeat constructor), ?_⟩
  rfl
/-- all of posser/errand.Range -/
theorem allRg_any {h : Mem} {v : Value} {N : Nat} {f : Nat → Nat → Value} {g : FuncId} [TC Try.prog g] {fs cs : Array Value} {p : Nat → Bool} (hv : IsArr h 2 v N f)
    (hp : ∀ i, i < N → ∀ m, MLe h m → FnV Try.prog g (fs ++ #[.agg ((List.range 2).map (f i)).toArray] ++ cs) m (.bool (p i))) : FnV Try.prog 104 #[v, .func (.func g) fs cs] h (.bool (!ex N fun i => !p i)) := by
  refine FnR.val ?_
  refine FnR.of_W (n := 9) Try.func104 rfl rfl (Nat.le_of_ble_eq_true rfl) fun c hr hD hF => ?_
  refine W.seq ?_; refine W.region ?_
  refine WL.box rfl rfl rfl rfl (fun b3 => ?_)
  refine .o rfl ?_; refine WL.nil ?_
  refine Kseq.go (W.seq ?_)
  refine W.freezeBox (.head _) (fun b hb => (hF b hb).elim) fun mb hmb => ?_
  refine W.region ?_
  iterate 2 refine .o rfl ?_
  refine .val (.call rfl (fun m hm => containsFuncRg_any (p := fun i => !p i) (hv.le (by repeat first | exact hm.1 | replace hm := hm.2)) (fun i hi m' hm' => allInRg_any (hmb.le (MLe.trans (by repeat first | exact hm.1 | replace hm := hm.2) hm')) ⟨_, _, rfl⟩ (fun m2 hm2 => hp i hi m2 (MLe.trans (MLe.trans (by repeat first | exact hm.1 | replace hm := hm.2) hm') hm2))))) rfl rfl rfl ?_
  iterate 2 refine .o rfl ?_
  refine WL.nil ?_; refine Kseq.go ?_
  refine W.ret ?_; refine ⟨.inl rfl, [_], h, ⟨.tmp rfl, trivial⟩, (by repeat constructor), ?_⟩
  rfl

/-- slices.IndexFunc of posser/bundle.Move -/
theorem indexFuncMv_any {h : Mem} {v : Value} {N : Nat} {f : Nat → Nat → Value} {g : FuncId} [TC Try.prog g] {fs cs : Array Value} {p : Nat → Bool} (hv : IsArr h 3 v N f)
    (hp : ∀ i, i < N → ∀ m, MLe h m → FnV Try.prog g (fs ++ #[.agg ((List.range 3).map (f i)).toArray] ++ cs) m (.bool (p i))) : FnR Try.prog 148 #[v, .func (.func g) fs cs] h (fun _ r => ∃ i : Int, r = .int .i64 i ∧ (0 ≤ i ↔ ex N p = true)) := by
  have hlen := hv.len
  unfold maxLen at hlen
  refine FnR.of_W (n := 19) Try.func148 rfl rfl (Nat.le_of_ble_eq_true rfl) fun c hr hD hF => ?_
  refine W.seq ?_; refine W.region ?_; refine .o rfl ?_; refine WL.nil ?_
  refine Kseq.go (W.seq (W.seq ?_))
  refine W.region ?_; refine .o rfl ?_; refine .val (.len rfl (by assumption)) rfl rfl rfl ?_; refine .o rfl ?_; refine WL.nil ?_
  refine Kseq.go (W.block ?_)
  refine W.loopC (σ := Nat) (fun k => [(0, v), (1, .func (.func g) fs cs), (7, .int .i64 (N : Int)), (8, .int .i64 (k : Int))]) (fun k => k ≤ N ∧ ∀ j, j < k → p j = false) (fun k => N - k) 0 ⟨rfl, rfl, rfl, rfl, trivial⟩ ⟨Nat.zero_le _, fun j hj => absurd hj (Nat.not_lt_zero _)⟩ ?_
  rintro k ⟨hk, hall⟩
  refine W.seq ?_; refine W.region ?_; refine .o rfl ?_; refine WL.nil ?_
  refine Kseq.go (W.seq ?_)
  refine W.condD rfl rfl (fun hlt => ?_) (fun hge => ?_)
  · refine W.skip (Kseq.go (W.seq (W.block (W.seq ?_))))
    refine W.region ?_
    iterate 2 refine .o rfl ?_
    refine WL.nil ?_
    refine Kseq.go (W.seq ?_)
    refine W.region ?_
    iterate 3 refine .o rfl ?_
    refine .val (.indexAddrN rfl rfl (by assumption) (by omega)) rfl rfl rfl ?_; refine .val (.loadEA rfl (by assumption) (by repeat constructor) (by omega)) rfl rfl rfl ?_; refine .val (.callC rfl rfl (fun m hm => hp k (by omega) m (by repeat first | exact hm.1 | replace hm := hm.2))) rfl rfl rfl ?_; refine WL.nil ?_; refine Kseq.go ?_
    refine W.cond rfl rfl (fun he => ?_) (fun hne => ?_)
    · refine W.seq ?_
      refine W.region ?_
      iterate 2 refine .o rfl ?_
      refine WL.nil ?_; refine Kseq.go ?_
      refine W.ret ?_; refine Kblock.ret (Kseq.ret (Kloop.ret (Kblock.ret (Kseq.ret ?_)))); refine ⟨.inl rfl, [_], h, ⟨.tmp rfl, trivial⟩, (by repeat constructor), ?_⟩
      exact ⟨_, rfl, ⟨fun _ => ex_iff.2 ⟨k, by omega, he⟩, fun _ => by omega⟩⟩
    · refine W.skip (Kblock.normal (Kseq.go ?_))
      refine W.region ?_; refine .val (.incr rfl (by omega)) rfl rfl rfl ?_; refine .o rfl ?_; refine WL.nil ?_
      refine Kloop.nextC (k + 1) ⟨by omega, fun j hj => ?_⟩ (by omega) ⟨rfl, rfl, rfl, rfl, trivial⟩ (by simp) (.refl _)
      rcases Nat.lt_succ_iff_lt_or_eq.1 hj with h | rfl
      · exact hall j h
      · exact hne
  · refine W.exit (Kseq.exit (Kloop.exit (Kblock.here (Kseq.go (W.seq ?_)))))
    refine W.region ?_; refine .o rfl ?_; refine WL.nil ?_; refine Kseq.go ?_
    refine W.ret ?_; refine ⟨.inl rfl, [_], h, ⟨.tmp rfl, trivial⟩, (by repeat constructor), ?_⟩
    refine ⟨_, rfl, ⟨fun h => by omega, fun hm => ?_⟩⟩
    obtain ⟨j, hj, he⟩ := ex_iff.1 hm
    rw [hall j (by omega)] at he; cases he
/-- slices.ContainsFunc of posser/bundle.Move -/
theorem containsFuncMv_any {h : Mem} {v : Value} {N : Nat} {f : Nat → Nat → Value} {g : FuncId} [TC Try.prog g] {fs cs : Array Value} {p : Nat → Bool} (hv : IsArr h 3 v N f)
    (hp : ∀ i, i < N → ∀ m, MLe h m → FnV Try.prog g (fs ++ #[.agg ((List.range 3).map (f i)).toArray] ++ cs) m (.bool (p i))) : FnV Try.prog 139 #[v, .func (.func g) fs cs] h (.bool (ex N p)) := by
  refine FnR.val ?_
  refine FnR.of_W (n := 9) Try.func139 rfl rfl (Nat.le_of_ble_eq_true rfl) fun c hr hD hF => ?_
  refine W.seq ?_; refine W.region ?_; refine .o rfl ?_; refine WL.nil ?_
  refine Kseq.go (W.seq ?_)
  refine W.region ?_
  iterate 2 refine .o rfl ?_
  refine WL.abs (OpAbs.call rfl (fun m hm => indexFuncMv_any (hv.le (by repeat first | exact hm.1 | replace hm := hm.2)) (fun i hi m' hm' => hp i hi m' (MLe.trans (by repeat first | exact hm.1 | replace hm := hm.2) hm')))) rfl rfl rfl ?_
  rintro m7 _ ⟨i, rfl, hi⟩
  iterate 2 refine .o rfl ?_
  refine WL.nil ?_; refine Kseq.go ?_
  refine W.ret ?_; refine ⟨.inl rfl, [_], h, ⟨.tmp rfl, trivial⟩, (by repeat constructor), ?_⟩
  exact congrArg Value.bool (by rw [Bool.eq_iff_iff, ← hi]; simp)

/-- all of posser/bundle.Move, its inner function -/
theorem allInMv_any {h : Mem} {b : Nat} {g : FuncId} [TC Try.prog g] {fs cs : Array Value} {x : Value} {r : Bool} (hb : IsBox h b #[.func (.func g) fs cs] 167) (hx : ∃ x0 x1 x2 : Value, x = .agg #[x0, x1, x2])
    (hp : ∀ m, MLe h m → FnV Try.prog g (fs ++ #[x] ++ cs) m (.bool r)) : FnV Try.prog 140 #[x, .pointer (some ⟨b, 0, none⟩)] h (.bool (!r)) := by
  refine FnR.val ?_
  obtain ⟨x0, x1, x2, rfl⟩ := hx
  refine FnR.of_W (n := 8) Try.func140 rfl rfl (Nat.le_of_ble_eq_true rfl) fun c hr hD hF => ?_
  refine W.seq ?_; refine W.region ?_
  refine WL.box rfl rfl rfl rfl (fun b2 => ?_)
  refine .o rfl ?_; refine WL.nil ?_
  refine Kseq.go (W.seq ?_)
  refine W.region ?_; refine .val (.loadP rfl (by assumption) (by repeat constructor) rfl) rfl rfl rfl ?_; refine .val (.loadBW rfl (.head _) rfl) rfl rfl rfl ?_; refine .val (.callC rfl rfl (fun m hm => hp m (by repeat first | exact hm.1 | replace hm := hm.2))) rfl rfl rfl ?_
  iterate 2 refine .o rfl ?_
  refine WL.nil ?_; refine Kseq.go ?_
  refine W.ret ?_; refine ⟨.inl rfl, [_], h, ⟨.tmp rfl, trivial⟩, (by repeat constructor), ?_⟩
  rfl
/-- all of posser/bundle.Move -/
theorem allMv_any {h : Mem} {v : Value} {N : Nat} {f : Nat → Nat → Value} {g : FuncId} [TC Try.prog g] {fs cs : Array Value} {p : Nat → Bool} (hv : IsArr h 3 v N f)
    (hp : ∀ i, i < N → ∀ m, MLe h m → FnV Try.prog g (fs ++ #[.agg ((List.range 3).map (f i)).toArray] ++ cs) m (.bool (p i))) : FnV Try.prog 114 #[v, .func (.func g) fs cs] h (.bool (!ex N fun i => !p i)) := by
  refine FnR.val ?_
  refine FnR.of_W (n := 9) Try.func114 rfl rfl (Nat.le_of_ble_eq_true rfl) fun c hr hD hF => ?_
  refine W.seq ?_; refine W.region ?_
  refine WL.box rfl rfl rfl rfl (fun b3 => ?_)
  refine .o rfl ?_; refine WL.nil ?_
  refine Kseq.go (W.seq ?_)
  refine W.freezeBox (.head _) (fun b hb => (hF b hb).elim) fun mb hmb => ?_
  refine W.region ?_
  iterate 2 refine .o rfl ?_
  refine .val (.call rfl (fun m hm => containsFuncMv_any (p := fun i => !p i) (hv.le (by repeat first | exact hm.1 | replace hm := hm.2)) (fun i hi m' hm' => allInMv_any (hmb.le (MLe.trans (by repeat first | exact hm.1 | replace hm := hm.2) hm')) ⟨_, _, _, rfl⟩ (fun m2 hm2 => hp i hi m2 (MLe.trans (MLe.trans (by repeat first | exact hm.1 | replace hm := hm.2) hm') hm2))))) rfl rfl rfl ?_
  iterate 2 refine .o rfl ?_
  refine WL.nil ?_; refine Kseq.go ?_
  refine W.ret ?_; refine ⟨.inl rfl, [_], h, ⟨.tmp rfl, trivial⟩, (by repeat constructor), ?_⟩
  rfl

/-- Range.greatest -/
theorem rgGreatest_any {h : Mem} (r : Rg) : FnV Try.prog 126 #[.agg #[vi r.lo, vi r.hi]] h (vi r.hi) := by
  refine FnR.val ?_
  refine FnR.of_W (n := 5) Try.func126 rfl rfl (Nat.le_of_ble_eq_true rfl) fun c hr hD hF => ?_
  refine W.seq ?_; refine W.region ?_
  refine WL.box rfl rfl rfl rfl (fun b1 => ?_)
  refine .o rfl ?_; refine WL.nil ?_
  refine Kseq.go (W.seq ?_)
  refine W.region ?_; refine .val (.fieldAddrB rfl) rfl rfl rfl ?_; refine .val (.loadB rfl (.head _) rfl) rfl rfl rfl ?_; refine .o rfl ?_; refine WL.nil ?_; refine Kseq.go ?_
  refine W.ret ?_; refine ⟨.inl rfl, [_], h, ⟨.tmp rfl, trivial⟩, (by repeat constructor), ?_⟩
  rfl
/-- limit.bounds -/
theorem limitBounds_any {h : Mem} (r : Rg) (most : Int) : FnV Try.prog 101 #[vi most, .agg #[vi r.lo, vi r.hi]] h (.bool (inside r most)) := by
  refine FnR.val ?_
  refine FnR.of_W (n := 21) Try.func101 rfl rfl (Nat.le_of_ble_eq_true rfl) fun c hr hD hF => ?_
  refine W.seq ?_; refine W.region ?_
  refine WL.box rfl rfl rfl rfl (fun b3 => ?_)
  refine .o rfl ?_; refine WL.nil ?_
  refine Kseq.go (W.seq ?_)
  refine W.region ?_; refine .val (.fieldAddrB rfl) rfl rfl rfl ?_; refine .val (.loadB rfl (.head _) rfl) rfl rfl rfl ?_
  iterate 2 refine .o rfl ?_
  refine WL.split rfl rfl (fun g8 => ?_) (fun g8 => ?_)
  · refine .val (.fieldAddrB rfl) rfl rfl rfl ?_
    refine .val (.loadB rfl (.head _) rfl) rfl rfl rfl ?_; refine .val (.fieldAddrB rfl) rfl rfl rfl ?_; refine .val (.loadB rfl (.head _) rfl) rfl rfl rfl ?_
    iterate 3 refine .o rfl ?_
    refine WL.split rfl rfl (fun g15 => ?_) (fun g15 => ?_)
    · refine .val (.fieldAddrB rfl) rfl rfl rfl ?_
      refine .val (.loadB rfl (.head _) rfl) rfl rfl rfl ?_
      iterate 4 refine .o rfl ?_
      refine WL.nil ?_; refine Kseq.go ?_
      (refine W.ret ?_; refine ⟨.inl rfl, [_], h, ⟨.tmp rfl, trivial⟩, (by repeat constructor), ?_⟩; exact congrArg Value.bool (by first | (simp [inside, -List.getD_eq_getElem?_getD]; done) | (simp_all [-List.getD_eq_getElem?_getD]; done) | (simp [inside, -List.getD_eq_getElem?_getD]; omega) | (rw [Bool.eq_iff_iff]; simp [inside, -List.getD_eq_getElem?_getD]; omega) | (simp [inside, -List.getD_eq_getElem?_getD] at *; omega)))
    · refine WL.pass rfl rfl rfl ?_
      refine WL.pass rfl rfl rfl ?_; refine WL.pass rfl rfl rfl ?_; refine WL.pass rfl rfl rfl ?_
      iterate 2 refine .o rfl ?_
      refine WL.nil ?_; refine Kseq.go ?_
      (refine W.ret ?_; refine ⟨.inl rfl, [_], h, ⟨.tmp rfl, trivial⟩, (by repeat constructor), ?_⟩; exact congrArg Value.bool (by first | (simp [inside, -List.getD_eq_getElem?_getD]; done) | (simp_all [-List.getD_eq_getElem?_getD]; done) | (simp [inside, -List.getD_eq_getElem?_getD]; omega) | (rw [Bool.eq_iff_iff]; simp [inside, -List.getD_eq_getElem?_getD]; omega) | (simp [inside, -List.getD_eq_getElem?_getD] at *; omega)))
  · refine WL.pass rfl rfl rfl ?_
    refine WL.pass rfl rfl rfl ?_; refine WL.pass rfl rfl rfl ?_; refine WL.pass rfl rfl rfl ?_; refine WL.pass rfl rfl rfl ?_
    iterate 2 refine .o rfl ?_
    refine WL.pass rfl rfl rfl ?_; refine WL.pass rfl rfl rfl ?_; refine WL.pass rfl rfl rfl ?_; refine WL.pass rfl rfl rfl ?_
    iterate 2 refine .o rfl ?_
    refine WL.nil ?_; refine Kseq.go ?_
    (refine W.ret ?_; refine ⟨.inl rfl, [_], h, ⟨.tmp rfl, trivial⟩, (by repeat constructor), ?_⟩; exact congrArg Value.bool (by first | (simp [inside, -List.getD_eq_getElem?_getD]; done) | (simp_all [-List.getD_eq_getElem?_getD]; done) | (simp [inside, -List.getD_eq_getElem?_getD]; omega) | (rw [Bool.eq_iff_iff]; simp [inside, -List.getD_eq_getElem?_getD]; omega) | (simp [inside, -List.getD_eq_getElem?_getD] at *; omega)))
/-- minimum -/
theorem minimumE_any {h : Mem} {v : Value} {x y : Int} (hv : IsInts h v [x, y]) : FnV Try.prog 149 #[v] h (vi (min x y)) := by
  refine FnR.val ?_
  refine FnR.of_W (n := 5) Try.func149 rfl rfl (Nat.le_of_ble_eq_true rfl) fun c hr hD hF => ?_
  refine W.seq ?_; refine W.region ?_; refine .o rfl ?_; refine WL.nil ?_
  refine Kseq.go (W.seq ?_)
  refine W.region ?_; refine .o rfl ?_; refine .val (.call rfl (fun m hm => min_any (hv.le (by repeat first | exact hm.1 | replace hm := hm.2)) (by simp))) rfl rfl rfl ?_; refine .o rfl ?_; refine WL.nil ?_; refine Kseq.go ?_
  refine W.ret ?_; refine ⟨.inl rfl, [_], h, ⟨.tmp rfl, trivial⟩, (by repeat constructor), ?_⟩
  rfl
/-- women -/
theorem womenE_any {h : Mem} {v : Value} {r : Errand} (hv : IsErrand h v r) : FnV Try.prog 102 #[v] h (vi (r.n : Int)) := by
  obtain ⟨wv, pv, hov, sv, f, rfl, hW, hP, hM, hH, hS⟩ := hv
  refine FnR.val ?_
  refine FnR.of_W (n := 7) Try.func102 rfl rfl (Nat.le_of_ble_eq_true rfl) fun c hr hD hF => ?_
  refine W.seq ?_; refine W.region ?_
  refine WL.box rfl rfl rfl rfl (fun b1 => ?_)
  refine .o rfl ?_; refine WL.nil ?_
  refine Kseq.go (W.seq ?_)
  refine W.region ?_; refine .val (.fieldAddrB rfl) rfl rfl rfl ?_; refine .val (.fieldAddrB rfl) rfl rfl rfl ?_; refine .val (.loadB rfl (.head _) rfl) rfl rfl rfl ?_; refine .val (.len rfl (by assumption)) rfl rfl rfl ?_; refine .o rfl ?_; refine WL.nil ?_; refine Kseq.go ?_
  refine W.ret ?_; refine ⟨.inl rfl, [_], h, ⟨.tmp rfl, trivial⟩, (by repeat constructor), ?_⟩
  rfl
/-- always -/
theorem always_any {h : Mem} : FnV Try.prog 66 #[] h (.bool true) := by
  refine FnR.val ?_
  refine FnR.of_W (n := 1) Try.func66 rfl rfl (Nat.le_of_ble_eq_true rfl) fun c hr hD hF => ?_
  refine W.seq ?_; refine W.region ?_; refine .o rfl ?_; refine WL.nil ?_
  refine Kseq.go (W.seq ?_)
  refine W.region ?_; refine .o rfl ?_; refine WL.nil ?_; refine Kseq.go ?_
  refine W.ret ?_; refine ⟨.inl rfl, [_], h, ⟨.tmp rfl, trivial⟩, (by repeat constructor), ?_⟩
  rfl
end Go.Proofs.Ytppkhehbkoeinaa

/- The program's functions of chapter 11, on: their contracts. -/
namespace Go.Proofs.Ytppkhehbkoeinaa
open Go Go.Eng Go.RowKit

/-- What is wrong with the arguments. -/
def argB (r : Errand) : Bool := !decide (r.home.length = r.n) || !decide (r.streets.length = r.n * (r.n + 1) / 2) || decide (r.calls < 0) || !decide (0 ≤ r.start ∧ r.start ≤ 1439) || ex r.home.length (fun i => !inside (r.home.getD i default) 1439) || ex r.streets.length (fun i => !inside (r.streets.getD i default) 60)
theorem argB_eq (r : Errand) : argB r = (!decide (r.home.length = r.n ∧ r.streets.length = r.n * (r.n + 1) / 2 ∧ 0 ≤ r.calls ∧ 0 ≤ r.start ∧ r.start ≤ 1439) || ex r.home.length (fun i => !inside (r.home.getD i default) 1439) || ex r.streets.length (fun i => !inside (r.streets.getD i default) 60)) := by
  unfold argB
  congr 2
  rw [Bool.eq_iff_iff]
  simp only [Bool.or_eq_true, Bool.not_eq_true', decide_eq_false_iff_not, decide_eq_true_eq]
  omega
theorem faultT_ask (r : Errand) : faultT r = if askE r.table ≠ 0 then askE r.table else if 4 < r.n ∨ 7 < r.calls then 3
    else if argB r then 1 else 0 := by
  rw [argB_eq]
  unfold faultT askE
  by_cases h0 : fault r.table = 0
  · rw [if_pos h0, if_neg (by simpa using h0), ask_truths (fault_zero.1 h0)]
    by_cases h1 : truths r.table = []
    · rw [if_pos h1, if_pos h1]; simp
    · rw [if_neg h1, if_neg h1, if_neg (show ¬ (0 : Int) ≠ 0 by simp)]
      by_cases h2 : 4 < r.n ∨ 7 < r.calls
      · rw [if_pos h2, if_pos h2]
      · rw [if_neg h2, if_neg h2]
        by_cases h3 : r.home.length = r.n ∧ r.streets.length = r.n * (r.n + 1) / 2 ∧ 0 ≤ r.calls ∧ 0 ≤ r.start ∧ r.start ≤ 1439
        · rw [if_neg (by omega)]
          rw [decide_eq_true h3]
          generalize ex r.home.length (fun i => !inside (r.home.getD i default) 1439) = x
          generalize ex r.streets.length (fun i => !inside (r.streets.getD i default) 60) = y
          cases x <;> cases y <;> rfl
        · rw [if_pos (by omega)]
          simp only [h3, decide_false, Bool.not_false, Bool.true_or, if_true]
  · rw [if_neg h0, if_pos (by simpa using h0), if_pos (by simpa using h0)]
/-- CheckErrand -/
theorem checkE_any {h : Mem} {v : Value} {r : Errand} (hv : IsErrand h v r) (hs : SmE r) : FnV Try.prog 50 #[v] h (.int .i64 (faultT r)) := by
  have hv' := hv
  obtain ⟨wv, pv, hov, sv, f, rfl, hW, hP, hM, hH, hS⟩ := hv
  have hT := IsErrand.tableOf hW hP hM
  have hs1 := hs.table.1
  have hs2 := hs.home
  have hs3 := hs.streets
  have hn : r.n ≤ 50 := hs1
  refine FnR.val ?_
  refine FnR.of_W (n := 71) Try.func50 rfl rfl (Nat.le_of_ble_eq_true rfl) fun c hr hD hF => ?_
  refine W.seq ?_; refine W.region ?_
  refine WL.box rfl rfl rfl rfl (fun b1 => ?_)
  refine .o rfl ?_; refine WL.nil ?_
  refine Kseq.go (W.seq (W.seq ?_))
  refine W.region ?_; refine .val (.fieldAddrB rfl) rfl rfl rfl ?_; refine .val (.loadBA (vs := [wv, pv, .int .i64 r.table.wrong]) rfl (.head _) rfl rfl) rfl rfl rfl ?_; refine WL.abs (OpAbs.call rfl (fun m hm => movesT_any (hT.le (by repeat first | exact hm.1 | replace hm := hm.2)) hs.table)) rfl rfl rfl ?_
  rintro m11 _ ⟨lv, rfl, hL⟩
  iterate 5 refine .o rfl ?_
  refine WL.nil ?_
  refine Kseq.go (W.seq ?_)
  refine W.region ?_
  iterate 2 refine .o rfl ?_
  refine WL.nil ?_; refine Kseq.go ?_
  refine W.cond rfl rfl (fun he => ?_) (fun hne => ?_)
  · refine W.seq ?_
    refine W.region ?_
    iterate 2 refine .o rfl ?_
    refine WL.nil ?_; refine Kseq.go ?_
    refine W.ret ?_; refine Kseq.ret ?_; refine ⟨.inl rfl, [_], h, ⟨.tmp rfl, trivial⟩, (by repeat constructor), ?_⟩
    exact congrArg (Value.int .i64) (by rw [faultT_ask, if_pos (by simpa using he)])
  have h0 : ¬ askE r.table ≠ 0 := by simpa using hne
  refine W.skip (Kseq.go (W.seq ?_))
  refine W.region ?_
  iterate 4 refine .o rfl ?_
  refine WL.nil ?_
  refine Kseq.go (W.seq ?_)
  refine W.region ?_; refine .val (.loadBW rfl (.head _) rfl) rfl rfl rfl ?_; refine .val (.call rfl (fun m hm => womenE_any (hv'.le (by repeat first | exact hm.1 | replace hm := hm.2)))) rfl rfl rfl ?_; refine .o rfl ?_; refine WL.nil ?_
  refine Kseq.go (W.seq (W.block (W.seq ?_)))
  let l0 : List (Nat × Value) := [(1, .pointer (some ⟨b1, 0, none⟩)), (5, .func (.func 101) #[vi 1439] #[]), (6, .func (.func 101) #[vi 60] #[]), (7, vi (r.n : Int))]
  refine W.toS ((21, .bool (decide (4 < r.n ∨ 7 < r.calls))) :: l0) ?_ ?_
  · skip
    refine W.region ?_
    iterate 3 refine .o rfl ?_
    refine WL.split rfl rfl (fun g24 => ?_) (fun g24 => ?_)
    · refine WL.pass rfl rfl rfl ?_
      refine WL.pass rfl rfl rfl ?_; refine WL.pass rfl rfl rfl ?_
      iterate 2 refine .o rfl ?_
      refine WL.nil ?_
      exact Keff.intro ⟨congrArg (fun b => some (Value.bool b)) (by first | (simp [-List.getD_eq_getElem?_getD]; done) | (simp_all [-List.getD_eq_getElem?_getD]; done) | (simp [-List.getD_eq_getElem?_getD]; omega) | (rw [Bool.eq_iff_iff]; simp [-List.getD_eq_getElem?_getD]; omega) | (simp [-List.getD_eq_getElem?_getD] at *; omega)), rfl, rfl, rfl, rfl, trivial⟩ (fun _ h => h) (by repeat first | exact .refl _ | refine .cons _ ?_)
    · refine .val (.fieldAddrB rfl) rfl rfl rfl ?_
      refine .val (.loadB rfl (.head _) rfl) rfl rfl rfl ?_
      iterate 3 refine .o rfl ?_
      refine WL.nil ?_
      exact Keff.intro ⟨congrArg (fun b => some (Value.bool b)) (by first | (simp [-List.getD_eq_getElem?_getD]; done) | (simp_all [-List.getD_eq_getElem?_getD]; done) | (simp [-List.getD_eq_getElem?_getD]; omega) | (rw [Bool.eq_iff_iff]; simp [-List.getD_eq_getElem?_getD]; omega) | (simp [-List.getD_eq_getElem?_getD] at *; omega)), rfl, rfl, rfl, rfl, trivial⟩ (fun _ h => h) (by repeat first | exact .refl _ | refine .cons _ ?_)
  refine Kseq.go ?_
  refine W.condD rfl rfl (fun h1 => ?_) (fun h1 => ?_)
  · refine W.seq ?_
    refine W.region ?_; refine .o rfl ?_; refine WL.nil ?_; refine Kseq.go ?_
    refine W.ret ?_; refine Kblock.ret (Kseq.ret ?_); refine ⟨.inl rfl, [_], h, ⟨.tmp rfl, trivial⟩, (by repeat constructor), ?_⟩
    exact congrArg (Value.int .i64) (by rw [faultT_ask, if_neg h0, if_pos h1])
  have e43 : (r.n : Int) * ((r.n + 1 : Nat) : Int) / 2 = ((r.n * (r.n + 1) / 2 : Nat) : Int) := by rw [Int.natCast_ediv, Int.natCast_mul]; rfl
  have hm : (r.n : Int) * ((r.n + 1 : Nat) : Int) ≤ 4 * 5 := Int.mul_le_mul (by omega) (by omega) (by omega) (by omega)
  have hm0 : 0 ≤ (r.n : Int) * ((r.n + 1 : Nat) : Int) := Int.mul_nonneg (by omega) (by omega)
  refine W.seq ?_; refine W.toS [(1, .pointer (some ⟨b1, 0, none⟩)), (29, .bool (argB r))] ?_ ?_
  · unfold argB
    generalize r.n * (r.n + 1) / 2 = q at *
    refine W.region ?_; refine .val (.fieldAddrB rfl) rfl rfl rfl ?_; refine .val (.loadB rfl (.head _) rfl) rfl rfl rfl ?_; refine .val (.len rfl (by assumption)) rfl rfl rfl ?_
    iterate 3 refine .o rfl ?_
    refine WL.splitN rfl rfl (fun g35 => ?_) (fun g35 => ?_)
    · refine WL.pass rfl rfl rfl ?_
      refine WL.pass rfl rfl rfl ?_; refine WL.pass rfl rfl rfl ?_; refine WL.pass rfl rfl rfl ?_; refine WL.pass rfl rfl rfl ?_; refine WL.pass rfl rfl rfl ?_; refine WL.pass rfl rfl rfl ?_; refine WL.pass rfl rfl rfl ?_; refine WL.pass rfl rfl rfl ?_
      iterate 2 refine .o rfl ?_
      refine WL.pass rfl rfl rfl ?_; refine WL.pass rfl rfl rfl ?_; refine WL.pass rfl rfl rfl ?_
      iterate 2 refine .o rfl ?_
      refine WL.pass rfl rfl rfl ?_; refine WL.pass rfl rfl rfl ?_; refine WL.pass rfl rfl rfl ?_; refine WL.pass rfl rfl rfl ?_
      iterate 2 refine .o rfl ?_
      refine WL.pass rfl rfl rfl ?_; refine WL.pass rfl rfl rfl ?_; refine WL.pass rfl rfl rfl ?_; refine WL.pass rfl rfl rfl ?_; refine WL.pass rfl rfl rfl ?_
      iterate 2 refine .o rfl ?_
      refine WL.pass rfl rfl rfl ?_; refine WL.pass rfl rfl rfl ?_; refine WL.pass rfl rfl rfl ?_; refine WL.pass rfl rfl rfl ?_; refine WL.pass rfl rfl rfl ?_
      iterate 2 refine .o rfl ?_
      refine WL.nil ?_
      exact Keff.intro ⟨rfl, congrArg (fun b => some (Value.bool b)) (by first | exact (by first | (simp [-List.getD_eq_getElem?_getD]; done) | (simp_all [-List.getD_eq_getElem?_getD]; done) | (simp [-List.getD_eq_getElem?_getD]; omega) | (rw [Bool.eq_iff_iff]; simp [Bool.not_not, -List.getD_eq_getElem?_getD]; omega) | (simp [Bool.not_not, -List.getD_eq_getElem?_getD] at *; omega)) | (rw [show decide (r.home.length = r.n) = true from decide_eq_true (by omega), show decide (r.streets.length = q) = true from decide_eq_true (by omega), show decide (r.calls < 0) = false from decide_eq_false (by omega), show decide (0 ≤ r.start ∧ r.start ≤ 1439) = true from decide_eq_true (by omega)]; rw [Bool.not_not] at g64; rw [Bool.not_not, g64]; rfl)), trivial⟩ (fun _ h => h) (by repeat first | exact .refl _ | refine .cons _ ?_)
    · refine .val (.fieldAddrB rfl) rfl rfl rfl ?_
      refine .val (.loadB rfl (.head _) rfl) rfl rfl rfl ?_; refine .val (.len rfl (by assumption)) rfl rfl rfl ?_
      iterate 2 refine .o rfl ?_
      refine .val (.incr rfl (by omega)) rfl rfl rfl ?_; refine .val (.mul rfl rfl (Int.le_trans (by decide) hm0) (Int.le_trans hm (by decide))) rfl rfl rfl ?_; refine .val (.cast (.quo rfl rfl hm0 (by omega) (Int.le_trans hm (by decide))) (congrArg (Value.int .i64) e43)) rfl rfl rfl ?_
      iterate 3 refine .o rfl ?_
      refine WL.splitN rfl rfl (fun g46 => ?_) (fun g46 => ?_)
      · refine WL.pass rfl rfl rfl ?_
        refine WL.pass rfl rfl rfl ?_; refine WL.pass rfl rfl rfl ?_
        iterate 2 refine .o rfl ?_
        refine WL.pass rfl rfl rfl ?_; refine WL.pass rfl rfl rfl ?_; refine WL.pass rfl rfl rfl ?_; refine WL.pass rfl rfl rfl ?_
        iterate 2 refine .o rfl ?_
        refine WL.pass rfl rfl rfl ?_; refine WL.pass rfl rfl rfl ?_; refine WL.pass rfl rfl rfl ?_; refine WL.pass rfl rfl rfl ?_; refine WL.pass rfl rfl rfl ?_
        iterate 2 refine .o rfl ?_
        refine WL.pass rfl rfl rfl ?_; refine WL.pass rfl rfl rfl ?_; refine WL.pass rfl rfl rfl ?_; refine WL.pass rfl rfl rfl ?_; refine WL.pass rfl rfl rfl ?_
        iterate 2 refine .o rfl ?_
        refine WL.nil ?_
        exact Keff.intro ⟨rfl, congrArg (fun b => some (Value.bool b)) (by first | exact (by first | (simp [-List.getD_eq_getElem?_getD]; done) | (simp_all [-List.getD_eq_getElem?_getD]; done) | (simp [-List.getD_eq_getElem?_getD]; omega) | (rw [Bool.eq_iff_iff]; simp [Bool.not_not, -List.getD_eq_getElem?_getD]; omega) | (simp [Bool.not_not, -List.getD_eq_getElem?_getD] at *; omega)) | (rw [show decide (r.home.length = r.n) = true from decide_eq_true (by omega), show decide (r.streets.length = q) = true from decide_eq_true (by omega), show decide (r.calls < 0) = false from decide_eq_false (by omega), show decide (0 ≤ r.start ∧ r.start ≤ 1439) = true from decide_eq_true (by omega)]; rw [Bool.not_not] at g64; rw [Bool.not_not, g64]; rfl)), trivial⟩ (fun _ h => h) (by repeat first | exact .refl _ | refine .cons _ ?_)
      · refine .val (.fieldAddrB rfl) rfl rfl rfl ?_
        refine .val (.loadB rfl (.head _) rfl) rfl rfl rfl ?_
        iterate 3 refine .o rfl ?_
        refine WL.split rfl rfl (fun g51 => ?_) (fun g51 => ?_)
        · refine WL.pass rfl rfl rfl ?_
          refine WL.pass rfl rfl rfl ?_; refine WL.pass rfl rfl rfl ?_; refine WL.pass rfl rfl rfl ?_
          iterate 2 refine .o rfl ?_
          refine WL.pass rfl rfl rfl ?_; refine WL.pass rfl rfl rfl ?_; refine WL.pass rfl rfl rfl ?_; refine WL.pass rfl rfl rfl ?_; refine WL.pass rfl rfl rfl ?_
          iterate 2 refine .o rfl ?_
          refine WL.pass rfl rfl rfl ?_; refine WL.pass rfl rfl rfl ?_; refine WL.pass rfl rfl rfl ?_; refine WL.pass rfl rfl rfl ?_; refine WL.pass rfl rfl rfl ?_
          iterate 2 refine .o rfl ?_
          refine WL.nil ?_
          exact Keff.intro ⟨rfl, congrArg (fun b => some (Value.bool b)) (by first | exact (by first | (simp [-List.getD_eq_getElem?_getD]; done) | (simp_all [-List.getD_eq_getElem?_getD]; done) | (simp [Bool.not_not, -List.getD_eq_getElem?_getD]; omega) | (rw [Bool.eq_iff_iff]; simp [Bool.not_not, -List.getD_eq_getElem?_getD]; omega) | (simp [Bool.not_not, -List.getD_eq_getElem?_getD] at *; omega)) | (rw [show decide (r.home.length = r.n) = true from decide_eq_true (by omega), show decide (r.streets.length = q) = true from decide_eq_true (by omega), show decide (r.calls < 0) = false from decide_eq_false (by omega), show decide (0 ≤ r.start ∧ r.start ≤ 1439) = true from decide_eq_true (by omega)]; rw [Bool.not_not] at g64; rw [Bool.not_not, g64]; rfl)), trivial⟩ (fun _ h => h) (by repeat first | exact .refl _ | refine .cons _ ?_)
        · refine .val (.fieldAddrB rfl) rfl rfl rfl ?_
          refine .val (.loadB rfl (.head _) rfl) rfl rfl rfl ?_; refine .val (.call rfl (fun m hm => withinE_any _ _ _)) rfl rfl rfl ?_
          iterate 3 refine .o rfl ?_
          refine WL.splitN rfl rfl (fun g57 => ?_) (fun g57 => ?_)
          · refine WL.pass rfl rfl rfl ?_
            refine WL.pass rfl rfl rfl ?_; refine WL.pass rfl rfl rfl ?_; refine WL.pass rfl rfl rfl ?_; refine WL.pass rfl rfl rfl ?_
            iterate 2 refine .o rfl ?_
            refine WL.pass rfl rfl rfl ?_; refine WL.pass rfl rfl rfl ?_; refine WL.pass rfl rfl rfl ?_; refine WL.pass rfl rfl rfl ?_; refine WL.pass rfl rfl rfl ?_
            iterate 2 refine .o rfl ?_
            refine WL.nil ?_
            exact Keff.intro ⟨rfl, congrArg (fun b => some (Value.bool b)) (by first | exact (by first | (simp [-List.getD_eq_getElem?_getD]; done) | (simp_all [-List.getD_eq_getElem?_getD]; done) | (simp [-List.getD_eq_getElem?_getD]; omega) | (rw [Bool.eq_iff_iff]; simp [Bool.not_not, -List.getD_eq_getElem?_getD]; omega) | (simp [Bool.not_not, -List.getD_eq_getElem?_getD] at *; omega)) | (rw [show decide (r.home.length = r.n) = true from decide_eq_true (by omega), show decide (r.streets.length = q) = true from decide_eq_true (by omega), show decide (r.calls < 0) = false from decide_eq_false (by omega), show decide (0 ≤ r.start ∧ r.start ≤ 1439) = true from decide_eq_true (by omega)]; rw [Bool.not_not] at g64; rw [Bool.not_not, g64]; rfl)), trivial⟩ (fun _ h => h) (by repeat first | exact .refl _ | refine .cons _ ?_)
          · refine .val (.fieldAddrB rfl) rfl rfl rfl ?_
            refine .val (.loadB rfl (.head _) rfl) rfl rfl rfl ?_; refine .o rfl ?_; refine .val (.call rfl (fun m hm => allRg_any (fs := #[vi 1439]) (cs := #[]) (p := fun i => inside (r.home.getD i default) 1439) (hH.le (by repeat first | exact hm.1 | replace hm := hm.2)) (fun i hi m' hm' => limitBounds_any (r.home.getD i default) 1439))) rfl rfl rfl ?_
            iterate 3 refine .o rfl ?_
            refine WL.splitB rfl rfl (fun g64 => ?_) (fun g64 => ?_)
            · refine WL.pass rfl rfl rfl ?_
              refine WL.pass rfl rfl rfl ?_; refine WL.pass rfl rfl rfl ?_; refine WL.pass rfl rfl rfl ?_; refine WL.pass rfl rfl rfl ?_
              iterate 2 refine .o rfl ?_
              refine WL.nil ?_
              exact Keff.intro ⟨rfl, congrArg (fun b => some (Value.bool b)) (by first | exact (by first | (simp [-List.getD_eq_getElem?_getD]; done) | (simp_all [-List.getD_eq_getElem?_getD]; done) | (simp [Bool.not_not, -List.getD_eq_getElem?_getD]; omega) | (rw [Bool.eq_iff_iff]; simp [Bool.not_not, -List.getD_eq_getElem?_getD]; omega) | (simp [Bool.not_not, -List.getD_eq_getElem?_getD] at *; omega)) | (rw [show decide (r.home.length = r.n) = true from decide_eq_true (by omega), show decide (r.streets.length = q) = true from decide_eq_true (by omega), show decide (r.calls < 0) = false from decide_eq_false (by omega), show decide (0 ≤ r.start ∧ r.start ≤ 1439) = true from decide_eq_true (by omega)]; rw [Bool.not_not] at g64; rw [Bool.not_not, g64]; rfl)), trivial⟩ (fun _ h => h) (by repeat first | exact .refl _ | refine .cons _ ?_)
            · refine .val (.fieldAddrB rfl) rfl rfl rfl ?_
              refine .val (.loadB rfl (.head _) rfl) rfl rfl rfl ?_; refine .o rfl ?_; refine .val (.call rfl (fun m hm => allRg_any (fs := #[vi 60]) (cs := #[]) (p := fun i => inside (r.streets.getD i default) 60) (hS.le (by repeat first | exact hm.1 | replace hm := hm.2)) (fun i hi m' hm' => limitBounds_any (r.streets.getD i default) 60))) rfl rfl rfl ?_
              iterate 3 refine .o rfl ?_
              refine WL.nil ?_
              exact Keff.intro ⟨rfl, congrArg (fun b => some (Value.bool b)) (by first | exact (by first | (simp [-List.getD_eq_getElem?_getD]; done) | (simp_all [-List.getD_eq_getElem?_getD]; done) | (simp [Bool.not_not, -List.getD_eq_getElem?_getD]; omega) | (rw [Bool.eq_iff_iff]; simp [Bool.not_not, -List.getD_eq_getElem?_getD]; omega) | (simp [Bool.not_not, -List.getD_eq_getElem?_getD] at *; omega)) | (rw [show decide (r.home.length = r.n) = true from decide_eq_true (by omega), show decide (r.streets.length = q) = true from decide_eq_true (by omega), show decide (r.calls < 0) = false from decide_eq_false (by omega), show decide (0 ≤ r.start ∧ r.start ≤ 1439) = true from decide_eq_true (by omega)]; rw [Bool.not_not] at g64; rw [Bool.not_not, g64]; rfl)), trivial⟩ (fun _ h => h) (by repeat first | exact .refl _ | refine .cons _ ?_)
  refine Kseq.go ?_
  refine W.cond rfl rfl (fun h2 => ?_) (fun h2 => ?_)
  · refine W.seq ?_
    refine W.region ?_; refine .o rfl ?_; refine WL.nil ?_; refine Kseq.go ?_
    refine W.ret ?_; refine Kblock.ret (Kseq.ret ?_); refine ⟨.inl rfl, [_], h, ⟨.tmp rfl, trivial⟩, (by repeat constructor), ?_⟩
    exact congrArg (Value.int .i64) (by rw [faultT_ask, if_neg h0, if_neg h1, if_pos h2])
  · refine W.skip (Kblock.normal (Kseq.go (W.seq ?_)))
    refine W.region ?_; refine .o rfl ?_; refine WL.nil ?_; refine Kseq.go ?_
    refine W.ret ?_; refine ⟨.inl rfl, [_], h, ⟨.tmp rfl, trivial⟩, (by repeat constructor), ?_⟩
    exact congrArg (Value.int .i64) (by rw [faultT_ask, if_neg h0, if_neg h1, if_neg (by rw [h2]; simp)])
/-- An errand at work. -/
def IsWorkE (m : Mem) (b : Nat) (v : Value) (r : Errand) : Prop := ∃ cs lv, v = .agg cs ∧ cs.size = 7 ∧ IsBox m b (cs ++ #[lv]) 146 ∧ IsMoves m lv (movesR r)
theorem IsWorkE.le {m m' : Mem} {b : Nat} {v : Value} {r : Errand} (h : IsWorkE m b v r) (hm : MLe m m') : IsWorkE m' b v r := by
  obtain ⟨cs, lv, e, h0, h1, h2⟩ := h
  exact ⟨cs, lv, e, h0, h1.le hm, h2.le hm⟩
/-- asked -/
theorem askedE_any {h : Mem} {v : Value} {r : Errand} (hv : IsErrand h v r) (hs : SmE r) {fi : FuncId} [TC Try.prog fi] {fs cs : Array Value} {p : Bool} (hp : ValidE r → ∀ m, MLe h m → FnV Try.prog fi (fs ++ #[] ++ cs) m (.bool p)) :
    FnR Try.prog 65 #[v, .func (.func fi) fs cs] h (fun m q => (faultT r ≠ 0 ∧ q = .tuple #[.pointer none, vi (faultT r)]) ∨ (ValidE r ∧ p = false ∧ q = .tuple #[.pointer none, vi 2]) ∨
      (ValidE r ∧ p = true ∧ ∃ b, q = .tuple #[.pointer (some ⟨b, 0, none⟩), vi 0] ∧ IsWorkE m b v r)) := by
  have hv' := hv
  obtain ⟨wv, pv, hov, sv, f, rfl, hW, hP, hM, hH, hS⟩ := hv
  have hT := IsErrand.tableOf hW hP hM
  refine FnR.of_W (n := 27) Try.func65 rfl rfl (Nat.le_of_ble_eq_true rfl) fun c hr hD hF => ?_
  refine W.seq ?_; refine W.region ?_
  refine WL.box rfl rfl rfl rfl (fun b2 => ?_)
  iterate 2 refine .o rfl ?_
  refine WL.nil ?_
  refine Kseq.go (W.seq (W.seq ?_))
  refine W.region ?_; refine .val (.loadBW rfl (.head _) rfl) rfl rfl rfl ?_; refine .val (.call rfl (fun m hm => checkE_any (hv'.le (by repeat first | exact hm.1 | replace hm := hm.2)) hs)) rfl rfl rfl ?_; refine .o rfl ?_; refine WL.nil ?_
  refine Kseq.go (W.seq ?_)
  refine W.region ?_
  iterate 2 refine .o rfl ?_
  refine WL.nil ?_; refine Kseq.go ?_
  refine W.cond rfl rfl (fun he => ?_) (fun hne => ?_)
  · refine W.seq ?_
    refine W.region ?_
    iterate 3 refine .o rfl ?_
    refine WL.nil ?_; refine Kseq.go ?_
    refine W.ret ?_; refine Kseq.ret ?_; refine ⟨.inl rfl, [_, _], h, ⟨.tmp rfl, .tmp rfl, trivial⟩, (by repeat constructor), ?_⟩
    exact .inl ⟨by simpa using he, rfl⟩
  have hV : ValidE r := faultT_zero.1 (by simpa using hne)
  refine W.skip (Kseq.go (W.seq (W.seq ?_)))
  refine W.region ?_; refine .o rfl ?_; refine .val (.callC rfl rfl (fun m hm => hp hV m (by repeat first | exact hm.1 | replace hm := hm.2))) rfl rfl rfl ?_; refine .o rfl ?_; refine WL.nil ?_; refine Kseq.go ?_
  cases p with
  | false =>
    refine W.condT rfl rfl ?_; refine W.seq ?_; refine W.region ?_
    iterate 2 refine .o rfl ?_
    refine WL.nil ?_; refine Kseq.go ?_
    refine W.ret ?_; refine Kseq.ret ?_; refine ⟨.inl rfl, [_, _], h, ⟨.tmp rfl, .tmp rfl, trivial⟩, (by repeat constructor), ?_⟩
    exact .inr (.inl ⟨hV, rfl, rfl⟩)
  | true =>
    refine W.condF rfl rfl ?_
    refine W.skip (Kseq.go (W.seq ?_))
    refine W.region ?_; refine .val (.fieldAddrB rfl) rfl rfl rfl ?_; refine .val (.loadBA (vs := [wv, pv, .int .i64 r.table.wrong]) rfl (.head _) rfl rfl) rfl rfl rfl ?_; refine WL.abs (OpAbs.call rfl (fun m hm => movesT_any (hT.le (by repeat first | exact hm.1 | replace hm := hm.2)) hs.table)) rfl rfl rfl ?_
    rintro m20 _ ⟨lv, rfl, hL⟩
    iterate 5 refine .o rfl ?_
    refine WL.nil ?_
    refine Kseq.go (W.seq ?_)
    have hE : askE r.table = 0 := by rw [askE, if_pos (fault_zero.2 hV.table), ask_truths hV.table, if_neg hV.some]
    have hL' : IsMoves m20 lv (movesR r) := by rw [if_pos hE, ask_truths hV.table] at hL; exact hL
    obtain ⟨la, lc, rfl⟩ := IsArr.form hL'
    refine W.region ?_; refine .val (.loadBW rfl (.head _) rfl) rfl rfl rfl ?_; refine .o rfl ?_; refine .val (.build #[wv, pv, .int .i64 r.table.wrong, hov, sv, .int .i64 r.start, .int .i64 r.calls, .slice la (movesR r).length lc] rfl (by kernel_rfl)) rfl rfl rfl ?_
    refine WL.box rfl rfl rfl rfl (fun b26 => ?_)
    iterate 2 refine .o rfl ?_
    refine WL.nil ?_; refine Kseq.go ?_
    refine W.freezeBox (.head _) (fun b hb => (hF b hb).elim) fun mb hmb => ?_
    refine W.join fun mj hj => ?_
    refine W.ret ?_; refine ⟨.inl rfl, [_, _], mj, ⟨.tmp rfl, .tmp rfl, trivial⟩, (by repeat constructor), ?_⟩
    exact .inr (.inr ⟨hV, rfl, b26, rfl, _, _, rfl, rfl, hmb.le (hj _ (by simp)), hL'.le (hj _ (by simp))⟩)
end Go.Proofs.Ytppkhehbkoeinaa

/- The program's functions of chapter 11, on: their contracts. -/
namespace Go.Proofs.Ytppkhehbkoeinaa
open Go Go.Eng Go.RowKit

theorem sumTo_le {n : Nat} (hn : n ≤ 50) : ∀ k, sumTo n k ≤ 50 * k
  | 0 => Nat.le_refl _
  | k + 1 => by have := sumTo_le hn k; simp only [sumTo]; omega
/-- street -/
theorem streetE_any {h : Mem} {v : Value} {r : Errand} {a b : Nat} (hv : IsErrand h v r) (hn : r.n ≤ 50) (hab : a ≠ b) (ha : a ≤ r.n) (hb : b ≤ r.n) : FnV Try.prog 144 #[v, vi a, vi b] h (vi (streetN r.n a b : Int)) := by
  have hv' := hv
  obtain ⟨wv, pv, hov, sv, f, rfl, hW, hP, hM, hH, hS⟩ := hv
  refine FnR.val ?_
  refine FnR.of_W (n := 35) Try.func144 rfl rfl (Nat.le_of_ble_eq_true rfl) fun c hr hD hF => ?_
  refine W.seq ?_; refine W.region ?_
  refine WL.box rfl rfl rfl rfl (fun b3 => ?_)
  refine .o rfl ?_; refine WL.nil ?_
  refine Kseq.go (W.seq ?_)
  refine W.region ?_
  iterate 2 refine .o rfl ?_
  refine WL.abs (OpAbs.lit [_, _] rfl (Nat.le_of_ble_eq_true rfl) rfl rfl (by simp [Value.cells]) (Nat.le_of_ble_eq_true rfl) rfl (by first | (simp [Value.oneCell']; done) | exact List.all_eq_true.1 rfl)) rfl rfl rfl ?_
  rintro m13 _ ⟨hc13, a13, rfl⟩
  refine .val (.cast (.call rfl (fun m hm => minimumE_any ((ints_lit (xs := [(a : Int), b]) hc13).le (by repeat first | exact hm.1 | replace hm := hm.2)))) (show vi (min (a : Int) b) = vi ((min a b : Nat) : Int) from congrArg (Value.int .i64) (by omega))) rfl rfl rfl ?_
  iterate 2 refine .o rfl ?_
  refine .val (.cast (.max2 rfl rfl) (show vi (max (a : Int) b) = vi ((max a b : Nat) : Int) from congrArg (Value.int .i64) (by omega))) rfl rfl rfl ?_
  iterate 2 refine .o rfl ?_
  refine WL.nil ?_
  refine Kseq.go (W.seq ?_)
  refine W.region ?_; refine .o rfl ?_; refine WL.nil ?_
  refine Kseq.go (W.seq (W.seq ?_))
  refine W.region ?_
  iterate 2 refine .o rfl ?_
  refine WL.nil ?_
  refine Kseq.go (W.block ?_)
  have hlo : min a b < max a b := by omega
  have hhi : max a b ≤ r.n := by omega
  unfold streetN streetL
  generalize min a b = lo at *
  generalize max a b = hi at *
  refine W.loopC (σ := Nat) (fun k => [(3, .pointer (some ⟨b3, 0, none⟩)), (7, vi lo), (8, vi hi), (9, vi (sumTo r.n k : Int)), (18, .int .i64 (lo : Int)), (19, .int .i64 (k : Int))]) (fun k => k ≤ lo) (fun k => lo - k) 0 ⟨rfl, rfl, rfl, rfl, rfl, rfl, trivial⟩ (Nat.zero_le _) ?_
  intro k hk
  have hsb := sumTo_le hn k
  refine W.seq ?_; refine W.region ?_; refine .o rfl ?_; refine WL.nil ?_
  refine Kseq.go (W.seq ?_)
  refine W.condD rfl rfl (fun hlt => ?_) (fun hge => ?_)
  · have es : (sumTo r.n (k + 1) : Int) = (sumTo r.n k : Int) + ((r.n : Int) - (k : Int)) := by simp only [sumTo]; omega
    refine W.skip (Kseq.go (W.seq (W.block (W.seq ?_))))
    refine W.region ?_
    iterate 2 refine .o rfl ?_
    refine WL.nil ?_; refine Kseq.go ?_; refine W.region ?_; refine .o rfl ?_; refine .val (.loadBW rfl (.head _) rfl) rfl rfl rfl ?_; refine .val (.call rfl (fun m hm => womenE_any (hv'.le (by repeat first | exact hm.1 | replace hm := hm.2)))) rfl rfl rfl ?_; refine .o rfl ?_; refine .val (.sub rfl rfl (by omega) (by omega)) rfl rfl rfl ?_; refine .val (.add rfl rfl (by omega) (by omega)) rfl rfl rfl ?_; refine .o rfl ?_; refine WL.nil ?_
    refine Kblock.normal (Kseq.go ?_)
    refine W.region ?_; refine .val (.incr rfl (by omega)) rfl rfl rfl ?_; refine .o rfl ?_; refine WL.nil ?_
    exact Kloop.nextC (k + 1) (by omega) (by omega) ⟨rfl, rfl, rfl, by rw [es]; rfl, rfl, rfl, trivial⟩ (by simp) (.refl _)
  · have : k = lo := by omega
    subst this
    refine W.exit (Kseq.exit (Kloop.exit (Kblock.here (Kseq.go (W.seq ?_)))))
    refine W.region ?_
    iterate 2 refine .o rfl ?_
    refine .val (.add rfl rfl (by omega) (by omega)) rfl rfl rfl ?_; refine .o rfl ?_; refine .val (.sub rfl rfl (by omega) (by omega)) rfl rfl rfl ?_; refine .val (.sub rfl rfl (by omega) (by omega)) rfl rfl rfl ?_; refine .o rfl ?_; refine WL.nil ?_; refine Kseq.go ?_
    refine W.ret ?_; refine ⟨.inl rfl, [_], h, ⟨.tmp rfl, trivial⟩, (by repeat constructor), ?_⟩
    exact congrArg (Value.int .i64) (by omega)
/-- The streets' minutes as an array. -/
abbrev minV (l : List Int) : Value := .agg ((pad10 l).map vi).toArray
theorem minV_size {l : List Int} (h : l.length ≤ 10) : ((pad10 l).map vi).toArray.size = 10 := by rw [List.size_toArray, List.length_map]; exact pad10_len h
/-- call -/
theorem callE_any {h : Mem} {v : Value} {r : Errand} {tr : List Int} {minute : Int} {p w : Nat} (hv : IsErrand h v r) (hn : r.n ≤ 50) (h10 : tr.length ≤ 10) (hpw : p ≠ w) (hp : p ≤ r.n) (hw : w < r.n) (hh : r.home.length = r.n) (hst : streetN r.n p w < tr.length)
    (h1 : 0 ≤ minute + tr.getD (streetN r.n p w) 0) (h2 : minute + tr.getD (streetN r.n p w) 0 ≤ 1000000) : FnV Try.prog 127 #[v, minV tr, vi minute, vi p, vi w] h (vi (max (r.home.getD w default).lo (minute + tr.getD (streetN r.n p w) 0))) := by
  have hv' := hv
  obtain ⟨wv, pv, hov, sv, f, rfl, hW, hP, hM, hH, hS⟩ := hv
  refine FnR.val ?_
  refine FnR.of_W (n := 26) Try.func127 rfl rfl (Nat.le_of_ble_eq_true rfl) fun c hr hD hF => ?_
  refine W.seq ?_; refine W.region ?_
  refine WL.box rfl rfl rfl rfl (fun b5 => ?_)
  refine WL.box rfl rfl rfl rfl (fun b6 => ?_)
  refine .o rfl ?_; refine WL.nil ?_
  refine Kseq.go (W.seq ?_)
  refine W.draw 14 (by kernel_rfl) (by kernel_rfl) (by kernel_rfl) rfl ?_; refine .val [] (.fieldAddrB rfl) rfl rfl rfl rfl ?_; refine .val [] (.loadB rfl (.tail _ (.head _)) rfl) rfl rfl rfl rfl ?_; refine .val [] (.opv rfl) rfl rfl rfl rfl ?_; refine .val [] (.indexAddrN rfl rfl (by assumption) (by omega)) rfl rfl rfl rfl ?_; refine .val [] (.fieldAddrN rfl (by assumption) (by omega)) rfl rfl rfl rfl ?_; refine .val [] (.loadE rfl (by assumption) (by repeat constructor) (by omega) (by omega)) rfl rfl rfl rfl ?_; refine .val [] (.opv rfl) rfl rfl rfl rfl ?_; refine .val [] (.loadBW rfl (.tail _ (.head _)) rfl) rfl rfl rfl rfl ?_; refine .val [] (.opv rfl) rfl rfl rfl rfl ?_; refine .val [] (.opv rfl) rfl rfl rfl rfl ?_; refine .val [] (.call rfl (fun m hm => streetE_any (hv'.le (by repeat first | exact hm.1 | replace hm := hm.2)) hn hpw hp (by omega))) rfl rfl rfl rfl ?_; refine .val [] (.indexAddrB rfl rfl (by omega)) rfl rfl rfl rfl ?_
  refine .val [] (.loadB rfl (by repeat constructor) (pad10_at hst)) rfl rfl rfl rfl ?_; refine .val [] (.add rfl rfl (by omega) (by omega)) rfl rfl rfl rfl ?_; refine DJ.nil ?_; refine .val (.max2 rfl rfl) rfl rfl rfl ?_; refine .o rfl ?_; refine WL.nil ?_; refine Kseq.go ?_
  refine W.ret ?_; refine ⟨.inl rfl, [_], h, ⟨.tmp rfl, trivial⟩, (by repeat constructor), ?_⟩
  rfl
/-- calls -/
theorem callsE_any {h : Mem} {v lv : Value} {r : Errand} {tr walk : List Int} (hv : IsErrand h v r) (hV : ValidE r) (ht : TruthE r tr) (hw : Walk r.n walk) (hl : IsInts h lv walk) : FnR Try.prog 96 #[v, minV tr, lv] h (fun m q => IsInts m q (minutes r tr walk)) := by
  have hv' := hv
  obtain ⟨wv, pv, hov, sv, f, rfl, hW, hP, hM, hH, hS⟩ := hv
  have hn := hV.women
  have h10 : tr.length ≤ 10 := by rw [ht.len, hV.streetsLen]; exact streets_le hn
  have hlb := hl.bd
  have h7 := hw.len
  refine FnR.of_W (n := 34) Try.func96 rfl rfl (Nat.le_of_ble_eq_true rfl) fun c hr hD hF => ?_
  refine W.seq ?_; refine W.region ?_
  refine WL.box rfl rfl rfl rfl (fun b3 => ?_)
  refine WL.box rfl rfl rfl rfl (fun b4 => ?_)
  refine .o rfl ?_; refine WL.nil ?_
  refine Kseq.go (W.seq ?_)
  refine W.draw 5 (by kernel_rfl) (by kernel_rfl) (by kernel_rfl) rfl ?_; refine .val [] (.loadBW rfl (.tail _ (.head _)) rfl) rfl rfl rfl rfl ?_; refine .val [] (.call rfl (fun m hm => womenE_any (hv'.le (by repeat first | exact hm.1 | replace hm := hm.2)))) rfl rfl rfl rfl ?_; refine .val [] (.fieldAddrB rfl) rfl rfl rfl rfl ?_; refine .val [] (.loadB rfl (.tail _ (.head _)) rfl) rfl rfl rfl rfl ?_; refine .val [] (.opv rfl) rfl rfl rfl rfl ?_; refine DJ.nil ?_; refine .o rfl ?_; refine WL.nil ?_
  refine Kseq.go (W.seq (W.seq ?_))
  refine W.region ?_; refine .o rfl ?_; refine .val (.len rfl (by assumption)) rfl rfl rfl ?_; refine .o rfl ?_; refine WL.nil ?_
  refine Kseq.go (W.block ?_)
  refine W.nilRow 3 1 ?_; refine W.loopA (σ := Nat × Value) (fun s => [(3, .pointer (some ⟨b3, 0, none⟩)), (4, .pointer (some ⟨b4, 0, none⟩)), (6, s.2), (7, vi (placeAt r.n walk s.1)), (8, vi (minuteAt r tr walk s.1)), (15, lv), (16, .int .i64 (walk.length : Int)), (17, .int .i64 (s.1 : Int))]) (fun s => ir 3 s.2 (minutesTo r tr walk s.1)) (fun s => s.1 ≤ walk.length) (fun s => walk.length - s.1) (0, .slice none 0 0) ⟨rfl, rfl, rfl, rfl, rfl, rfl, rfl, rfl, trivial⟩ rfl (Nat.zero_le _) ?_
  rintro ⟨k, a⟩ hk
  dsimp only at hk ⊢
  have hml := minutesTo_len r tr walk k
  refine W.seq ?_; refine W.region ?_; refine .o rfl ?_; refine WL.nil ?_
  refine Kseq.go (W.seq ?_)
  refine W.condD rfl rfl (fun hlt => ?_) (fun hge => ?_)
  · have hkw : k < walk.length := by omega
    obtain ⟨k1, k2, k3, k4, k5⟩ := hw.step hkw
    have hst := hw.street hn hkw
    have hb := minuteAt_bound hV ht hw k (by omega)
    have hsm := ht.small hV (i := streetN r.n (placeAt r.n walk k).toNat (walk.getD k 0).toNat) (by rw [hV.streetsLen]; exact hst)
    have hcall : ∀ m, MLe h m → FnV Try.prog 127 #[.agg (ecs wv pv hov sv r), minV tr, vi (minuteAt r tr walk k), vi (placeAt r.n walk k), vi (walk.getD k 0)] m (vi (minuteAt r tr walk (k + 1))) := fun m hm => by
      have := callE_any (minute := minuteAt r tr walk k) (p := (placeAt r.n walk k).toNat) (w := (walk.getD k 0).toNat) (tr := tr) (hv'.le hm) (by omega) h10 (by omega) (by omega) (by omega) hV.homeLen (by rw [ht.len, hV.streetsLen]; exact hst) (by omega) (by omega)
      rw [show (((placeAt r.n walk k).toNat : Nat) : Int) = placeAt r.n walk k by omega, show (((walk.getD k 0).toNat : Nat) : Int) = walk.getD k 0 by omega] at this
      exact this
    refine W.skip (Kseq.go (W.seq (W.block (W.seq ?_))))
    refine W.region ?_; refine .val (.indexAddrN rfl rfl (by assumption) (by omega)) rfl rfl rfl ?_; refine .val (.loadE rfl (by assumption) (by repeat constructor) (by omega) (by omega)) rfl rfl rfl ?_; refine .o rfl ?_; refine WL.nil ?_
    refine Kseq.go (W.seq ?_)
    refine W.region ?_; refine .val (.loadBW rfl (.tail _ (.tail _ (.head _))) rfl) rfl rfl rfl ?_; refine .val (.loadBW rfl (by repeat constructor) (minV_size h10)) rfl rfl rfl ?_
    iterate 3 refine .o rfl ?_
    refine .val (.call rfl (fun m hm => hcall m (by repeat first | exact hm.1 | replace hm := hm.2))) rfl rfl rfl ?_; refine .o rfl ?_; refine WL.nil ?_
    refine Kseq.go (W.seq ?_)
    refine W.region ?_
    iterate 2 refine .o rfl ?_
    refine WL.nil ?_; refine Kseq.go ?_; refine W.region ?_
    iterate 2 refine .o rfl ?_
    refine WL.abs (OpAbs.lit [_] rfl (Nat.le_of_ble_eq_true rfl) rfl rfl (by simp [Value.cells]) (Nat.le_of_ble_eq_true rfl) rfl (by first | (simp [Value.oneCell']; done) | exact List.all_eq_true.1 rfl)) rfl rfl rfl ?_
    rintro m30 _ ⟨hc30, a30, rfl⟩
    refine WL.appInt rfl (fun _ => (.head _)) rfl (by assumption) (by repeat constructor) (by omega) rfl rfl rfl ?_
    intro a31 cp31
    refine .o rfl ?_; refine WL.nil ?_
    refine Kblock.normal (Kseq.go ?_)
    refine W.region ?_; refine .val (.incr rfl (by omega)) rfl rfl rfl ?_; refine .o rfl ?_; refine WL.nil ?_; refine Kloop.next (k + 1, .slice a31 ((minutesTo r tr walk k).length + 1) cp31) (by omega) (by omega) ⟨rfl, rfl, rfl, rfl, rfl, rfl, rfl, rfl, trivial⟩ (by simp) ?_
    dsimp only
    rw [minutesTo_succ]
    exact (by repeat first | exact .refl _ | refine .cons _ ?_)
  · refine W.exit (Kseq.exit (Kloop.exit (Kblock.here (Kseq.go (W.seq ?_)))))
    have : k = walk.length := by omega
    subst this
    refine W.freezeInts (.head _) (fun b hb => (hF b hb).elim) fun mr hmr => ?_
    refine W.region ?_
    iterate 2 refine .o rfl ?_
    refine WL.nil ?_; refine Kseq.go ?_
    refine W.ret ?_; refine ⟨.inl rfl, [_], mr, ⟨.tmp rfl, trivial⟩, (by repeat constructor), ?_⟩
    exact hmr
/-- question.streets -/
theorem streetsQ_any {h : Mem} {v : Value} {r : Errand} {fi : FuncId} [TC Try.prog fi] {g : Rg → Int} (hv : IsErrand h v r) (h10 : r.streets.length ≤ 10) (hg : ∀ m q, FnV Try.prog fi #[.agg #[vi q.lo, vi q.hi]] m (vi (g q))) : FnV Try.prog 125 #[.agg #[.func (.func fi) #[] #[]], v] h (minV (r.streets.map g)) := by
  obtain ⟨wv, pv, hov, sv, f, rfl, hW, hP, hM, hH, hS⟩ := hv
  have hxl : (r.streets.map g).length = r.streets.length := by simp
  generalize hxs : r.streets.map g = xs at *
  have hxg : ∀ k, k < r.streets.length → xs.getD k 0 = g (r.streets.getD k default) := fun k hk => by rw [← hxs]; simp [List.getD_eq_getElem?_getD, List.getElem?_eq_getElem hk]
  refine FnR.val ?_
  refine FnR.of_W (n := 23) Try.func125 rfl rfl (Nat.le_of_ble_eq_true rfl) fun c hr hD hF => ?_
  refine W.seq ?_; refine W.region ?_
  refine WL.box rfl rfl rfl rfl (fun b2 => ?_)
  refine WL.box rfl rfl rfl rfl (fun b3 => ?_)
  refine WL.alloc rfl rfl rfl (fun b4 => ?_)
  refine WL.nil ?_
  refine Kseq.go (W.seq (W.seq ?_))
  refine W.region ?_; refine .val (.fieldAddrB rfl) rfl rfl rfl ?_; refine .val (.loadB rfl (.tail _ (.head _)) rfl) rfl rfl rfl ?_; refine .val (.len rfl (by assumption)) rfl rfl rfl ?_; refine .o rfl ?_; refine WL.nil ?_
  refine Kseq.go (W.block ?_)
  refine W.loop (σ := Nat) (fun k => [(2, .pointer (some ⟨b2, 0, none⟩)), (4, .pointer (some ⟨b4, 0, none⟩)), (8, sv), (9, .int .i64 (r.streets.length : Int)), (10, .int .i64 (k : Int))]) (fun _ => [h]) (fun k => [.blk b4 ((pad10 (xs.take k)).map vi).toArray 152, .blk b2 #[.func (.func fi) #[] #[]] 171]) (fun k => k ≤ r.streets.length) (fun k => r.streets.length - k) 0 ⟨rfl, rfl, rfl, rfl, rfl, trivial⟩ (by simp) (.cons_cons _ (.cons _ (.refl _))) (Nat.zero_le _) ?_
  intro k hk
  have hpl : (pad10 (xs.take k)).length = 10 := pad10_len (by simp; omega)
  refine W.seq ?_; refine W.region ?_; refine .o rfl ?_; refine WL.nil ?_
  refine Kseq.go (W.seq ?_)
  refine W.condD rfl rfl (fun hlt => ?_) (fun hge => ?_)
  · have hkl : k < r.streets.length := by omega
    have hgk := hxg k hkl
    refine W.skip (Kseq.go (W.seq (W.block (W.seq ?_))))
    refine W.region ?_; refine .o rfl ?_; refine .val (.indexAddrN rfl rfl hS (by omega)) rfl rfl rfl ?_; refine .val (.loadEA rfl hS (by repeat constructor) (by omega)) rfl rfl rfl ?_
    refine WL.alloc rfl rfl rfl (fun b6 => ?_)
    refine .o rfl ?_
    refine WL.store [_, _] rfl (.head _) rfl rfl rfl (Nat.le_of_ble_eq_true rfl) (by first | (simp [Value.cells, Value.oneCell']; done) | exact IsArr.ones hW (by omega) | exact IsArr.ones hP (by omega) | exact IsArr.ones hS (by omega) | exact IsArr.ones hH (by omega) | exact IsArr.ones hL (by omega) | exact IsArr.ones hB (by omega) | exact IsArr.ones hT (by omega) | exact IsArr.ones hm (by omega)) rfl ?_
    refine WL.nil ?_; refine Kseq.go ?_; refine W.region ?_; refine .o rfl ?_; refine .val (.fieldAddrB rfl) rfl rfl rfl ?_; refine .val (.loadB rfl (.tail _ (.tail _ (.head _))) rfl) rfl rfl rfl ?_; refine .val (.loadBW rfl (.head _) rfl) rfl rfl rfl ?_; refine .val (.cast (.callC rfl rfl (fun m hm => hg m (r.streets.getD k default))) (congrArg (Value.int .i64) hgk.symm)) rfl rfl rfl ?_; refine .val (.indexAddrB rfl rfl (by omega)) rfl rfl rfl ?_
    (refine WL.store (size := 1) ((pad10 (xs.take (k + 1))).map vi) rfl (.tail _ (.head _)) rfl rfl rfl (by simp [hpl]; omega) (by simp [Value.cells, Value.oneCell']) (pad10_store (by omega) (by omega)) ?_)
    refine WL.nil ?_
    refine Kblock.normal (Kseq.go ?_)
    refine W.region ?_; refine .val (.incr rfl (by omega)) rfl rfl rfl ?_; refine .o rfl ?_; refine WL.nil ?_
    exact Kloop.next (k + 1) (by omega) (by omega) ⟨rfl, rfl, rfl, rfl, rfl, trivial⟩ (by simp) (by repeat first | exact .refl _ | refine .cons _ ?_)
  · refine W.exit (Kseq.exit (Kloop.exit (Kblock.here (Kseq.go (W.seq ?_)))))
    have : k = xs.length := by omega
    subst this
    rw [List.take_length]
    refine W.region ?_; refine .val (.loadBW rfl (.head _) (minV_size (by omega))) rfl rfl rfl ?_
    (refine WL.storeAll rfl (.head _) rfl rfl (minV_size (by omega)) (minV_size (by omega)) (by simp [Value.oneCell']) ?_)
    refine WL.nil ?_; refine Kseq.go ?_
    refine W.ret ?_; skip
    exact ⟨.inl rfl, [_], h, ⟨.agg inferInstance inferInstance rfl (.head _) (minV_size (by omega)), trivial⟩, .head _, rfl⟩
/-- slow -/
theorem slowE_any {h : Mem} {v : Value} {r : Errand} (hv : IsErrand h v r) (h10 : r.streets.length ≤ 10) : FnV Try.prog 95 #[v] h (minV (greatestE r)) := by
  have hv' := hv
  obtain ⟨wv, pv, hov, sv, f, rfl, hW, hP, hM, hH, hS⟩ := hv
  have hl : (greatestE r).length ≤ 10 := by simpa [greatestE] using h10
  refine FnR.val ?_
  refine FnR.of_W (n := 6) Try.func95 rfl rfl (Nat.le_of_ble_eq_true rfl) fun c hr hD hF => ?_
  refine W.seq ?_; refine W.region ?_
  refine WL.box rfl rfl rfl rfl (fun b1 => ?_)
  refine WL.alloc rfl rfl rfl (fun b2 => ?_)
  refine WL.nil ?_
  refine Kseq.go (W.seq ?_)
  refine W.region ?_; refine .val (.build1 rfl rfl) rfl rfl rfl ?_; refine .val (.loadBW rfl (.tail _ (.head _)) rfl) rfl rfl rfl ?_; refine .val (.call rfl (fun m hm => streetsQ_any (g := Rg.hi) (hv'.le (by repeat first | exact hm.1 | replace hm := hm.2)) h10 (fun m q => rgGreatest_any q))) rfl rfl rfl ?_
  (refine WL.storeAll rfl (.head _) rfl rfl (minV_size hl) (by rfl) (by simp [Value.oneCell']) ?_)
  refine WL.nil ?_; refine Kseq.go ?_
  refine W.ret ?_; skip
  exact ⟨.inl rfl, [_], h, ⟨.agg inferInstance inferInstance rfl (.head _) (minV_size hl), trivial⟩, .head _, rfl⟩
end Go.Proofs.Ytppkhehbkoeinaa

/- The program's functions of walks: their contracts. -/
namespace Go.Proofs.Ytppkhehbkoeinaa
open Go Go.Eng Go.RowKit

theorem cells_of_ints {m : Mem} {v : Value} {xs : List Int} (h : IsInts m v xs) : IsCells m 1 v xs.length (xs.map vi) :=
  ⟨by simp, h.congr fun i j hi hj => by
    have : j = 0 := by omega
    subst this
    simp [List.getD_eq_getElem?_getD, List.getElem?_eq_getElem hi]⟩
/-- late -/
theorem lateE_any {h : Mem} {v lv : Value} {r : Errand} {walk : List Int} (hv : IsErrand h v r) (hV : ValidE r) (hw : Walk r.n walk) (hl : IsInts h lv walk) : FnV Try.prog 92 #[v, lv] h (vi (lateN r walk : Int)) := by
  have hv' := hv
  obtain ⟨wv, pv, hov, sv, f, rfl, hW, hP, hM, hH, hS⟩ := hv
  have h10 : r.streets.length ≤ 10 := by rw [hV.streetsLen]; exact streets_le hV.women
  have hlb := hl.bd
  have hml := minutes_len r (greatestE r) walk
  refine FnR.val ?_
  refine FnR.of_W (n := 35) Try.func92 rfl rfl (Nat.le_of_ble_eq_true rfl) fun c hr hD hF => ?_
  refine W.seq ?_; refine W.region ?_
  refine WL.box rfl rfl rfl rfl (fun b2 => ?_)
  refine .o rfl ?_; refine WL.nil ?_; refine Kseq.go ?_; refine W.scope hr ?_; refine W.seq ?_; refine W.region ?_; refine .o rfl ?_; refine .val (.len rfl (by assumption)) rfl rfl rfl ?_; refine .o rfl ?_; refine WL.nil ?_
  refine Kseq.go (W.seq ?_)
  refine W.label ?_
  refine Kseq.go (W.seq (W.seq ?_))
  refine W.draw 7 (by kernel_rfl) (by kernel_rfl) (by kernel_rfl) rfl ?_; refine .val [] (.loadBW rfl (.head _) rfl) rfl rfl rfl rfl ?_; refine .val [] (.loadBW rfl (.head _) rfl) rfl rfl rfl rfl ?_; refine .val [] (.call rfl (fun m hm => slowE_any (hv'.le (by repeat first | exact hm.1 | replace hm := hm.2)) h10)) rfl rfl rfl rfl ?_; refine .val [] (.opv rfl) rfl rfl rfl rfl ?_; refine DJ.abs (A := fun m q => IsInts m q (minutes r (greatestE r) walk)) [] (OpAbs.call rfl (fun m hm => callsE_any (hv'.le (by repeat first | exact hm.1 | replace hm := hm.2)) hV (greatest_truth hV) hw (hl.le (by repeat first | exact hm.1 | replace hm := hm.2)))) rfl rfl rfl rfl ?_
  refine DJ.val [(14, fun m q => IsInts m q (minutes r (greatestE r) walk))] (fun m14 v14 h14 => OpVal.len rfl (by assumption)) rfl rfl rfl rfl ?_ (hG := ⟨(by repeat constructor), rfl, trivial⟩)
  refine .val [] (.opv rfl) rfl rfl rfl rfl ?_; refine DJ.nil ?_
  rintro m14 v14 h14
  refine WL.nil ?_
  refine Kseq.go (W.block ?_)
  refine W.loopC (σ := Nat) (fun k => [(1, lv), (2, .pointer (some ⟨b2, 0, none⟩)), (5, vi (walk.length : Int)), (14, v14), (15, .int .i64 ((minutes r (greatestE r) walk).length : Int)), (16, .int .i64 (k : Int))]) (fun k => k ≤ walk.length ∧ ∀ j, j < k → inTime r walk j = true) (fun k => walk.length - k) 0 ⟨rfl, rfl, rfl, rfl, rfl, rfl, trivial⟩ ⟨Nat.zero_le _, fun j hj => absurd hj (Nat.not_lt_zero _)⟩ ?_
  rintro k ⟨hk, hall⟩
  refine W.seq ?_; refine W.region ?_; refine .o rfl ?_; refine WL.nil ?_
  refine Kseq.go (W.seq ?_)
  refine W.condD rfl rfl (fun hlt => ?_) (fun hge => ?_)
  · have hkw : k < walk.length := by omega
    have hwk := hw.lt k hkw
    have hhl := hV.homeLen
    refine W.skip (Kseq.go (W.seq (W.block (W.seq ?_))))
    refine W.region ?_; refine .o rfl ?_; refine .val (.indexAddrN rfl rfl (by assumption) (by omega)) rfl rfl rfl ?_; refine .val (.cast (.loadE rfl h14 (by repeat constructor) (by omega) (by omega)) (congrArg (Value.int .i64) (minutes_get hkw))) rfl rfl rfl ?_
    iterate 2 refine .o rfl ?_
    refine WL.nil ?_
    refine Kseq.go (W.seq ?_)
    refine W.draw 10 (by kernel_rfl) (by kernel_rfl) (by kernel_rfl) rfl ?_; refine .val [] (.opv rfl) rfl rfl rfl rfl ?_; refine .val [] (.fieldAddrB rfl) rfl rfl rfl rfl ?_; refine .val [] (.loadB rfl (.head _) rfl) rfl rfl rfl rfl ?_; refine .val [] (.opv rfl) rfl rfl rfl rfl ?_; refine .val [] (.opv rfl) rfl rfl rfl rfl ?_; refine .val [] (.indexAddrN rfl rfl hl (by omega)) rfl rfl rfl rfl ?_; refine .val [] (.loadE rfl hl (by repeat constructor) (by omega) (by omega)) rfl rfl rfl rfl ?_; refine .val [] (.indexAddr rfl rfl hH (by omega) (by omega)) rfl rfl rfl rfl ?_; refine .val [] (.fieldAddrN rfl hH (by omega)) rfl rfl rfl rfl ?_; refine .val [] (.loadE rfl hH (by repeat constructor) (by omega) (by omega)) rfl rfl rfl rfl ?_; refine DJ.nil ?_; refine .o rfl ?_; refine WL.nil ?_; refine Kseq.go ?_
    refine W.condD rfl rfl (fun he => ?_) (fun hne => ?_)
    · refine W.seq ?_
      refine W.region ?_
      iterate 2 refine .o rfl ?_
      refine WL.nil ?_
      refine Kseq.go (W.exit (Kblock.past rfl (Kseq.exit (Kloop.exit (Kblock.here (Kseq.go (W.seq ?_)))))))
      refine W.region ?_
      iterate 2 refine .o rfl ?_
      refine WL.nil ?_; refine Kseq.go ?_
      refine W.ret ?_; refine Kscope.ret ?_; refine ⟨.inl rfl, [_], h, ⟨.tmp rfl, trivial⟩, (by repeat constructor), ?_⟩
      exact congrArg (fun n : Nat => vi (n : Int)) (fstNo_at hkw hall (decide_eq_false (by omega))).symm
    · refine W.skip (Kblock.normal (Kseq.go ?_))
      refine W.region ?_; refine .val (.incr rfl (by omega)) rfl rfl rfl ?_; refine .o rfl ?_; refine WL.nil ?_
      refine Kloop.nextC (k + 1) ⟨by omega, fun j hj => ?_⟩ (by omega) ⟨rfl, rfl, rfl, rfl, rfl, rfl, trivial⟩ (by simp) (.refl _)
      rcases Nat.lt_succ_iff_lt_or_eq.1 hj with h3 | rfl
      · exact hall j h3
      · exact decide_eq_true (by omega)
  · refine W.exit (Kseq.exit (Kloop.exit (Kblock.here (Kseq.go (W.seq ?_)))))
    refine W.region ?_
    iterate 2 refine .o rfl ?_
    refine WL.nil ?_; refine Kseq.go ?_
    refine W.ret ?_; refine Kscope.ret ?_; refine ⟨.inl rfl, [_], h, ⟨.tmp rfl, trivial⟩, (by repeat constructor), ?_⟩
    exact congrArg (fun n : Nat => vi (n : Int)) (fstNo_all (fun j hj => hall j (by omega))).symm
/-- sure -/
theorem sureE_any {h : Mem} {v lv : Value} {r : Errand} {walk : List Int} (hv : IsErrand h v r) (hV : ValidE r) (hw : Walk r.n walk) (hl : IsInts h lv walk) : FnV Try.prog 69 #[v, lv] h (.bool (sureB r walk)) := by
  have hv' := hv
  obtain ⟨wv, pv, hov, sv, f, rfl, hW, hP, hM, hH, hS⟩ := hv
  have hlb := hl.bd
  refine FnR.val ?_
  refine FnR.of_W (n := 18) Try.func69 rfl rfl (Nat.le_of_ble_eq_true rfl) fun c hr hD hF => ?_
  refine W.seq ?_; refine W.region ?_
  refine WL.box rfl rfl rfl rfl (fun b2 => ?_)
  refine .o rfl ?_; refine WL.nil ?_
  refine Kseq.go (W.seq ?_)
  refine W.region ?_; refine .o rfl ?_; refine .val (.len rfl (by assumption)) rfl rfl rfl ?_; refine .val (.fieldAddrB rfl) rfl rfl rfl ?_; refine .val (.loadB rfl (.head _) rfl) rfl rfl rfl ?_
  iterate 2 refine .o rfl ?_
  refine WL.split rfl rfl (fun g10 => ?_) (fun g10 => ?_)
  · refine .val (.loadBW rfl (.head _) rfl) rfl rfl rfl ?_
    refine .o rfl ?_; refine .val (.call rfl (fun m hm => lateE_any (hv'.le (by repeat first | exact hm.1 | replace hm := hm.2)) hV hw (hl.le (by repeat first | exact hm.1 | replace hm := hm.2)))) rfl rfl rfl ?_; refine .o rfl ?_; refine .val (.len rfl (by assumption)) rfl rfl rfl ?_
    iterate 3 refine .o rfl ?_
    refine WL.nil ?_; refine Kseq.go ?_
    (refine W.ret ?_; refine ⟨.inl rfl, [_], h, ⟨.tmp rfl, trivial⟩, (by repeat constructor), ?_⟩; exact congrArg Value.bool (by first | (simp [sureB, -List.getD_eq_getElem?_getD]; done) | (simp_all [-List.getD_eq_getElem?_getD]; done) | (simp [sureB, -List.getD_eq_getElem?_getD]; omega) | (rw [Bool.eq_iff_iff]; simp [sureB, -List.getD_eq_getElem?_getD]; omega) | (simp [sureB, -List.getD_eq_getElem?_getD] at *; omega)))
  · refine WL.pass rfl rfl rfl ?_
    refine WL.pass rfl rfl rfl ?_; refine WL.pass rfl rfl rfl ?_; refine WL.pass rfl rfl rfl ?_; refine WL.pass rfl rfl rfl ?_; refine WL.pass rfl rfl rfl ?_
    iterate 2 refine .o rfl ?_
    refine WL.nil ?_; refine Kseq.go ?_
    (refine W.ret ?_; refine ⟨.inl rfl, [_], h, ⟨.tmp rfl, trivial⟩, (by repeat constructor), ?_⟩; exact congrArg Value.bool (by first | (simp [sureB, -List.getD_eq_getElem?_getD]; done) | (simp_all [-List.getD_eq_getElem?_getD]; done) | (simp [sureB, -List.getD_eq_getElem?_getD]; omega) | (rw [Bool.eq_iff_iff]; simp [sureB, -List.getD_eq_getElem?_getD]; omega) | (simp [sureB, -List.getD_eq_getElem?_getD] at *; omega)))
/-- rank -/
theorem rankE_any {h : Mem} {v lv : Value} {r : Errand} {walk : List Int} (hv : IsErrand h v r) (hV : ValidE r) (hw : Walk r.n walk) (hl : IsInts h lv walk) : FnV Try.prog 70 #[v, lv] h (.agg #[vi (walk.length : Int), vi (endingE r walk)]) := by
  have hv' := hv
  obtain ⟨wv, pv, hov, sv, f, rfl, hW, hP, hM, hH, hS⟩ := hv
  have h10 : r.streets.length ≤ 10 := by rw [hV.streetsLen]; exact streets_le hV.women
  have hlb := hl.bd
  have h7 := hw.len
  have hml := minutes_len r (greatestE r) walk
  refine FnR.val ?_
  refine FnR.of_W (n := 24) Try.func70 rfl rfl (Nat.le_of_ble_eq_true rfl) fun c hr hD hF => ?_
  refine W.seq ?_; refine W.region ?_
  refine WL.box rfl rfl rfl rfl (fun b2 => ?_)
  refine WL.alloc rfl rfl rfl (fun b4 => ?_)
  refine WL.nil ?_
  refine Kseq.go (W.seq ?_)
  let A8 : Mem → Value → Prop := fun m q => IsInts m q (r.start :: minutes r (greatestE r) walk)
  refine W.draw 8 (by kernel_rfl) (by kernel_rfl) (by kernel_rfl) rfl ?_; refine .val [] (.fieldAddrB rfl) rfl rfl rfl rfl ?_; refine .val [] (.loadB rfl (.tail _ (.head _)) rfl) rfl rfl rfl rfl ?_
  refine DJ.abs (A := fun m q => ∃ b, q = .slice (some ⟨b, 0, none⟩) 1 1 ∧ IsCells m 1 q 1 [vi r.start]) [] (OpAbs.mono (OpAbs.lit [vi r.start] rfl (Nat.le_of_ble_eq_true rfl) rfl rfl (by simp [Value.cells]) (Nat.le_of_ble_eq_true rfl) rfl (by simp [Value.oneCell'])) (fun m q hq => by obtain ⟨h1, b, rfl⟩ := hq; exact ⟨b, rfl, h1⟩)) rfl rfl rfl rfl ?_
  refine .val [] (.loadBW rfl (.tail _ (.head _)) rfl) rfl rfl rfl rfl ?_; refine .val [] (.loadBW rfl (.tail _ (.head _)) rfl) rfl rfl rfl rfl ?_; refine .val [] (.call rfl (fun m hm => slowE_any (hv'.le (by repeat first | exact hm.1 | replace hm := hm.2)) h10)) rfl rfl rfl rfl ?_; refine .val [] (.opv rfl) rfl rfl rfl rfl ?_; refine DJ.abs (A := fun m q => IsInts m q (minutes r (greatestE r) walk)) [] (OpAbs.call rfl (fun m hm => callsE_any (hv'.le (by repeat first | exact hm.1 | replace hm := hm.2)) hV (greatest_truth hV) hw (hl.le (by repeat first | exact hm.1 | replace hm := hm.2)))) rfl rfl rfl rfl ?_; refine DJ.nil ?_
  rintro m13 v13 h13
  rintro m8 v8 h8
  refine WL.abs (show OpAbs _ _ _ _ _ A8 from by obtain ⟨b, rfl, hq⟩ := h8; exact OpAbs.mono (OpAbs.appendP rfl hq (by repeat constructor) rfl (cells_of_ints h13) (by repeat constructor) rfl (by omega) (by omega) (by rw [hml]; unfold maxLen; omega) (by rw [hml]; omega)) (fun m q h' => ints_lit (xs := r.start :: minutes r (greatestE r) walk) (n := 1 + (minutes r (greatestE r) walk).length) (by simpa using h'))) rfl rfl rfl ?_
  rintro m14 v14 h14
  refine .o rfl ?_; refine WL.nil ?_
  refine Kseq.go (W.seq ?_)
  have h14 : IsInts m14 v14 (r.start :: minutes r (greatestE r) walk) := h14
  have hsl : (r.start :: minutes r (greatestE r) walk).length = walk.length + 1 := by simp [hml]
  have hlast : (r.start :: minutes r (greatestE r) walk).getD walk.length 0 = endingE r walk := by
    unfold endingE
    cases hc : walk.length with
    | zero => rfl
    | succ k =>
      rw [List.getD_cons_succ, minutes_get (by omega)]
  refine W.region ?_; refine .o rfl ?_; refine .val (.len rfl (by assumption)) rfl rfl rfl ?_
  iterate 2 refine .o rfl ?_
  refine .val (.len rfl (by assumption)) rfl rfl rfl ?_; refine .val (.sub rfl rfl (by omega) (by omega)) rfl rfl rfl ?_; refine .val (.indexAddr rfl rfl h14 (by omega) (by omega)) rfl rfl rfl ?_
  refine .val (.cast (.loadE rfl h14 (by repeat constructor) (by omega) (by omega)) (show _ = vi (endingE r walk) from congrArg (Value.int .i64) (by rw [← hlast]; congr 1; omega))) rfl rfl rfl ?_
  refine .val (.build2 rfl rfl) rfl rfl rfl ?_
  refine WL.store [_, _] rfl (.head _) rfl rfl rfl (Nat.le_of_ble_eq_true rfl) (by first | (simp [Value.cells, Value.oneCell']; done) | exact IsArr.ones hW (by omega) | exact IsArr.ones hP (by omega) | exact IsArr.ones hS (by omega) | exact IsArr.ones hH (by omega) | exact IsArr.ones hL (by omega) | exact IsArr.ones hB (by omega) | exact IsArr.ones hT (by omega) | exact IsArr.ones hm (by omega)) rfl ?_
  refine WL.nil ?_; refine Kseq.go ?_
  refine W.ret ?_; skip
  exact ⟨.inl rfl, [_], h, ⟨.agg inferInstance inferInstance rfl (.head _) rfl, trivial⟩, (by repeat constructor), rfl⟩
/-- before, of ranks -/
theorem rankBefore_any {h : Mem} (a b x y : Int) : FnV Try.prog 71 #[.agg #[vi a, vi b], .agg #[vi x, vi y]] h (.bool (decide (a < x ∨ a = x ∧ b < y))) := by
  refine FnR.val ?_
  refine FnR.of_W (n := 27) Try.func71 rfl rfl (Nat.le_of_ble_eq_true rfl) fun c hr hD hF => ?_
  refine W.seq ?_; refine W.region ?_
  refine WL.box rfl rfl rfl rfl (fun b2 => ?_)
  refine WL.box rfl rfl rfl rfl (fun b3 => ?_)
  refine .o rfl ?_; refine WL.nil ?_
  refine Kseq.go (W.seq (W.seq ?_))
  refine W.region ?_; refine .val (.loadBW rfl (.tail _ (.head _)) rfl) rfl rfl rfl ?_; refine .val (.loadBW rfl (.head _) rfl) rfl rfl rfl ?_; refine .val (.eqQ (N := 2) (enc := vi) (xs := [a, b]) (ys := [x, y]) rfl rfl rfl rfl) rfl rfl rfl ?_; refine WL.nil ?_; refine Kseq.go ?_
  refine W.condD rfl rfl (fun he => ?_) (fun hne => ?_)
  · refine W.seq ?_
    refine W.region ?_; refine .o rfl ?_; refine WL.nil ?_; refine Kseq.go ?_
    refine W.ret ?_; refine Kseq.ret ?_; refine ⟨.inl rfl, [_], h, ⟨.tmp rfl, trivial⟩, (by repeat constructor), ?_⟩
    simp at he
    exact congrArg Value.bool (decide_eq_false (by omega)).symm
  · refine W.skip (Kseq.go (W.seq ?_))
    refine W.region ?_; refine .val (.fieldAddrB rfl) rfl rfl rfl ?_; refine .val (.loadB rfl (.tail _ (.head _)) rfl) rfl rfl rfl ?_; refine .val (.fieldAddrB rfl) rfl rfl rfl ?_; refine .val (.loadB rfl (.head _) rfl) rfl rfl rfl ?_
    iterate 2 refine .o rfl ?_
    refine WL.split rfl rfl (fun g13 => ?_) (fun g13 => ?_)
    · refine WL.pass rfl rfl rfl ?_
      refine WL.pass rfl rfl rfl ?_; refine WL.pass rfl rfl rfl ?_; refine WL.pass rfl rfl rfl ?_; refine WL.pass rfl rfl rfl ?_; refine WL.pass rfl rfl rfl ?_; refine WL.pass rfl rfl rfl ?_; refine WL.pass rfl rfl rfl ?_; refine WL.pass rfl rfl rfl ?_; refine WL.pass rfl rfl rfl ?_; refine WL.pass rfl rfl rfl ?_; refine WL.pass rfl rfl rfl ?_
      iterate 2 refine .o rfl ?_
      refine WL.nil ?_; refine Kseq.go ?_
      (refine W.ret ?_; refine ⟨.inl rfl, [_], h, ⟨.tmp rfl, trivial⟩, (by repeat constructor), ?_⟩; exact congrArg Value.bool (by first | (simp [-List.getD_eq_getElem?_getD]; done) | (simp_all [-List.getD_eq_getElem?_getD]; done) | (simp [-List.getD_eq_getElem?_getD]; omega) | (rw [Bool.eq_iff_iff]; simp [-List.getD_eq_getElem?_getD]; omega) | (simp [-List.getD_eq_getElem?_getD] at *; omega)))
    · refine .val (.fieldAddrB rfl) rfl rfl rfl ?_
      refine .val (.loadB rfl (.tail _ (.head _)) rfl) rfl rfl rfl ?_; refine .val (.fieldAddrB rfl) rfl rfl rfl ?_; refine .val (.loadB rfl (.head _) rfl) rfl rfl rfl ?_
      iterate 2 refine .o rfl ?_
      refine WL.split rfl rfl (fun g19 => ?_) (fun g19 => ?_)
      · refine .val (.fieldAddrB rfl) rfl rfl rfl ?_
        refine .val (.loadB rfl (.tail _ (.head _)) rfl) rfl rfl rfl ?_; refine .val (.fieldAddrB rfl) rfl rfl rfl ?_; refine .val (.loadB rfl (.head _) rfl) rfl rfl rfl ?_
        iterate 4 refine .o rfl ?_
        refine WL.nil ?_; refine Kseq.go ?_
        (refine W.ret ?_; refine ⟨.inl rfl, [_], h, ⟨.tmp rfl, trivial⟩, (by repeat constructor), ?_⟩; exact congrArg Value.bool (by first | (simp [-List.getD_eq_getElem?_getD]; done) | (simp_all [-List.getD_eq_getElem?_getD]; done) | (simp [-List.getD_eq_getElem?_getD]; omega) | (rw [Bool.eq_iff_iff]; simp [-List.getD_eq_getElem?_getD]; omega) | (simp [-List.getD_eq_getElem?_getD] at *; omega)))
      · refine WL.pass rfl rfl rfl ?_
        refine WL.pass rfl rfl rfl ?_; refine WL.pass rfl rfl rfl ?_; refine WL.pass rfl rfl rfl ?_; refine WL.pass rfl rfl rfl ?_
        iterate 3 refine .o rfl ?_
        refine WL.nil ?_; refine Kseq.go ?_
        (refine W.ret ?_; refine ⟨.inl rfl, [_], h, ⟨.tmp rfl, trivial⟩, (by repeat constructor), ?_⟩; exact congrArg Value.bool (by first | (simp [-List.getD_eq_getElem?_getD]; done) | (simp_all [-List.getD_eq_getElem?_getD]; done) | (simp [-List.getD_eq_getElem?_getD]; omega) | (rw [Bool.eq_iff_iff]; simp [-List.getD_eq_getElem?_getD]; omega) | (simp [-List.getD_eq_getElem?_getD] at *; omega)))
end Go.Proofs.Ytppkhehbkoeinaa

/- What a walk brings: the program's functions' contracts. -/
namespace Go.Proofs.Ytppkhehbkoeinaa
open Go Go.Eng Go.RowKit

/-- Of a piece: is there a move of it of which S holds? -/
def mapB (ms : List Move) (S : Nat → Bool) (p : Int) : Value := .bool (ex ms.length fun x => decide ((ms.getD x default).piece = p) && S x)
theorem ex_congr {n : Nat} {p q : Nat → Bool} (h : ∀ i, i < n → p i = q i) : ex n p = ex n q := by
  unfold ex
  rw [Bool.eq_iff_iff]
  simp only [List.any_eq_true, List.mem_range]
  constructor
  · rintro ⟨i, hi, hp⟩; exact ⟨i, hi, by rw [← h i hi]; exact hp⟩
  · rintro ⟨i, hi, hp⟩; exact ⟨i, hi, by rw [h i hi]; exact hp⟩
theorem mapB_congr {ms : List Move} {S S' : Nat → Bool} (h : ∀ x, x < ms.length → S x = S' x) (p : Int) : mapB ms S p = mapB ms S' p :=
  congrArg Value.bool (ex_congr fun i hi => by rw [h i hi])
theorem piece_inj {ms : List Move} (hp : (ms.map (·.piece)).Pairwise (· < ·)) {x y : Nat} (hx : x < ms.length) (hy : y < ms.length) (e : (ms.getD x default).piece = (ms.getD y default).piece) : x = y := by
  rw [List.pairwise_map] at hp
  have := List.pairwise_iff_getElem.1 hp
  simp only [List.getD_eq_getElem?_getD, List.getElem?_eq_getElem hx, List.getElem?_eq_getElem hy, Option.getD_some] at e
  rcases Nat.lt_trichotomy x y with h | h | h
  · have := this x y hx hy h; omega
  · exact h
  · have := this y x hy hx h; omega
theorem mapB_at {ms : List Move} (hp : (ms.map (·.piece)).Pairwise (· < ·)) {S : Nat → Bool} {j : Nat} (hj : j < ms.length) : mapB ms S (ms.getD j default).piece = .bool (S j) := by
  unfold mapB
  congr 1
  rw [Bool.eq_iff_iff, ex_iff]
  simp only [Bool.and_eq_true, decide_eq_true_eq]
  constructor
  · rintro ⟨i, hi, e, h⟩
    rw [← piece_inj hp hi hj e]; exact h
  · intro h; exact ⟨j, hj, rfl, h⟩
theorem mapB_upd {ms : List Move} (hp : (ms.map (·.piece)).Pairwise (· < ·)) {S S' : Nat → Bool} {j : Nat} (hj : j < ms.length) (h1 : S' j = true) (h2 : ∀ x, x < ms.length → x ≠ j → S' x = S x) (p : Int) : upd (mapB ms S) (ms.getD j default).piece (.bool true) p = mapB ms S' p := by
  unfold upd
  split
  · rename_i e
    subst e
    rw [mapB_at hp hj, h1]
  · rename_i e
    refine congrArg Value.bool (ex_congr fun i hi => ?_)
    by_cases hij : i = j
    · subst hij
      rw [decide_eq_false (fun h => e h.symm)]; rfl
    · rw [h2 i hi hij]
theorem mapB_none (ms : List Move) (p : Int) : (Value.bool false) = mapB ms (fun _ => false) p := by
  unfold mapB
  congr 1
  symm
  exact ex_no.2 fun i _ => by simp
/-- Has a walk called at the woman From before a call? -/
def seen (walk : List Int) (m : Move) (i : Nat) : Bool := ex i fun k => decide (walk.getD k 0 = m.fro)
theorem seen_succ (walk : List Int) (m : Move) (i : Nat) : seen walk m (i + 1) = (seen walk m i || decide (walk.getD i 0 = m.fro)) := ex_succ ..
def done (walk : List Int) (m : Move) (i : Nat) : Bool := ex i fun e => decide (walk.getD e 0 = m.to) && seen walk m e
theorem done_succ (walk : List Int) (m : Move) (i : Nat) : done walk m (i + 1) = (done walk m i || (decide (walk.getD i 0 = m.to) && seen walk m i)) := ex_succ ..
theorem done_brought (walk : List Int) (m : Move) : done walk m walk.length = brought walk m := by
  refine ex_congr fun i hi => ?_
  unfold seen
  rw [Bool.eq_iff_iff, Bool.and_eq_true, ex_iff, ex_iff]
  constructor
  · rintro ⟨h, k, hk, h2⟩; exact ⟨k, hk, by rw [h2, h]; rfl⟩
  · rintro ⟨k, hk, h⟩
    rw [Bool.and_eq_true] at h
    exact ⟨h.2, k, hk, h.1⟩
def takenS (ms : List Move) (walk : List Int) (i j x : Nat) : Bool := seen walk (ms.getD x default) i || (decide (x < j) && decide (walk.getD i 0 = (ms.getD x default).fro))
def outS (ms : List Move) (walk : List Int) (i j x : Nat) : Bool := done walk (ms.getD x default) i || (decide (x < j) && (decide (walk.getD i 0 = (ms.getD x default).to) && seen walk (ms.getD x default) i))
theorem takenS_next {ms : List Move} {walk : List Int} {i x : Nat} (hx : x < ms.length) : takenS ms walk i ms.length x = takenS ms walk (i + 1) 0 x := by
  unfold takenS; rw [seen_succ]; simp [hx]
theorem outS_next {ms : List Move} {walk : List Int} {i x : Nat} (hx : x < ms.length) : outS ms walk i ms.length x = outS ms walk (i + 1) 0 x := by
  unfold outS; rw [done_succ]; simp [hx]
theorem outS_new {ms : List Move} {walk : List Int} {i j : Nat} (h1 : (ms.getD j default).to = walk.getD i 0) (h2 : seen walk (ms.getD j default) i = true) : outS ms walk i (j + 1) j = true := by
  unfold outS
  rw [h2, decide_eq_true h1.symm, decide_eq_true (Nat.lt_succ_self j)]; simp
theorem lt_old {x j : Nat} (h : x ≠ j) : decide (x < j + 1) = decide (x < j) := by
  rw [decide_eq_decide]; omega
theorem outS_old {ms : List Move} {walk : List Int} {i j x : Nat} (h : x ≠ j) : outS ms walk i (j + 1) x = outS ms walk i j x := by
  unfold outS; rw [lt_old h]
theorem outS_same {ms : List Move} {walk : List Int} {i j x : Nat} (h : (decide ((ms.getD j default).to = walk.getD i 0) && seen walk (ms.getD j default) i) = false) : outS ms walk i j x = outS ms walk i (j + 1) x := by
  by_cases hx : x = j
  · subst hx
    unfold outS
    rw [show decide (walk.getD i 0 = (ms.getD x default).to) = decide ((ms.getD x default).to = walk.getD i 0) from decide_eq_decide.2 eq_comm, h]
    simp
  · exact (outS_old hx).symm
theorem takenS_new {ms : List Move} {walk : List Int} {i j : Nat} (h1 : (ms.getD j default).fro = walk.getD i 0) : takenS ms walk i (j + 1) j = true := by
  unfold takenS
  rw [decide_eq_true h1.symm, decide_eq_true (Nat.lt_succ_self j)]; simp
theorem takenS_old {ms : List Move} {walk : List Int} {i j x : Nat} (h : x ≠ j) : takenS ms walk i (j + 1) x = takenS ms walk i j x := by
  unfold takenS; rw [lt_old h]
theorem takenS_same {ms : List Move} {walk : List Int} {i j x : Nat} (h : ¬ (ms.getD j default).fro = walk.getD i 0) : takenS ms walk i j x = takenS ms walk i (j + 1) x := by
  by_cases hx : x = j
  · subst hx
    unfold takenS
    rw [decide_eq_false (fun e : walk.getD i 0 = (ms.getD x default).fro => h e.symm)]
    simp
  · exact (takenS_old hx).symm
/-- brings -/
theorem bringsE_any {h : Mem} {b : Nat} {v lv : Value} {r : Errand} {walk : List Int} (hw : IsWorkE h b v r) (hok : MovesOk r.n (movesR r)) (hl : IsInts h lv walk) :
    FnR Try.prog 87 #[.pointer (some ⟨b, 0, none⟩), lv] h (fun m q => ∃ b', q = .map (some b') ∧ IsMap m b' vi (fun _ => True) (.bool false) (mapB (movesR r) fun x => brought walk ((movesR r).getD x default))) := by
  obtain ⟨cs, mv, rfl, hcs, hB, hMv⟩ := hw
  have hlb := hl.bd
  have hmb := hMv.bd
  have hinc := hok.inc
  have hcsl : (cs ++ #[mv])[7]? = some mv := by rw [Array.getElem?_append_right (by omega), hcs]; rfl
  generalize movesR r = ms at *
  refine FnR.of_W (n := 51) Try.func87 rfl rfl (Nat.le_of_ble_eq_true rfl) fun c hr hD hF => ?_
  refine W.seq ?_; refine W.region ?_; refine .o rfl ?_; refine WL.nil ?_
  refine Kseq.go (W.seq ?_)
  refine W.region ?_
  (refine WL.makeMap rfl rfl rfl (fun b11 => ?_))
  refine .o rfl ?_; refine WL.nil ?_
  refine Kseq.go (W.seq ?_)
  refine W.region ?_
  (refine WL.makeMap rfl rfl rfl (fun b12 => ?_))
  refine .o rfl ?_; refine WL.nil ?_
  refine Kseq.go (W.seq (W.seq ?_))
  refine W.region ?_; refine .o rfl ?_; refine .val (.len rfl (by assumption)) rfl rfl rfl ?_; refine .o rfl ?_; refine WL.nil ?_
  refine Kseq.go (W.block ?_)
  refine W.loop (σ := Nat × (Array MapEntry × Nat) × (Array MapEntry × Nat)) (fun s => [(0, .pointer (some ⟨b, 0, none⟩)), (5, .map (some b11)), (6, .map (some b12)), (13, lv), (14, .int .i64 (walk.length : Int)), (15, .int .i64 (s.1 : Int))]) (fun _ => [h])
    (fun s => [.obj b12 (.map s.2.2.1 s.2.2.2), .obj b11 (.map s.2.1.1 s.2.1.2)]) (fun s => s.1 ≤ walk.length ∧ MapG vi (fun _ => True) (.bool false) s.2.1.1 s.2.1.2 (mapB ms (outS ms walk s.1 0)) ∧ MapG vi (fun _ => True) (.bool false) s.2.2.1 s.2.2.2 (mapB ms (takenS ms walk s.1 0))) (fun s => walk.length - s.1) (0, (#[], 0), (#[], 0)) ⟨rfl, rfl, rfl, rfl, rfl, rfl, trivial⟩ (by simp) (.refl _)
    ⟨Nat.zero_le _, (MapG.empty _ _ _).congr (fun y _ => (mapB_none ms y).trans (mapB_congr (fun x hx => by simp [outS, done, ex_zero]) y)), (MapG.empty _ _ _).congr (fun y _ => (mapB_none ms y).trans (mapB_congr (fun x hx => by simp [takenS, seen, ex_zero]) y))⟩ ?_
  rintro ⟨i, ⟨e1, c1⟩, ⟨e2, c2⟩⟩ ⟨hi, hG1, hG2⟩
  dsimp only at hi hG1 hG2 ⊢
  refine W.seq ?_; refine W.region ?_; refine .o rfl ?_; refine WL.nil ?_
  refine Kseq.go (W.seq ?_)
  refine W.condD rfl rfl (fun hlt => ?_) (fun hge => ?_)
  · have hiw : i < walk.length := by omega
    refine W.skip (Kseq.go (W.seq (W.block (W.seq ?_))))
    refine W.region ?_; refine .val (.indexAddrN rfl rfl hl hiw) rfl rfl rfl ?_; refine .val (.loadE rfl hl (by repeat constructor) hiw (by omega)) rfl rfl rfl ?_; refine .o rfl ?_; refine WL.nil ?_
    refine Kseq.go (W.seq ?_)
    refine W.region ?_
    iterate 2 refine .o rfl ?_
    refine .val (.fieldAddrB rfl) rfl rfl rfl ?_; refine .val (.loadP rfl hB (by repeat constructor) hcsl) rfl rfl rfl ?_; refine .val (.len rfl hMv) rfl rfl rfl ?_; refine .o rfl ?_; refine WL.nil ?_
    refine Kseq.go (W.block ?_)
    refine W.loop (σ := Nat × (Array MapEntry × Nat) × (Array MapEntry × Nat)) (fun s => [(0, .pointer (some ⟨b, 0, none⟩)), (5, .map (some b11)), (6, .map (some b12)), (8, vi (walk.getD i 0)), (13, lv), (14, .int .i64 (walk.length : Int)), (15, .int .i64 (i : Int)), (22, mv), (23, .int .i64 (ms.length : Int)), (24, .int .i64 (s.1 : Int))]) (fun _ => [h])
      (fun s => [.obj b12 (.map s.2.2.1 s.2.2.2), .obj b11 (.map s.2.1.1 s.2.1.2)]) (fun s => s.1 ≤ ms.length ∧ MapG vi (fun _ => True) (.bool false) s.2.1.1 s.2.1.2 (mapB ms (outS ms walk i s.1)) ∧ MapG vi (fun _ => True) (.bool false) s.2.2.1 s.2.2.2 (mapB ms (takenS ms walk i s.1))) (fun s => ms.length - s.1) (0, (e1, c1), (e2, c2)) ⟨rfl, rfl, rfl, rfl, rfl, rfl, rfl, rfl, rfl, rfl, trivial⟩ (by simp) (.refl _) ⟨Nat.zero_le _, hG1, hG2⟩ ?_
    rintro ⟨j, ⟨f1, d1⟩, ⟨f2, d2⟩⟩ ⟨hj, hH1, hH2⟩
    dsimp only at hj hH1 hH2 ⊢
    refine W.seq ?_; refine W.region ?_; refine .o rfl ?_; refine WL.nil ?_
    refine Kseq.go (W.seq ?_)
    refine W.condD rfl rfl (fun hlt2 => ?_) (fun hge2 => ?_)
    · have hjm : j < ms.length := by omega
      have htk : takenS ms walk i j j = seen walk (ms.getD j default) i := by unfold takenS; simp
      have next : ∀ {g1 : Array MapEntry} {k1 : Nat} {g2 : Array MapEntry} {k2 : Nat}, MapG vi (fun _ => True) (.bool false) g1 k1 (mapB ms (outS ms walk i (j + 1))) → MapG vi (fun _ => True) (.bool false) g2 k2 (mapB ms (takenS ms walk i (j + 1))) → j + 1 ≤ ms.length ∧ MapG vi (fun _ => True) (.bool false) g1 k1 (mapB ms (outS ms walk i (j + 1))) ∧ MapG vi (fun _ => True) (.bool false) g2 k2 (mapB ms (takenS ms walk i (j + 1))) := fun h1 h2 => ⟨hjm, h1, h2⟩
      refine W.skip (Kseq.go (W.seq (W.block (W.seq ?_))))
      refine W.region ?_; refine .val (.indexAddrN rfl rfl hMv hjm) rfl rfl rfl ?_; refine .val (.loadEA rfl hMv (by repeat constructor) hjm) rfl rfl rfl ?_
      refine WL.alloc rfl rfl rfl (fun b10 => ?_)
      (refine WL.store [_, _, _] rfl (.head _) rfl rfl rfl (Nat.le_of_ble_eq_true rfl) (IsArr.ones hMv hjm) rfl ?_)
      refine WL.nil ?_
      refine Kseq.go (W.seq (W.seq ?_))
      refine W.toS [(0, .pointer (some ⟨b, 0, none⟩)), (5, .map (some b11)), (6, .map (some b12)), (8, vi (walk.getD i 0)), (10, .pointer (some ⟨b10, 0, none⟩)), (13, lv), (14, .int .i64 (walk.length : Int)), (15, .int .i64 (i : Int)), (22, mv), (23, .int .i64 (ms.length : Int)), (24, .int .i64 (j : Int)), (37, .bool (decide ((ms.getD j default).to = walk.getD i 0) && seen walk (ms.getD j default) i))] ?_ ?_
      · skip
        refine W.region ?_; refine .val (.fieldAddrB rfl) rfl rfl rfl ?_; refine .val (.loadB rfl (.head _) rfl) rfl rfl rfl ?_
        iterate 3 refine .o rfl ?_
        refine WL.split rfl rfl (fun g32 => ?_) (fun g32 => ?_)
        · refine .o rfl ?_
          refine .val (.fieldAddrB rfl) rfl rfl rfl ?_; refine .val (.loadB rfl (.head _) rfl) rfl rfl rfl ?_; refine .val (.cast (.lookupR (k := (ms.getD j default).piece) rfl rfl (.tail _ (.head _)) hH2 trivial) ((mapB_at hinc hjm).trans (congrArg Value.bool htk))) rfl rfl rfl ?_; refine .o rfl ?_; refine WL.nil ?_
          exact Keff.intro ⟨rfl, rfl, rfl, rfl, rfl, rfl, rfl, rfl, rfl, rfl, rfl, congrArg (fun b => some (Value.bool b)) (by first | (simp [-List.getD_eq_getElem?_getD]; done) | (simp_all [-List.getD_eq_getElem?_getD]; done) | (simp [-List.getD_eq_getElem?_getD]; omega) | (rw [Bool.eq_iff_iff]; simp [-List.getD_eq_getElem?_getD]; omega) | (simp [-List.getD_eq_getElem?_getD] at *; omega)), trivial⟩ (by simp) (by repeat first | exact .refl _ | refine .cons _ ?_)
        · refine WL.pass rfl rfl rfl ?_
          refine WL.pass rfl rfl rfl ?_; refine WL.pass rfl rfl rfl ?_; refine WL.pass rfl rfl rfl ?_; refine .o rfl ?_; refine WL.nil ?_
          exact Keff.intro ⟨rfl, rfl, rfl, rfl, rfl, rfl, rfl, rfl, rfl, rfl, rfl, congrArg (fun b => some (Value.bool b)) (by first | (simp [-List.getD_eq_getElem?_getD]; done) | (simp_all [-List.getD_eq_getElem?_getD]; done) | (simp [-List.getD_eq_getElem?_getD]; omega) | (rw [Bool.eq_iff_iff]; simp [-List.getD_eq_getElem?_getD]; omega) | (simp [-List.getD_eq_getElem?_getD] at *; omega)), trivial⟩ (by simp) (by repeat first | exact .refl _ | refine .cons _ ?_)
      refine Kseq.go ?_
      refine W.cond rfl rfl (fun h37 => ?_) (fun h37 => ?_)
      · simp only [Bool.and_eq_true, decide_eq_true_eq] at h37
        refine W.region ?_; refine .o rfl ?_; refine .val (.fieldAddrB rfl) rfl rfl rfl ?_; refine .val (.loadB rfl (.head _) rfl) rfl rfl rfl ?_
        (refine WL.mapUpdate (k := (ms.getD j default).piece) rfl rfl rfl hH1 trivial (fun _ _ => .tail _ (.tail _ (.head _))) rfl ?_; intro g1 k1 hK1)
        refine WL.nil ?_
        refine Kseq.go (W.seq ?_)
        have hK1' := hK1.congr (fun y _ => mapB_upd hinc hjm (S' := outS ms walk i (j + 1)) (outS_new h37.1 h37.2) (fun x hx hne => outS_old hne) y)
        refine W.region ?_; refine .val (.fieldAddrB rfl) rfl rfl rfl ?_; refine .val (.loadB rfl (.head _) rfl) rfl rfl rfl ?_
        iterate 2 refine .o rfl ?_
        refine WL.nil ?_; refine Kseq.go ?_
        refine W.condD rfl rfl (fun he => ?_) (fun hne => ?_)
        · skip
          refine W.region ?_; refine .o rfl ?_; refine .val (.fieldAddrB rfl) rfl rfl rfl ?_; refine .val (.loadB rfl (.head _) rfl) rfl rfl rfl ?_
          (refine WL.mapUpdate (k := (ms.getD j default).piece) rfl rfl rfl hH2 trivial (fun _ _ => .tail _ (.head _)) rfl ?_; intro g2 k2 hK2)
          refine WL.nil ?_
          refine Kblock.normal (Kseq.go ?_)
          have hK2' := hK2.congr (fun y _ => mapB_upd hinc hjm (S' := takenS ms walk i (j + 1)) (takenS_new he) (fun x hx hne => takenS_old hne) y)
          refine W.region ?_; refine .val (.incr rfl (by omega)) rfl rfl rfl ?_; refine .o rfl ?_; refine WL.nil ?_
          exact Kloop.next (j + 1, (g1, k1), (g2, k2)) (next hK1' hK2') (by dsimp only; omega) ⟨rfl, rfl, rfl, rfl, rfl, rfl, rfl, rfl, rfl, rfl, trivial⟩ (by simp) (by repeat first | exact .refl _ | refine .cons _ ?_)
        · have hK2' := hH2.congr (fun y _ => mapB_congr (S' := takenS ms walk i (j + 1)) (fun x hx => takenS_same hne) y)
          refine W.skip (Kblock.normal (Kseq.go ?_))
          refine W.region ?_; refine .val (.incr rfl (by omega)) rfl rfl rfl ?_; refine .o rfl ?_; refine WL.nil ?_
          exact Kloop.next (j + 1, (g1, k1), (f2, d2)) (next hK1' hK2') (by dsimp only; omega) ⟨rfl, rfl, rfl, rfl, rfl, rfl, rfl, rfl, rfl, rfl, trivial⟩ (by simp) (by repeat first | exact .refl _ | refine .cons _ ?_)
      · have hK1' := hH1.congr (fun y _ => mapB_congr (S' := outS ms walk i (j + 1)) (fun x hx => outS_same h37) y)
        refine W.skip (Kseq.go (W.seq ?_))
        refine W.region ?_; refine .val (.fieldAddrB rfl) rfl rfl rfl ?_; refine .val (.loadB rfl (.head _) rfl) rfl rfl rfl ?_
        iterate 2 refine .o rfl ?_
        refine WL.nil ?_; refine Kseq.go ?_
        refine W.condD rfl rfl (fun he => ?_) (fun hne => ?_)
        · skip
          refine W.region ?_; refine .o rfl ?_; refine .val (.fieldAddrB rfl) rfl rfl rfl ?_; refine .val (.loadB rfl (.head _) rfl) rfl rfl rfl ?_
          (refine WL.mapUpdate (k := (ms.getD j default).piece) rfl rfl rfl hH2 trivial (fun _ _ => .tail _ (.head _)) rfl ?_; intro g2 k2 hK2)
          refine WL.nil ?_
          refine Kblock.normal (Kseq.go ?_)
          have hK2' := hK2.congr (fun y _ => mapB_upd hinc hjm (S' := takenS ms walk i (j + 1)) (takenS_new he) (fun x hx hne => takenS_old hne) y)
          refine W.region ?_; refine .val (.incr rfl (by omega)) rfl rfl rfl ?_; refine .o rfl ?_; refine WL.nil ?_
          exact Kloop.next (j + 1, (f1, d1), (g2, k2)) (next hK1' hK2') (by dsimp only; omega) ⟨rfl, rfl, rfl, rfl, rfl, rfl, rfl, rfl, rfl, rfl, trivial⟩ (by simp) (by repeat first | exact .refl _ | refine .cons _ ?_)
        · have hK2' := hH2.congr (fun y _ => mapB_congr (S' := takenS ms walk i (j + 1)) (fun x hx => takenS_same hne) y)
          refine W.skip (Kblock.normal (Kseq.go ?_))
          refine W.region ?_; refine .val (.incr rfl (by omega)) rfl rfl rfl ?_; refine .o rfl ?_; refine WL.nil ?_
          exact Kloop.next (j + 1, (f1, d1), (f2, d2)) (next hK1' hK2') (by dsimp only; omega) ⟨rfl, rfl, rfl, rfl, rfl, rfl, rfl, rfl, rfl, rfl, trivial⟩ (by simp) (by repeat first | exact .refl _ | refine .cons _ ?_)
    · have hjm : j = ms.length := by omega
      subst hjm
      refine W.exit (Kseq.exit (Kloop.exit (Kblock.here (Kblock.normal (Kseq.go ?_)))))
      refine W.region ?_; refine .val (.incr rfl (by omega)) rfl rfl rfl ?_; refine .o rfl ?_; refine WL.nil ?_
      exact Kloop.next (i + 1, (f1, d1), (f2, d2)) ⟨by dsimp only; omega, hH1.congr (fun y _ => mapB_congr (fun x hx => outS_next hx) y), hH2.congr (fun y _ => mapB_congr (fun x hx => takenS_next hx) y)⟩ (by dsimp only; omega) ⟨rfl, rfl, rfl, rfl, rfl, rfl, trivial⟩ (by simp) (by repeat first | exact .refl _ | refine .cons _ ?_)
  · have hiw : i = walk.length := by omega
    subst hiw
    refine W.exit (Kseq.exit (Kloop.exit (Kblock.here (Kseq.go (W.seq ?_)))))
    refine W.freezeMap (.tail _ (.head _)) (fun b hb => (hF b hb).elim) hG1 fun mr hmr => ?_
    refine W.region ?_
    iterate 2 refine .o rfl ?_
    refine WL.nil ?_; refine Kseq.go ?_
    refine W.ret ?_; refine ⟨.inl rfl, [_], mr, ⟨.tmp rfl, trivial⟩, (by repeat constructor), ?_⟩
    obtain ⟨es, cl, k1, k2⟩ := hmr
    exact ⟨b11, rfl, es, cl, k1, k2.congr (fun y _ => mapB_congr (fun x hx => by
      unfold outS
      rw [done_brought]; simp) y)⟩
end Go.Proofs.Ytppkhehbkoeinaa
