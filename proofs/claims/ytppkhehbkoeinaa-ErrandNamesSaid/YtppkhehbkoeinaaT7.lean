/- The reference's functions of chapter 3, on: their contracts. -/
import Derived.Test.YtppkhehbkoeinaaT1
namespace Go.Proofs.Ytppkhehbkoeinaa
open Go Go.Eng Go.RowKit

end Go.Proofs.Ytppkhehbkoeinaa

/- The reference's functions of chapter 3, on: their contracts. -/
namespace Go.Proofs.Ytppkhehbkoeinaa
open Go Go.Eng Go.RowKit

end Go.Proofs.Ytppkhehbkoeinaa

/- The statements' own functions of chapter 3: their contracts. -/
namespace Go.Proofs.Ytppkhehbkoeinaa
open Go Go.Eng Go.RowKit

end Go.Proofs.Ytppkhehbkoeinaa

/- The statements' own functions of chapter 3, on: their contracts. -/
namespace Go.Proofs.Ytppkhehbkoeinaa
open Go Go.Eng Go.RowKit

end Go.Proofs.Ytppkhehbkoeinaa

/- The statements' own functions of chapter 3, on: their contracts. -/
namespace Go.Proofs.Ytppkhehbkoeinaa
open Go Go.Eng Go.RowKit

theorem IsLists.nil (m : Mem) : IsLists m (.slice none 0 0) [] := ⟨[], AllInts.nil m, IsArr.nil m 1 _⟩
theorem ints_lit {m : Mem} {v : Value} {xs : List Int} {n : Nat} (h : IsCells m 1 v n (xs.map vi)) : IsInts m v xs := by
  have hn : n = xs.length := by have := h.1; simp at this; omega
  subst hn
  exact ints_of_cells h.2

end Go.Proofs.Ytppkhehbkoeinaa

/- The program's functions of chapter 3: their contracts. -/
namespace Go.Proofs.Ytppkhehbkoeinaa
open Go Go.Eng Go.RowKit

/-- within -/
theorem within_any {h : Mem} (n low high : Int) : FnV Try.prog 80 #[.int .i64 n, .int .i64 low, .int .i64 high] h (.bool (decide (low ≤ n ∧ n ≤ high))) := by
  refine FnR.val ?_
  refine FnR.of_W (n := 15) Try.func80 rfl rfl (Nat.le_of_ble_eq_true rfl) fun c hr hD hF => ?_
  refine W.seq ?_; refine W.region ?_; refine .o rfl ?_; refine WL.nil ?_
  refine Kseq.go (W.seq ?_)
  refine W.region ?_
  iterate 4 refine .o rfl ?_
  refine WL.split rfl rfl (fun g10 => ?_) (fun g10 => ?_)
  · refine .o rfl ?_
    iterate 4 refine .o rfl ?_
    refine WL.nil ?_; refine Kseq.go ?_
    (refine W.ret ?_; refine ⟨.inl rfl, [_], h, ⟨.tmp rfl, trivial⟩, (by repeat constructor), ?_⟩; exact congrArg Value.bool (by first | (simp [-List.getD_eq_getElem?_getD]; done) | (simp_all [-List.getD_eq_getElem?_getD]; done) | (simp [-List.getD_eq_getElem?_getD]; omega) | (rw [Bool.eq_iff_iff]; simp [-List.getD_eq_getElem?_getD]; omega) | (simp [-List.getD_eq_getElem?_getD] at *; omega)))
  · refine WL.pass rfl rfl rfl ?_
    refine WL.pass rfl rfl rfl ?_; refine WL.pass rfl rfl rfl ?_
    iterate 2 refine .o rfl ?_
    refine WL.nil ?_; refine Kseq.go ?_
    (refine W.ret ?_; refine ⟨.inl rfl, [_], h, ⟨.tmp rfl, trivial⟩, (by repeat constructor), ?_⟩; exact congrArg Value.bool (by first | (simp [-List.getD_eq_getElem?_getD]; done) | (simp_all [-List.getD_eq_getElem?_getD]; done) | (simp [-List.getD_eq_getElem?_getD]; omega) | (rw [Bool.eq_iff_iff]; simp [-List.getD_eq_getElem?_getD]; omega) | (simp [-List.getD_eq_getElem?_getD] at *; omega)))

/-- mark -/
theorem mark_any {h : Mem} (n : Int) : FnV Try.prog 117 #[.int .i64 n] h (.bool (decide (0 ≤ n ∧ n ≤ 9))) := by
  refine FnR.val ?_
  refine FnR.of_W (n := 5) Try.func117 rfl rfl (Nat.le_of_ble_eq_true rfl) fun c hr hD hF => ?_
  refine W.seq ?_; refine W.region ?_; refine .o rfl ?_; refine WL.nil ?_
  refine Kseq.go (W.seq ?_)
  refine W.region ?_; refine .o rfl ?_; refine .val (.call rfl (fun m hm => within_any _ _ _)) rfl rfl rfl ?_; refine .o rfl ?_; refine WL.nil ?_; refine Kseq.go ?_
  refine W.ret ?_; refine ⟨.inl rfl, [_], h, ⟨.tmp rfl, trivial⟩, (by repeat constructor), ?_⟩
  rfl

/-- slices.Index -/
theorem index_any {h : Mem} {v : Value} {xs : List Int} (x : Int) (hv : IsInts h v xs) : FnR Try.prog 135 #[v, .int .i64 x] h (fun _ r => ∃ i : Int, r = .int .i64 i ∧ (0 ≤ i ↔ x ∈ xs)) := by
  have hlen := hv.bd
  refine FnR.of_W (n := 19) Try.func135 rfl rfl (Nat.le_of_ble_eq_true rfl) fun c hr hD hF => ?_
  refine W.seq ?_; refine W.region ?_; refine .o rfl ?_; refine WL.nil ?_
  refine Kseq.go (W.seq (W.seq ?_))
  refine W.region ?_; refine .o rfl ?_; refine .val (.len rfl (by assumption)) rfl rfl rfl ?_; refine .o rfl ?_; refine WL.nil ?_
  refine Kseq.go (W.block ?_)
  refine W.loopC (σ := Nat) (fun k => [(0, v), (1, .int .i64 x), (7, .int .i64 (xs.length : Int)), (8, .int .i64 (k : Int))]) (fun k => k ≤ xs.length ∧ ∀ j, j < k → xs.getD j 0 ≠ x) (fun k => xs.length - k) 0 ⟨rfl, rfl, rfl, rfl, trivial⟩ ⟨Nat.zero_le _, fun j hj => absurd hj (Nat.not_lt_zero _)⟩ ?_
  rintro k ⟨hk, hall⟩
  refine W.seq ?_; refine W.region ?_; refine .o rfl ?_; refine WL.nil ?_
  refine Kseq.go (W.seq ?_)
  refine W.condD rfl rfl (fun hlt => ?_) (fun hge => ?_)
  · refine W.skip (Kseq.go (W.seq (W.block (W.seq ?_))))
    refine W.region ?_
    iterate 2 refine .o rfl ?_
    refine WL.nil ?_
    refine Kseq.go (W.seq ?_)
    refine W.region ?_
    iterate 3 refine .o rfl ?_
    refine .val (.indexAddrN rfl rfl (by assumption) (by omega)) rfl rfl rfl ?_; refine .val (.loadE rfl (by assumption) (by repeat constructor) (by omega) (by omega)) rfl rfl rfl ?_; refine .o rfl ?_; refine WL.nil ?_; refine Kseq.go ?_
    refine W.condD rfl rfl (fun he => ?_) (fun hne => ?_)
    · refine W.seq ?_
      refine W.region ?_
      iterate 2 refine .o rfl ?_
      refine WL.nil ?_; refine Kseq.go ?_
      refine W.ret ?_; refine Kblock.ret (Kseq.ret (Kloop.ret (Kblock.ret (Kseq.ret ?_)))); refine ⟨.inl rfl, [_], h, ⟨.tmp rfl, trivial⟩, (by repeat constructor), ?_⟩
      exact ⟨_, rfl, ⟨fun _ => he ▸ mem_getD (by omega), fun _ => by omega⟩⟩
    · refine W.skip (Kblock.normal (Kseq.go ?_))
      refine W.region ?_; refine .val (.incr rfl (by omega)) rfl rfl rfl ?_; refine .o rfl ?_; refine WL.nil ?_
      refine Kloop.nextC (k + 1) ⟨by omega, fun j hj => ?_⟩ (by omega) ⟨rfl, rfl, rfl, rfl, trivial⟩ (by simp) (.refl _)
      rcases Nat.lt_succ_iff_lt_or_eq.1 hj with h | rfl
      · exact hall j h
      · exact fun e => hne e.symm
  · refine W.exit (Kseq.exit (Kloop.exit (Kblock.here (Kseq.go (W.seq ?_)))))
    refine W.region ?_; refine .o rfl ?_; refine WL.nil ?_; refine Kseq.go ?_
    refine W.ret ?_; refine ⟨.inl rfl, [_], h, ⟨.tmp rfl, trivial⟩, (by repeat constructor), ?_⟩
    refine ⟨_, rfl, ⟨fun h => by omega, fun hm => ?_⟩⟩
    obtain ⟨j, hj, he⟩ := getD_of_mem hm
    exact absurd he (hall j (by omega))

/-- slices.Contains -/
theorem contains_any {h : Mem} {v : Value} {xs : List Int} (x : Int) (hv : IsInts h v xs) : FnV Try.prog 109 #[v, .int .i64 x] h (.bool (decide (x ∈ xs))) := by
  refine FnR.val ?_
  refine FnR.of_W (n := 9) Try.func109 rfl rfl (Nat.le_of_ble_eq_true rfl) fun c hr hD hF => ?_
  refine W.seq ?_; refine W.region ?_; refine .o rfl ?_; refine WL.nil ?_
  refine Kseq.go (W.seq ?_)
  refine W.region ?_
  iterate 2 refine .o rfl ?_
  refine WL.abs (OpAbs.call rfl (fun m hm => index_any _ (hv.le (by repeat first | exact hm.1 | replace hm := hm.2)))) rfl rfl rfl ?_
  rintro m7 _ ⟨i, rfl, hi⟩
  iterate 2 refine .o rfl ?_
  refine WL.nil ?_; refine Kseq.go ?_
  refine W.ret ?_; refine ⟨.inl rfl, [_], h, ⟨.tmp rfl, trivial⟩, (by repeat constructor), ?_⟩
  exact congrArg Value.bool (decide_eq_decide.2 hi)

/-- slices.IndexFunc of posser/bundle.Woman -/
theorem indexFuncW_any {h : Mem} {v : Value} {N : Nat} {f : Nat → Nat → Value} {g : FuncId} [TC Try.prog g] {fs cs : Array Value} {p : Nat → Bool} (hv : IsArr h 3 v N f)
    (hp : ∀ i, i < N → ∀ m, MLe h m → FnV Try.prog g (fs ++ #[.agg ((List.range 3).map (f i)).toArray] ++ cs) m (.bool (p i))) : FnR Try.prog 141 #[v, .func (.func g) fs cs] h (fun _ r => ∃ i : Int, r = .int .i64 i ∧ (0 ≤ i ↔ ex N p = true)) := by
  have hlen := hv.len
  unfold maxLen at hlen
  refine FnR.of_W (n := 19) Try.func141 rfl rfl (Nat.le_of_ble_eq_true rfl) fun c hr hD hF => ?_
  refine W.seq ?_; refine W.region ?_; refine .o rfl ?_; refine WL.nil ?_
  refine Kseq.go (W.seq (W.seq ?_))
  refine W.region ?_; refine .o rfl ?_; refine .val (.len rfl (by assumption)) rfl rfl rfl ?_; refine .o rfl ?_; refine WL.nil ?_
  refine Kseq.go (W.block ?_)
  refine W.loopC (σ := Nat) (fun k => [(0, v), (1, .func (.func g) fs cs), (7, .int .i64 (N : Int)), (8, .int .i64 (k : Int))]) (fun k => k ≤ N ∧ ∀ j, j < k → p j = false) (fun k => N - k) 0 ⟨rfl, rfl, rfl, rfl, trivial⟩ ⟨Nat.zero_le _, fun j hj => absurd hj (Nat.not_lt_zero _)⟩ ?_
  rintro k ⟨hk, hall⟩
  refine W.seq ?_; refine W.region ?_; refine .o rfl ?_; refine WL.nil ?_
  refine Kseq.go (W.seq ?_)
  refine W.condD rfl rfl (fun hlt => ?_) (fun hge => ?_)
  · refine W.skip (Kseq.go (W.seq (W.block (W.seq ?_))))
    refine W.region ?_
    iterate 2 refine .o rfl ?_
    refine WL.nil ?_
    refine Kseq.go (W.seq ?_)
    refine W.region ?_
    iterate 3 refine .o rfl ?_
    refine .val (.indexAddrN rfl rfl (by assumption) (by omega)) rfl rfl rfl ?_; refine .val (.loadEA rfl (by assumption) (by repeat constructor) (by omega)) rfl rfl rfl ?_; refine .val (.callC rfl rfl (fun m hm => hp k (by omega) m (by repeat first | exact hm.1 | replace hm := hm.2))) rfl rfl rfl ?_; refine WL.nil ?_; refine Kseq.go ?_
    refine W.cond rfl rfl (fun he => ?_) (fun hne => ?_)
    · refine W.seq ?_
      refine W.region ?_
      iterate 2 refine .o rfl ?_
      refine WL.nil ?_; refine Kseq.go ?_
      refine W.ret ?_; refine Kblock.ret (Kseq.ret (Kloop.ret (Kblock.ret (Kseq.ret ?_)))); refine ⟨.inl rfl, [_], h, ⟨.tmp rfl, trivial⟩, (by repeat constructor), ?_⟩
      exact ⟨_, rfl, ⟨fun _ => ex_iff.2 ⟨k, by omega, he⟩, fun _ => by omega⟩⟩
    · refine W.skip (Kblock.normal (Kseq.go ?_))
      refine W.region ?_; refine .val (.incr rfl (by omega)) rfl rfl rfl ?_; refine .o rfl ?_; refine WL.nil ?_
      refine Kloop.nextC (k + 1) ⟨by omega, fun j hj => ?_⟩ (by omega) ⟨rfl, rfl, rfl, rfl, trivial⟩ (by simp) (.refl _)
      rcases Nat.lt_succ_iff_lt_or_eq.1 hj with h | rfl
      · exact hall j h
      · exact hne
  · refine W.exit (Kseq.exit (Kloop.exit (Kblock.here (Kseq.go (W.seq ?_)))))
    refine W.region ?_; refine .o rfl ?_; refine WL.nil ?_; refine Kseq.go ?_
    refine W.ret ?_; refine ⟨.inl rfl, [_], h, ⟨.tmp rfl, trivial⟩, (by repeat constructor), ?_⟩
    refine ⟨_, rfl, ⟨fun h => by omega, fun hm => ?_⟩⟩
    obtain ⟨j, hj, he⟩ := ex_iff.1 hm
    rw [hall j (by omega)] at he; cases he
/-- slices.ContainsFunc of posser/bundle.Woman -/
theorem containsFuncW_any {h : Mem} {v : Value} {N : Nat} {f : Nat → Nat → Value} {g : FuncId} [TC Try.prog g] {fs cs : Array Value} {p : Nat → Bool} (hv : IsArr h 3 v N f)
    (hp : ∀ i, i < N → ∀ m, MLe h m → FnV Try.prog g (fs ++ #[.agg ((List.range 3).map (f i)).toArray] ++ cs) m (.bool (p i))) : FnV Try.prog 118 #[v, .func (.func g) fs cs] h (.bool (ex N p)) := by
  refine FnR.val ?_
  refine FnR.of_W (n := 9) Try.func118 rfl rfl (Nat.le_of_ble_eq_true rfl) fun c hr hD hF => ?_
  refine W.seq ?_; refine W.region ?_; refine .o rfl ?_; refine WL.nil ?_
  refine Kseq.go (W.seq ?_)
  refine W.region ?_
  iterate 2 refine .o rfl ?_
  refine WL.abs (OpAbs.call rfl (fun m hm => indexFuncW_any (hv.le (by repeat first | exact hm.1 | replace hm := hm.2)) (fun i hi m' hm' => hp i hi m' (MLe.trans (by repeat first | exact hm.1 | replace hm := hm.2) hm')))) rfl rfl rfl ?_
  rintro m7 _ ⟨i, rfl, hi⟩
  iterate 2 refine .o rfl ?_
  refine WL.nil ?_; refine Kseq.go ?_
  refine W.ret ?_; refine ⟨.inl rfl, [_], h, ⟨.tmp rfl, trivial⟩, (by repeat constructor), ?_⟩
  exact congrArg Value.bool (by rw [Bool.eq_iff_iff, ← hi]; simp)

/-- all of posser/bundle.Woman, its inner function -/
theorem allInW_any {h : Mem} {b : Nat} {g : FuncId} [TC Try.prog g] {fs cs : Array Value} {x : Value} {r : Bool} (hb : IsBox h b #[.func (.func g) fs cs] 140) (hx : ∃ x0 x1 x2 : Value, x = .agg #[x0, x1, x2])
    (hp : ∀ m, MLe h m → FnV Try.prog g (fs ++ #[x] ++ cs) m (.bool r)) : FnV Try.prog 119 #[x, .pointer (some ⟨b, 0, none⟩)] h (.bool (!r)) := by
  refine FnR.val ?_
  obtain ⟨x0, x1, x2, rfl⟩ := hx
  refine FnR.of_W (n := 8) Try.func119 rfl rfl (Nat.le_of_ble_eq_true rfl) fun c hr hD hF => ?_
  refine W.seq ?_; refine W.region ?_
  refine WL.box rfl rfl rfl rfl (fun b2 => ?_)
  refine .o rfl ?_; refine WL.nil ?_
  refine Kseq.go (W.seq ?_)
  refine W.region ?_; refine .val (.loadP rfl (by assumption) (by repeat constructor) rfl) rfl rfl rfl ?_; refine .val (.loadBW rfl (.head _) rfl) rfl rfl rfl ?_; refine .val (.callC rfl rfl (fun m hm => hp m (by repeat first | exact hm.1 | replace hm := hm.2))) rfl rfl rfl ?_
  iterate 2 refine .o rfl ?_
  refine WL.nil ?_; refine Kseq.go ?_
  refine W.ret ?_; refine ⟨.inl rfl, [_], h, ⟨.tmp rfl, trivial⟩, (by repeat constructor), ?_⟩
  rfl
/-- all of posser/bundle.Woman -/
theorem allW_any {h : Mem} {v : Value} {N : Nat} {f : Nat → Nat → Value} {g : FuncId} [TC Try.prog g] {fs cs : Array Value} {p : Nat → Bool} (hv : IsArr h 3 v N f)
    (hp : ∀ i, i < N → ∀ m, MLe h m → FnV Try.prog g (fs ++ #[.agg ((List.range 3).map (f i)).toArray] ++ cs) m (.bool (p i))) : FnV Try.prog 81 #[v, .func (.func g) fs cs] h (.bool (!ex N fun i => !p i)) := by
  refine FnR.val ?_
  refine FnR.of_W (n := 9) Try.func81 rfl rfl (Nat.le_of_ble_eq_true rfl) fun c hr hD hF => ?_
  refine W.seq ?_; refine W.region ?_
  refine WL.box rfl rfl rfl rfl (fun b3 => ?_)
  refine .o rfl ?_; refine WL.nil ?_
  refine Kseq.go (W.seq ?_)
  refine W.freezeBox (.head _) (fun b hb => (hF b hb).elim) fun mb hmb => ?_
  refine W.region ?_
  iterate 2 refine .o rfl ?_
  refine .val (.call rfl (fun m hm => containsFuncW_any (p := fun i => !p i) (hv.le (by repeat first | exact hm.1 | replace hm := hm.2)) (fun i hi m' hm' => allInW_any (hmb.le (MLe.trans (by repeat first | exact hm.1 | replace hm := hm.2) hm')) ⟨_, _, _, rfl⟩ (fun m2 hm2 => hp i hi m2 (MLe.trans (MLe.trans (by repeat first | exact hm.1 | replace hm := hm.2) hm') hm2))))) rfl rfl rfl ?_
  iterate 2 refine .o rfl ?_
  refine WL.nil ?_; refine Kseq.go ?_
  refine W.ret ?_; refine ⟨.inl rfl, [_], h, ⟨.tmp rfl, trivial⟩, (by repeat constructor), ?_⟩
  rfl

/-- slices.IndexFunc of posser/bundle.Piece -/
theorem indexFuncP_any {h : Mem} {v : Value} {N : Nat} {f : Nat → Nat → Value} {g : FuncId} [TC Try.prog g] {fs cs : Array Value} {p : Nat → Bool} (hv : IsArr h 2 v N f)
    (hp : ∀ i, i < N → ∀ m, MLe h m → FnV Try.prog g (fs ++ #[.agg ((List.range 2).map (f i)).toArray] ++ cs) m (.bool (p i))) : FnR Try.prog 142 #[v, .func (.func g) fs cs] h (fun _ r => ∃ i : Int, r = .int .i64 i ∧ (0 ≤ i ↔ ex N p = true)) := by
  have hlen := hv.len
  unfold maxLen at hlen
  refine FnR.of_W (n := 19) Try.func142 rfl rfl (Nat.le_of_ble_eq_true rfl) fun c hr hD hF => ?_
  refine W.seq ?_; refine W.region ?_; refine .o rfl ?_; refine WL.nil ?_
  refine Kseq.go (W.seq (W.seq ?_))
  refine W.region ?_; refine .o rfl ?_; refine .val (.len rfl (by assumption)) rfl rfl rfl ?_; refine .o rfl ?_; refine WL.nil ?_
  refine Kseq.go (W.block ?_)
  refine W.loopC (σ := Nat) (fun k => [(0, v), (1, .func (.func g) fs cs), (7, .int .i64 (N : Int)), (8, .int .i64 (k : Int))]) (fun k => k ≤ N ∧ ∀ j, j < k → p j = false) (fun k => N - k) 0 ⟨rfl, rfl, rfl, rfl, trivial⟩ ⟨Nat.zero_le _, fun j hj => absurd hj (Nat.not_lt_zero _)⟩ ?_
  rintro k ⟨hk, hall⟩
  refine W.seq ?_; refine W.region ?_; refine .o rfl ?_; refine WL.nil ?_
  refine Kseq.go (W.seq ?_)
  refine W.condD rfl rfl (fun hlt => ?_) (fun hge => ?_)
  · refine W.skip (Kseq.go (W.seq (W.block (W.seq ?_))))
    refine W.region ?_
    iterate 2 refine .o rfl ?_
    refine WL.nil ?_
    refine Kseq.go (W.seq ?_)
    refine W.region ?_
    iterate 3 refine .o rfl ?_
    refine .val (.indexAddrN rfl rfl (by assumption) (by omega)) rfl rfl rfl ?_; refine .val (.loadEA rfl (by assumption) (by repeat constructor) (by omega)) rfl rfl rfl ?_; refine .val (.callC rfl rfl (fun m hm => hp k (by omega) m (by repeat first | exact hm.1 | replace hm := hm.2))) rfl rfl rfl ?_; refine WL.nil ?_; refine Kseq.go ?_
    refine W.cond rfl rfl (fun he => ?_) (fun hne => ?_)
    · refine W.seq ?_
      refine W.region ?_
      iterate 2 refine .o rfl ?_
      refine WL.nil ?_; refine Kseq.go ?_
      refine W.ret ?_; refine Kblock.ret (Kseq.ret (Kloop.ret (Kblock.ret (Kseq.ret ?_)))); refine ⟨.inl rfl, [_], h, ⟨.tmp rfl, trivial⟩, (by repeat constructor), ?_⟩
      exact ⟨_, rfl, ⟨fun _ => ex_iff.2 ⟨k, by omega, he⟩, fun _ => by omega⟩⟩
    · refine W.skip (Kblock.normal (Kseq.go ?_))
      refine W.region ?_; refine .val (.incr rfl (by omega)) rfl rfl rfl ?_; refine .o rfl ?_; refine WL.nil ?_
      refine Kloop.nextC (k + 1) ⟨by omega, fun j hj => ?_⟩ (by omega) ⟨rfl, rfl, rfl, rfl, trivial⟩ (by simp) (.refl _)
      rcases Nat.lt_succ_iff_lt_or_eq.1 hj with h | rfl
      · exact hall j h
      · exact hne
  · refine W.exit (Kseq.exit (Kloop.exit (Kblock.here (Kseq.go (W.seq ?_)))))
    refine W.region ?_; refine .o rfl ?_; refine WL.nil ?_; refine Kseq.go ?_
    refine W.ret ?_; refine ⟨.inl rfl, [_], h, ⟨.tmp rfl, trivial⟩, (by repeat constructor), ?_⟩
    refine ⟨_, rfl, ⟨fun h => by omega, fun hm => ?_⟩⟩
    obtain ⟨j, hj, he⟩ := ex_iff.1 hm
    rw [hall j (by omega)] at he; cases he
/-- slices.ContainsFunc of posser/bundle.Piece -/
theorem containsFuncP_any {h : Mem} {v : Value} {N : Nat} {f : Nat → Nat → Value} {g : FuncId} [TC Try.prog g] {fs cs : Array Value} {p : Nat → Bool} (hv : IsArr h 2 v N f)
    (hp : ∀ i, i < N → ∀ m, MLe h m → FnV Try.prog g (fs ++ #[.agg ((List.range 2).map (f i)).toArray] ++ cs) m (.bool (p i))) : FnV Try.prog 120 #[v, .func (.func g) fs cs] h (.bool (ex N p)) := by
  refine FnR.val ?_
  refine FnR.of_W (n := 9) Try.func120 rfl rfl (Nat.le_of_ble_eq_true rfl) fun c hr hD hF => ?_
  refine W.seq ?_; refine W.region ?_; refine .o rfl ?_; refine WL.nil ?_
  refine Kseq.go (W.seq ?_)
  refine W.region ?_
  iterate 2 refine .o rfl ?_
  refine WL.abs (OpAbs.call rfl (fun m hm => indexFuncP_any (hv.le (by repeat first | exact hm.1 | replace hm := hm.2)) (fun i hi m' hm' => hp i hi m' (MLe.trans (by repeat first | exact hm.1 | replace hm := hm.2) hm')))) rfl rfl rfl ?_
  rintro m7 _ ⟨i, rfl, hi⟩
  iterate 2 refine .o rfl ?_
  refine WL.nil ?_; refine Kseq.go ?_
  refine W.ret ?_; refine ⟨.inl rfl, [_], h, ⟨.tmp rfl, trivial⟩, (by repeat constructor), ?_⟩
  exact congrArg Value.bool (by rw [Bool.eq_iff_iff, ← hi]; simp)

/-- all of posser/bundle.Piece, its inner function -/
theorem allInP_any {h : Mem} {b : Nat} {g : FuncId} [TC Try.prog g] {fs cs : Array Value} {x : Value} {r : Bool} (hb : IsBox h b #[.func (.func g) fs cs] 138) (hx : ∃ x0 x1 : Value, x = .agg #[x0, x1])
    (hp : ∀ m, MLe h m → FnV Try.prog g (fs ++ #[x] ++ cs) m (.bool r)) : FnV Try.prog 121 #[x, .pointer (some ⟨b, 0, none⟩)] h (.bool (!r)) := by
  refine FnR.val ?_
  obtain ⟨x0, x1, rfl⟩ := hx
  refine FnR.of_W (n := 8) Try.func121 rfl rfl (Nat.le_of_ble_eq_true rfl) fun c hr hD hF => ?_
  refine W.seq ?_; refine W.region ?_
  refine WL.box rfl rfl rfl rfl (fun b2 => ?_)
  refine .o rfl ?_; refine WL.nil ?_
  refine Kseq.go (W.seq ?_)
  refine W.region ?_; refine .val (.loadP rfl (by assumption) (by repeat constructor) rfl) rfl rfl rfl ?_; refine .val (.loadBW rfl (.head _) rfl) rfl rfl rfl ?_; refine .val (.callC rfl rfl (fun m hm => hp m (by repeat first | exact hm.1 | replace hm := hm.2))) rfl rfl rfl ?_
  iterate 2 refine .o rfl ?_
  refine WL.nil ?_; refine Kseq.go ?_
  refine W.ret ?_; refine ⟨.inl rfl, [_], h, ⟨.tmp rfl, trivial⟩, (by repeat constructor), ?_⟩
  rfl
/-- all of posser/bundle.Piece -/
theorem allP_any {h : Mem} {v : Value} {N : Nat} {f : Nat → Nat → Value} {g : FuncId} [TC Try.prog g] {fs cs : Array Value} {p : Nat → Bool} (hv : IsArr h 2 v N f)
    (hp : ∀ i, i < N → ∀ m, MLe h m → FnV Try.prog g (fs ++ #[.agg ((List.range 2).map (f i)).toArray] ++ cs) m (.bool (p i))) : FnV Try.prog 83 #[v, .func (.func g) fs cs] h (.bool (!ex N fun i => !p i)) := by
  refine FnR.val ?_
  refine FnR.of_W (n := 9) Try.func83 rfl rfl (Nat.le_of_ble_eq_true rfl) fun c hr hD hF => ?_
  refine W.seq ?_; refine W.region ?_
  refine WL.box rfl rfl rfl rfl (fun b3 => ?_)
  refine .o rfl ?_; refine WL.nil ?_
  refine Kseq.go (W.seq ?_)
  refine W.freezeBox (.head _) (fun b hb => (hF b hb).elim) fun mb hmb => ?_
  refine W.region ?_
  iterate 2 refine .o rfl ?_
  refine .val (.call rfl (fun m hm => containsFuncP_any (p := fun i => !p i) (hv.le (by repeat first | exact hm.1 | replace hm := hm.2)) (fun i hi m' hm' => allInP_any (hmb.le (MLe.trans (by repeat first | exact hm.1 | replace hm := hm.2) hm')) ⟨_, _, rfl⟩ (fun m2 hm2 => hp i hi m2 (MLe.trans (MLe.trans (by repeat first | exact hm.1 | replace hm := hm.2) hm') hm2))))) rfl rfl rfl ?_
  iterate 2 refine .o rfl ?_
  refine WL.nil ?_; refine Kseq.go ?_
  refine W.ret ?_; refine ⟨.inl rfl, [_], h, ⟨.tmp rfl, trivial⟩, (by repeat constructor), ?_⟩
  rfl

end Go.Proofs.Ytppkhehbkoeinaa
