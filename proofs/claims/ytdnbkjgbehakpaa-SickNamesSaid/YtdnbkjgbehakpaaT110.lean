/- The program's functions of chapter 6: all. -/
import Derived.Test.YtdnbkjgbehakpaaT7
import Derived.Test.YtdnbkjgbehakpaaT100
import Derived.Test.YtdnbkjgbehakpaaT22
import Derived.Test.YtdnbkjgbehakpaaT29
namespace Go.Proofs.Ytdnbkjgbehakpaa
open Go Go.Eng Go.RowKit

/-- all of int, its inner function -/
theorem allIn6I_any {h : Mem} {b : Nat} {g : FuncId} [TC Try.prog g] {fs cs : Array Value} {x : Value} {r : Bool} (hb : IsBox h b #[.func (.func g) fs cs] 76)
    (hp : ∀ m, MLe h m → FnV Try.prog g (fs ++ #[x] ++ cs) m (.bool r)) : FnV Try.prog 59 #[x, .pointer (some ⟨b, 0, none⟩)] h (.bool (!r)) := by
  refine FnR.val ?_
  refine FnR.of_W (n := 8) Try.func59 rfl rfl (Nat.le_of_ble_eq_true rfl) fun c hr hD hF => ?_
  refine W.seq ?_; refine W.region ?_; refine .o rfl ?_; refine WL.nil ?_
  refine Kseq.go (W.seq ?_)
  refine W.region ?_; refine .val (.loadP rfl (by assumption) (by repeat constructor) rfl) rfl rfl rfl ?_; refine .o rfl ?_; refine .val (.callC rfl rfl (fun m hm => hp m (by repeat first | exact hm.1 | replace hm := hm.2))) rfl rfl rfl ?_
  iterate 2 refine .o rfl ?_
  refine WL.nil ?_; refine Kseq.go ?_
  refine W.ret ?_; refine ⟨.inl rfl, [_], h, ⟨.tmp rfl, trivial⟩, (by repeat constructor), ?_⟩
  rfl
/-- all of int -/
theorem all6I_any {h : Mem} {v : Value} {N : Nat} {f : Nat → Nat → Value} {g : FuncId} [TC Try.prog g] {fs cs : Array Value} {p : Nat → Bool} (hv : IsArr h 1 v N f)
    (hp : ∀ i, i < N → ∀ m, MLe h m → FnV Try.prog g (fs ++ #[f i 0] ++ cs) m (.bool (p i))) : FnV Try.prog 38 #[v, .func (.func g) fs cs] h (.bool (!ex N fun i => !p i)) := by
  refine FnR.val ?_
  refine FnR.of_W (n := 9) Try.func38 rfl rfl (Nat.le_of_ble_eq_true rfl) fun c hr hD hF => ?_
  refine W.seq ?_; refine W.region ?_
  refine WL.box rfl rfl rfl rfl (fun b3 => ?_)
  refine .o rfl ?_; refine WL.nil ?_
  refine Kseq.go (W.seq ?_)
  refine W.freezeBox (.head _) (fun b hb => (hF b hb).elim) fun mb hmb => ?_
  refine W.region ?_
  iterate 2 refine .o rfl ?_
  refine .val (.call rfl (fun m hm => containsFuncI_any (p := fun i => !p i) (hv.le (by repeat first | exact hm.1 | replace hm := hm.2)) (fun i hi m' hm' => allIn6I_any (hmb.le (MLe.trans (by repeat first | exact hm.1 | replace hm := hm.2) hm')) (fun m2 hm2 => hp i hi m2 (MLe.trans (MLe.trans (by repeat first | exact hm.1 | replace hm := hm.2) hm') hm2))))) rfl rfl rfl ?_
  iterate 2 refine .o rfl ?_
  refine WL.nil ?_; refine Kseq.go ?_
  refine W.ret ?_; refine ⟨.inl rfl, [_], h, ⟨.tmp rfl, trivial⟩, (by repeat constructor), ?_⟩
  rfl
/-- slices.IndexFunc of posser/sick.Touch -/
theorem indexFunc6T_any {h : Mem} {v : Value} {N : Nat} {f : Nat → Nat → Value} {g : FuncId} [TC Try.prog g] {fs cs : Array Value} {p : Nat → Bool} (hv : IsArr h 4 v N f)
    (hp : ∀ i, i < N → ∀ m, MLe h m → FnV Try.prog g (fs ++ #[.agg ((List.range 4).map (f i)).toArray] ++ cs) m (.bool (p i))) : FnR Try.prog 80 #[v, .func (.func g) fs cs] h (fun _ r => ∃ i : Int, r = .int .i64 i ∧ (0 ≤ i ↔ ex N p = true)) := by
  have hlen := hv.len
  unfold maxLen at hlen
  refine FnR.of_W (n := 19) Try.func80 rfl rfl (Nat.le_of_ble_eq_true rfl) fun c hr hD hF => ?_
  refine W.seq ?_; refine W.region ?_; refine .o rfl ?_; refine WL.nil ?_
  refine Kseq.go (W.seq (W.seq ?_))
  refine W.region ?_; refine .o rfl ?_; refine .val (.len rfl (by assumption)) rfl rfl rfl ?_; refine .o rfl ?_; refine WL.nil ?_
  refine Kseq.go (W.block ?_)
  refine W.loopC (σ := Nat) (fun k => [(0, v), (1, .func (.func g) fs cs), (7, .int .i64 (N : Int)), (8, .int .i64 (k : Int))]) (fun k => k ≤ N ∧ ∀ j, j < k → p j = false) (fun k => N - k) 0 ⟨rfl, rfl, rfl, rfl, trivial⟩ ⟨Nat.zero_le _, fun j hj => absurd hj (Nat.not_lt_zero _)⟩ ?_
  rintro k ⟨hk, hall⟩
  refine W.seq ?_; refine W.region ?_; refine .o rfl ?_; refine WL.nil ?_
  refine Kseq.go (W.seq ?_)
  refine W.condD rfl rfl (fun hlt => ?_) (fun hge => ?_)
  · refine W.skip (Kseq.go (W.seq (W.block (W.seq ?_))))
    refine W.region ?_
    iterate 2 refine .o rfl ?_
    refine WL.nil ?_
    refine Kseq.go (W.seq ?_)
    refine W.region ?_
    iterate 3 refine .o rfl ?_
    refine .val (.indexAddrN rfl rfl (by assumption) (by omega)) rfl rfl rfl ?_; refine .val (.loadEA rfl (by assumption) (by repeat constructor) (by omega)) rfl rfl rfl ?_; refine .val (.callC rfl rfl (fun m hm => hp k (by omega) m (by repeat first | exact hm.1 | replace hm := hm.2))) rfl rfl rfl ?_; refine WL.nil ?_; refine Kseq.go ?_
    refine W.cond rfl rfl (fun he => ?_) (fun hne => ?_)
    · refine W.seq ?_
      refine W.region ?_
      iterate 2 refine .o rfl ?_
      refine WL.nil ?_; refine Kseq.go ?_
      refine W.ret ?_; refine Kblock.ret (Kseq.ret (Kloop.ret (Kblock.ret (Kseq.ret ?_)))); refine ⟨.inl rfl, [_], h, ⟨.tmp rfl, trivial⟩, (by repeat constructor), ?_⟩
      exact ⟨_, rfl, ⟨fun _ => ex_iff.2 ⟨k, by omega, he⟩, fun _ => by omega⟩⟩
    · refine W.skip (Kblock.normal (Kseq.go ?_))
      refine W.region ?_; refine .val (.incr rfl (by omega)) rfl rfl rfl ?_; refine .o rfl ?_; refine WL.nil ?_
      refine Kloop.nextC (k + 1) ⟨by omega, fun j hj => ?_⟩ (by omega) ⟨rfl, rfl, rfl, rfl, trivial⟩ (by simp) (.refl _)
      rcases Nat.lt_succ_iff_lt_or_eq.1 hj with h | rfl
      · exact hall j h
      · exact hne
  · refine W.exit (Kseq.exit (Kloop.exit (Kblock.here (Kseq.go (W.seq ?_)))))
    refine W.region ?_; refine .o rfl ?_; refine WL.nil ?_; refine Kseq.go ?_
    refine W.ret ?_; refine ⟨.inl rfl, [_], h, ⟨.tmp rfl, trivial⟩, (by repeat constructor), ?_⟩
    refine ⟨_, rfl, ⟨fun h => by omega, fun hm => ?_⟩⟩
    obtain ⟨j, hj, he⟩ := ex_iff.1 hm
    rw [hall j (by omega)] at he; cases he
/-- slices.ContainsFunc of posser/sick.Touch -/
theorem containsFunc6T_any {h : Mem} {v : Value} {N : Nat} {f : Nat → Nat → Value} {g : FuncId} [TC Try.prog g] {fs cs : Array Value} {p : Nat → Bool} (hv : IsArr h 4 v N f)
    (hp : ∀ i, i < N → ∀ m, MLe h m → FnV Try.prog g (fs ++ #[.agg ((List.range 4).map (f i)).toArray] ++ cs) m (.bool (p i))) : FnV Try.prog 61 #[v, .func (.func g) fs cs] h (.bool (ex N p)) := by
  refine FnR.val ?_
  refine FnR.of_W (n := 9) Try.func61 rfl rfl (Nat.le_of_ble_eq_true rfl) fun c hr hD hF => ?_
  refine W.seq ?_; refine W.region ?_; refine .o rfl ?_; refine WL.nil ?_
  refine Kseq.go (W.seq ?_)
  refine W.region ?_
  iterate 2 refine .o rfl ?_
  refine WL.abs (OpAbs.call rfl (fun m hm => indexFunc6T_any (hv.le (by repeat first | exact hm.1 | replace hm := hm.2)) (fun i hi m' hm' => hp i hi m' (MLe.trans (by repeat first | exact hm.1 | replace hm := hm.2) hm')))) rfl rfl rfl ?_
  rintro m7 _ ⟨i, rfl, hi⟩
  iterate 2 refine .o rfl ?_
  refine WL.nil ?_; refine Kseq.go ?_
  refine W.ret ?_; refine ⟨.inl rfl, [_], h, ⟨.tmp rfl, trivial⟩, (by repeat constructor), ?_⟩
  exact congrArg Value.bool (by rw [Bool.eq_iff_iff, ← hi]; simp)
/-- all of posser/sick.Touch, its inner function -/
theorem allIn6T_any {h : Mem} {b : Nat} {g : FuncId} [TC Try.prog g] {fs cs : Array Value} {x : Value} {r : Bool} (hb : IsBox h b #[.func (.func g) fs cs] 96) (hx : ∃ x0 x1 x2 x3 : Value, x = .agg #[x0, x1, x2, x3])
    (hp : ∀ m, MLe h m → FnV Try.prog g (fs ++ #[x] ++ cs) m (.bool r)) : FnV Try.prog 62 #[x, .pointer (some ⟨b, 0, none⟩)] h (.bool (!r)) := by
  refine FnR.val ?_
  obtain ⟨x0, x1, x2, x3, rfl⟩ := hx
  refine FnR.of_W (n := 8) Try.func62 rfl rfl (Nat.le_of_ble_eq_true rfl) fun c hr hD hF => ?_
  refine W.seq ?_; refine W.region ?_
  refine WL.box rfl rfl rfl rfl (fun b2 => ?_)
  refine .o rfl ?_; refine WL.nil ?_
  refine Kseq.go (W.seq ?_)
  refine W.region ?_; refine .val (.loadP rfl (by assumption) (by repeat constructor) rfl) rfl rfl rfl ?_; refine .val (.loadBW rfl (.head _) rfl) rfl rfl rfl ?_; refine .val (.callC rfl rfl (fun m hm => hp m (by repeat first | exact hm.1 | replace hm := hm.2))) rfl rfl rfl ?_
  iterate 2 refine .o rfl ?_
  refine WL.nil ?_; refine Kseq.go ?_
  refine W.ret ?_; refine ⟨.inl rfl, [_], h, ⟨.tmp rfl, trivial⟩, (by repeat constructor), ?_⟩
  rfl
/-- all of posser/sick.Touch -/
theorem all6T_any {h : Mem} {v : Value} {N : Nat} {f : Nat → Nat → Value} {g : FuncId} [TC Try.prog g] {fs cs : Array Value} {p : Nat → Bool} (hv : IsArr h 4 v N f)
    (hp : ∀ i, i < N → ∀ m, MLe h m → FnV Try.prog g (fs ++ #[.agg ((List.range 4).map (f i)).toArray] ++ cs) m (.bool (p i))) : FnV Try.prog 44 #[v, .func (.func g) fs cs] h (.bool (!ex N fun i => !p i)) := by
  refine FnR.val ?_
  refine FnR.of_W (n := 9) Try.func44 rfl rfl (Nat.le_of_ble_eq_true rfl) fun c hr hD hF => ?_
  refine W.seq ?_; refine W.region ?_
  refine WL.box rfl rfl rfl rfl (fun b3 => ?_)
  refine .o rfl ?_; refine WL.nil ?_
  refine Kseq.go (W.seq ?_)
  refine W.freezeBox (.head _) (fun b hb => (hF b hb).elim) fun mb hmb => ?_
  refine W.region ?_
  iterate 2 refine .o rfl ?_
  refine .val (.call rfl (fun m hm => containsFunc6T_any (p := fun i => !p i) (hv.le (by repeat first | exact hm.1 | replace hm := hm.2)) (fun i hi m' hm' => allIn6T_any (hmb.le (MLe.trans (by repeat first | exact hm.1 | replace hm := hm.2) hm')) ⟨_, _, _, _, rfl⟩ (fun m2 hm2 => hp i hi m2 (MLe.trans (MLe.trans (by repeat first | exact hm.1 | replace hm := hm.2) hm') hm2))))) rfl rfl rfl ?_
  iterate 2 refine .o rfl ?_
  refine WL.nil ?_; refine Kseq.go ?_
  refine W.ret ?_; refine ⟨.inl rfl, [_], h, ⟨.tmp rfl, trivial⟩, (by repeat constructor), ?_⟩
  rfl
/-- slices.IndexFunc of posser/sick.Boiling -/
theorem indexFunc6B_any {h : Mem} {v : Value} {N : Nat} {f : Nat → Nat → Value} {g : FuncId} [TC Try.prog g] {fs cs : Array Value} {p : Nat → Bool} (hv : IsArr h 2 v N f)
    (hp : ∀ i, i < N → ∀ m, MLe h m → FnV Try.prog g (fs ++ #[.agg ((List.range 2).map (f i)).toArray] ++ cs) m (.bool (p i))) : FnR Try.prog 81 #[v, .func (.func g) fs cs] h (fun _ r => ∃ i : Int, r = .int .i64 i ∧ (0 ≤ i ↔ ex N p = true)) := by
  have hlen := hv.len
  unfold maxLen at hlen
  refine FnR.of_W (n := 19) Try.func81 rfl rfl (Nat.le_of_ble_eq_true rfl) fun c hr hD hF => ?_
  refine W.seq ?_; refine W.region ?_; refine .o rfl ?_; refine WL.nil ?_
  refine Kseq.go (W.seq (W.seq ?_))
  refine W.region ?_; refine .o rfl ?_; refine .val (.len rfl (by assumption)) rfl rfl rfl ?_; refine .o rfl ?_; refine WL.nil ?_
  refine Kseq.go (W.block ?_)
  refine W.loopC (σ := Nat) (fun k => [(0, v), (1, .func (.func g) fs cs), (7, .int .i64 (N : Int)), (8, .int .i64 (k : Int))]) (fun k => k ≤ N ∧ ∀ j, j < k → p j = false) (fun k => N - k) 0 ⟨rfl, rfl, rfl, rfl, trivial⟩ ⟨Nat.zero_le _, fun j hj => absurd hj (Nat.not_lt_zero _)⟩ ?_
  rintro k ⟨hk, hall⟩
  refine W.seq ?_; refine W.region ?_; refine .o rfl ?_; refine WL.nil ?_
  refine Kseq.go (W.seq ?_)
  refine W.condD rfl rfl (fun hlt => ?_) (fun hge => ?_)
  · refine W.skip (Kseq.go (W.seq (W.block (W.seq ?_))))
    refine W.region ?_
    iterate 2 refine .o rfl ?_
    refine WL.nil ?_
    refine Kseq.go (W.seq ?_)
    refine W.region ?_
    iterate 3 refine .o rfl ?_
    refine .val (.indexAddrN rfl rfl (by assumption) (by omega)) rfl rfl rfl ?_; refine .val (.loadEA rfl (by assumption) (by repeat constructor) (by omega)) rfl rfl rfl ?_; refine .val (.callC rfl rfl (fun m hm => hp k (by omega) m (by repeat first | exact hm.1 | replace hm := hm.2))) rfl rfl rfl ?_; refine WL.nil ?_; refine Kseq.go ?_
    refine W.cond rfl rfl (fun he => ?_) (fun hne => ?_)
    · refine W.seq ?_
      refine W.region ?_
      iterate 2 refine .o rfl ?_
      refine WL.nil ?_; refine Kseq.go ?_
      refine W.ret ?_; refine Kblock.ret (Kseq.ret (Kloop.ret (Kblock.ret (Kseq.ret ?_)))); refine ⟨.inl rfl, [_], h, ⟨.tmp rfl, trivial⟩, (by repeat constructor), ?_⟩
      exact ⟨_, rfl, ⟨fun _ => ex_iff.2 ⟨k, by omega, he⟩, fun _ => by omega⟩⟩
    · refine W.skip (Kblock.normal (Kseq.go ?_))
      refine W.region ?_; refine .val (.incr rfl (by omega)) rfl rfl rfl ?_; refine .o rfl ?_; refine WL.nil ?_
      refine Kloop.nextC (k + 1) ⟨by omega, fun j hj => ?_⟩ (by omega) ⟨rfl, rfl, rfl, rfl, trivial⟩ (by simp) (.refl _)
      rcases Nat.lt_succ_iff_lt_or_eq.1 hj with h | rfl
      · exact hall j h
      · exact hne
  · refine W.exit (Kseq.exit (Kloop.exit (Kblock.here (Kseq.go (W.seq ?_)))))
    refine W.region ?_; refine .o rfl ?_; refine WL.nil ?_; refine Kseq.go ?_
    refine W.ret ?_; refine ⟨.inl rfl, [_], h, ⟨.tmp rfl, trivial⟩, (by repeat constructor), ?_⟩
    refine ⟨_, rfl, ⟨fun h => by omega, fun hm => ?_⟩⟩
    obtain ⟨j, hj, he⟩ := ex_iff.1 hm
    rw [hall j (by omega)] at he; cases he
/-- slices.ContainsFunc of posser/sick.Boiling -/
theorem containsFunc6B_any {h : Mem} {v : Value} {N : Nat} {f : Nat → Nat → Value} {g : FuncId} [TC Try.prog g] {fs cs : Array Value} {p : Nat → Bool} (hv : IsArr h 2 v N f)
    (hp : ∀ i, i < N → ∀ m, MLe h m → FnV Try.prog g (fs ++ #[.agg ((List.range 2).map (f i)).toArray] ++ cs) m (.bool (p i))) : FnV Try.prog 63 #[v, .func (.func g) fs cs] h (.bool (ex N p)) := by
  refine FnR.val ?_
  refine FnR.of_W (n := 9) Try.func63 rfl rfl (Nat.le_of_ble_eq_true rfl) fun c hr hD hF => ?_
  refine W.seq ?_; refine W.region ?_; refine .o rfl ?_; refine WL.nil ?_
  refine Kseq.go (W.seq ?_)
  refine W.region ?_
  iterate 2 refine .o rfl ?_
  refine WL.abs (OpAbs.call rfl (fun m hm => indexFunc6B_any (hv.le (by repeat first | exact hm.1 | replace hm := hm.2)) (fun i hi m' hm' => hp i hi m' (MLe.trans (by repeat first | exact hm.1 | replace hm := hm.2) hm')))) rfl rfl rfl ?_
  rintro m7 _ ⟨i, rfl, hi⟩
  iterate 2 refine .o rfl ?_
  refine WL.nil ?_; refine Kseq.go ?_
  refine W.ret ?_; refine ⟨.inl rfl, [_], h, ⟨.tmp rfl, trivial⟩, (by repeat constructor), ?_⟩
  exact congrArg Value.bool (by rw [Bool.eq_iff_iff, ← hi]; simp)
/-- all of posser/sick.Boiling, its inner function -/
theorem allIn6B_any {h : Mem} {b : Nat} {g : FuncId} [TC Try.prog g] {fs cs : Array Value} {x : Value} {r : Bool} (hb : IsBox h b #[.func (.func g) fs cs] 97) (hx : ∃ x0 x1 : Value, x = .agg #[x0, x1])
    (hp : ∀ m, MLe h m → FnV Try.prog g (fs ++ #[x] ++ cs) m (.bool r)) : FnV Try.prog 64 #[x, .pointer (some ⟨b, 0, none⟩)] h (.bool (!r)) := by
  refine FnR.val ?_
  obtain ⟨x0, x1, rfl⟩ := hx
  refine FnR.of_W (n := 8) Try.func64 rfl rfl (Nat.le_of_ble_eq_true rfl) fun c hr hD hF => ?_
  refine W.seq ?_; refine W.region ?_
  refine WL.box rfl rfl rfl rfl (fun b2 => ?_)
  refine .o rfl ?_; refine WL.nil ?_
  refine Kseq.go (W.seq ?_)
  refine W.region ?_; refine .val (.loadP rfl (by assumption) (by repeat constructor) rfl) rfl rfl rfl ?_; refine .val (.loadBW rfl (.head _) rfl) rfl rfl rfl ?_; refine .val (.callC rfl rfl (fun m hm => hp m (by repeat first | exact hm.1 | replace hm := hm.2))) rfl rfl rfl ?_
  iterate 2 refine .o rfl ?_
  refine WL.nil ?_; refine Kseq.go ?_
  refine W.ret ?_; refine ⟨.inl rfl, [_], h, ⟨.tmp rfl, trivial⟩, (by repeat constructor), ?_⟩
  rfl
/-- all of posser/sick.Boiling -/
theorem all6B_any {h : Mem} {v : Value} {N : Nat} {f : Nat → Nat → Value} {g : FuncId} [TC Try.prog g] {fs cs : Array Value} {p : Nat → Bool} (hv : IsArr h 2 v N f)
    (hp : ∀ i, i < N → ∀ m, MLe h m → FnV Try.prog g (fs ++ #[.agg ((List.range 2).map (f i)).toArray] ++ cs) m (.bool (p i))) : FnV Try.prog 45 #[v, .func (.func g) fs cs] h (.bool (!ex N fun i => !p i)) := by
  refine FnR.val ?_
  refine FnR.of_W (n := 9) Try.func45 rfl rfl (Nat.le_of_ble_eq_true rfl) fun c hr hD hF => ?_
  refine W.seq ?_; refine W.region ?_
  refine WL.box rfl rfl rfl rfl (fun b3 => ?_)
  refine .o rfl ?_; refine WL.nil ?_
  refine Kseq.go (W.seq ?_)
  refine W.freezeBox (.head _) (fun b hb => (hF b hb).elim) fun mb hmb => ?_
  refine W.region ?_
  iterate 2 refine .o rfl ?_
  refine .val (.call rfl (fun m hm => containsFunc6B_any (p := fun i => !p i) (hv.le (by repeat first | exact hm.1 | replace hm := hm.2)) (fun i hi m' hm' => allIn6B_any (hmb.le (MLe.trans (by repeat first | exact hm.1 | replace hm := hm.2) hm')) ⟨_, _, rfl⟩ (fun m2 hm2 => hp i hi m2 (MLe.trans (MLe.trans (by repeat first | exact hm.1 | replace hm := hm.2) hm') hm2))))) rfl rfl rfl ?_
  iterate 2 refine .o rfl ?_
  refine WL.nil ?_; refine Kseq.go ?_
  refine W.ret ?_; refine ⟨.inl rfl, [_], h, ⟨.tmp rfl, trivial⟩, (by repeat constructor), ?_⟩
  rfl
/-- slices.IndexFunc of posser/sick.Sign -/
theorem indexFunc6S_any {h : Mem} {v : Value} {N : Nat} {f : Nat → Nat → Value} {g : FuncId} [TC Try.prog g] {fs cs : Array Value} {p : Nat → Bool} (hv : IsArr h 2 v N f)
    (hp : ∀ i, i < N → ∀ m, MLe h m → FnV Try.prog g (fs ++ #[.agg ((List.range 2).map (f i)).toArray] ++ cs) m (.bool (p i))) : FnR Try.prog 82 #[v, .func (.func g) fs cs] h (fun _ r => ∃ i : Int, r = .int .i64 i ∧ (0 ≤ i ↔ ex N p = true)) := by
  have hlen := hv.len
  unfold maxLen at hlen
  refine FnR.of_W (n := 19) Try.func82 rfl rfl (Nat.le_of_ble_eq_true rfl) fun c hr hD hF => ?_
  refine W.seq ?_; refine W.region ?_; refine .o rfl ?_; refine WL.nil ?_
  refine Kseq.go (W.seq (W.seq ?_))
  refine W.region ?_; refine .o rfl ?_; refine .val (.len rfl (by assumption)) rfl rfl rfl ?_; refine .o rfl ?_; refine WL.nil ?_
  refine Kseq.go (W.block ?_)
  refine W.loopC (σ := Nat) (fun k => [(0, v), (1, .func (.func g) fs cs), (7, .int .i64 (N : Int)), (8, .int .i64 (k : Int))]) (fun k => k ≤ N ∧ ∀ j, j < k → p j = false) (fun k => N - k) 0 ⟨rfl, rfl, rfl, rfl, trivial⟩ ⟨Nat.zero_le _, fun j hj => absurd hj (Nat.not_lt_zero _)⟩ ?_
  rintro k ⟨hk, hall⟩
  refine W.seq ?_; refine W.region ?_; refine .o rfl ?_; refine WL.nil ?_
  refine Kseq.go (W.seq ?_)
  refine W.condD rfl rfl (fun hlt => ?_) (fun hge => ?_)
  · refine W.skip (Kseq.go (W.seq (W.block (W.seq ?_))))
    refine W.region ?_
    iterate 2 refine .o rfl ?_
    refine WL.nil ?_
    refine Kseq.go (W.seq ?_)
    refine W.region ?_
    iterate 3 refine .o rfl ?_
    refine .val (.indexAddrN rfl rfl (by assumption) (by omega)) rfl rfl rfl ?_; refine .val (.loadEA rfl (by assumption) (by repeat constructor) (by omega)) rfl rfl rfl ?_; refine .val (.callC rfl rfl (fun m hm => hp k (by omega) m (by repeat first | exact hm.1 | replace hm := hm.2))) rfl rfl rfl ?_; refine WL.nil ?_; refine Kseq.go ?_
    refine W.cond rfl rfl (fun he => ?_) (fun hne => ?_)
    · refine W.seq ?_
      refine W.region ?_
      iterate 2 refine .o rfl ?_
      refine WL.nil ?_; refine Kseq.go ?_
      refine W.ret ?_; refine Kblock.ret (Kseq.ret (Kloop.ret (Kblock.ret (Kseq.ret ?_)))); refine ⟨.inl rfl, [_], h, ⟨.tmp rfl, trivial⟩, (by repeat constructor), ?_⟩
      exact ⟨_, rfl, ⟨fun _ => ex_iff.2 ⟨k, by omega, he⟩, fun _ => by omega⟩⟩
    · refine W.skip (Kblock.normal (Kseq.go ?_))
      refine W.region ?_; refine .val (.incr rfl (by omega)) rfl rfl rfl ?_; refine .o rfl ?_; refine WL.nil ?_
      refine Kloop.nextC (k + 1) ⟨by omega, fun j hj => ?_⟩ (by omega) ⟨rfl, rfl, rfl, rfl, trivial⟩ (by simp) (.refl _)
      rcases Nat.lt_succ_iff_lt_or_eq.1 hj with h | rfl
      · exact hall j h
      · exact hne
  · refine W.exit (Kseq.exit (Kloop.exit (Kblock.here (Kseq.go (W.seq ?_)))))
    refine W.region ?_; refine .o rfl ?_; refine WL.nil ?_; refine Kseq.go ?_
    refine W.ret ?_; refine ⟨.inl rfl, [_], h, ⟨.tmp rfl, trivial⟩, (by repeat constructor), ?_⟩
    refine ⟨_, rfl, ⟨fun h => by omega, fun hm => ?_⟩⟩
    obtain ⟨j, hj, he⟩ := ex_iff.1 hm
    rw [hall j (by omega)] at he; cases he
/-- slices.ContainsFunc of posser/sick.Sign -/
theorem containsFunc6S_any {h : Mem} {v : Value} {N : Nat} {f : Nat → Nat → Value} {g : FuncId} [TC Try.prog g] {fs cs : Array Value} {p : Nat → Bool} (hv : IsArr h 2 v N f)
    (hp : ∀ i, i < N → ∀ m, MLe h m → FnV Try.prog g (fs ++ #[.agg ((List.range 2).map (f i)).toArray] ++ cs) m (.bool (p i))) : FnV Try.prog 65 #[v, .func (.func g) fs cs] h (.bool (ex N p)) := by
  refine FnR.val ?_
  refine FnR.of_W (n := 9) Try.func65 rfl rfl (Nat.le_of_ble_eq_true rfl) fun c hr hD hF => ?_
  refine W.seq ?_; refine W.region ?_; refine .o rfl ?_; refine WL.nil ?_
  refine Kseq.go (W.seq ?_)
  refine W.region ?_
  iterate 2 refine .o rfl ?_
  refine WL.abs (OpAbs.call rfl (fun m hm => indexFunc6S_any (hv.le (by repeat first | exact hm.1 | replace hm := hm.2)) (fun i hi m' hm' => hp i hi m' (MLe.trans (by repeat first | exact hm.1 | replace hm := hm.2) hm')))) rfl rfl rfl ?_
  rintro m7 _ ⟨i, rfl, hi⟩
  iterate 2 refine .o rfl ?_
  refine WL.nil ?_; refine Kseq.go ?_
  refine W.ret ?_; refine ⟨.inl rfl, [_], h, ⟨.tmp rfl, trivial⟩, (by repeat constructor), ?_⟩
  exact congrArg Value.bool (by rw [Bool.eq_iff_iff, ← hi]; simp)
/-- all of posser/sick.Sign, its inner function -/
theorem allIn6S_any {h : Mem} {b : Nat} {g : FuncId} [TC Try.prog g] {fs cs : Array Value} {x : Value} {r : Bool} (hb : IsBox h b #[.func (.func g) fs cs] 98) (hx : ∃ x0 x1 : Value, x = .agg #[x0, x1])
    (hp : ∀ m, MLe h m → FnV Try.prog g (fs ++ #[x] ++ cs) m (.bool r)) : FnV Try.prog 66 #[x, .pointer (some ⟨b, 0, none⟩)] h (.bool (!r)) := by
  refine FnR.val ?_
  obtain ⟨x0, x1, rfl⟩ := hx
  refine FnR.of_W (n := 8) Try.func66 rfl rfl (Nat.le_of_ble_eq_true rfl) fun c hr hD hF => ?_
  refine W.seq ?_; refine W.region ?_
  refine WL.box rfl rfl rfl rfl (fun b2 => ?_)
  refine .o rfl ?_; refine WL.nil ?_
  refine Kseq.go (W.seq ?_)
  refine W.region ?_; refine .val (.loadP rfl (by assumption) (by repeat constructor) rfl) rfl rfl rfl ?_; refine .val (.loadBW rfl (.head _) rfl) rfl rfl rfl ?_; refine .val (.callC rfl rfl (fun m hm => hp m (by repeat first | exact hm.1 | replace hm := hm.2))) rfl rfl rfl ?_
  iterate 2 refine .o rfl ?_
  refine WL.nil ?_; refine Kseq.go ?_
  refine W.ret ?_; refine ⟨.inl rfl, [_], h, ⟨.tmp rfl, trivial⟩, (by repeat constructor), ?_⟩
  rfl
/-- all of posser/sick.Sign -/
theorem all6S_any {h : Mem} {v : Value} {N : Nat} {f : Nat → Nat → Value} {g : FuncId} [TC Try.prog g] {fs cs : Array Value} {p : Nat → Bool} (hv : IsArr h 2 v N f)
    (hp : ∀ i, i < N → ∀ m, MLe h m → FnV Try.prog g (fs ++ #[.agg ((List.range 2).map (f i)).toArray] ++ cs) m (.bool (p i))) : FnV Try.prog 46 #[v, .func (.func g) fs cs] h (.bool (!ex N fun i => !p i)) := by
  refine FnR.val ?_
  refine FnR.of_W (n := 9) Try.func46 rfl rfl (Nat.le_of_ble_eq_true rfl) fun c hr hD hF => ?_
  refine W.seq ?_; refine W.region ?_
  refine WL.box rfl rfl rfl rfl (fun b3 => ?_)
  refine .o rfl ?_; refine WL.nil ?_
  refine Kseq.go (W.seq ?_)
  refine W.freezeBox (.head _) (fun b hb => (hF b hb).elim) fun mb hmb => ?_
  refine W.region ?_
  iterate 2 refine .o rfl ?_
  refine .val (.call rfl (fun m hm => containsFunc6S_any (p := fun i => !p i) (hv.le (by repeat first | exact hm.1 | replace hm := hm.2)) (fun i hi m' hm' => allIn6S_any (hmb.le (MLe.trans (by repeat first | exact hm.1 | replace hm := hm.2) hm')) ⟨_, _, rfl⟩ (fun m2 hm2 => hp i hi m2 (MLe.trans (MLe.trans (by repeat first | exact hm.1 | replace hm := hm.2) hm') hm2))))) rfl rfl rfl ?_
  iterate 2 refine .o rfl ?_
  refine WL.nil ?_; refine Kseq.go ?_
  refine W.ret ?_; refine ⟨.inl rfl, [_], h, ⟨.tmp rfl, trivial⟩, (by repeat constructor), ?_⟩
  rfl
/-- slices.IndexFunc of posser/sick.known -/
theorem indexFunc6K_any {h : Mem} {v : Value} {N : Nat} {f : Nat → Nat → Value} {g : FuncId} [TC Try.prog g] {fs cs : Array Value} {p : Nat → Bool} (hv : IsArr h 23 v N f)
    (hp : ∀ i, i < N → ∀ m, MLe h m → FnV Try.prog g (fs ++ #[.agg ((List.range 23).map (f i)).toArray] ++ cs) m (.bool (p i))) : FnR Try.prog 92 #[v, .func (.func g) fs cs] h (fun _ r => ∃ i : Int, r = .int .i64 i ∧ (0 ≤ i ↔ ex N p = true)) := by
  have hlen := hv.len
  unfold maxLen at hlen
  refine FnR.of_W (n := 19) Try.func92 rfl rfl (Nat.le_of_ble_eq_true rfl) fun c hr hD hF => ?_
  refine W.seq ?_; refine W.region ?_; refine .o rfl ?_; refine WL.nil ?_
  refine Kseq.go (W.seq (W.seq ?_))
  refine W.region ?_; refine .o rfl ?_; refine .val (.len rfl (by assumption)) rfl rfl rfl ?_; refine .o rfl ?_; refine WL.nil ?_
  refine Kseq.go (W.block ?_)
  refine W.loopC (σ := Nat) (fun k => [(0, v), (1, .func (.func g) fs cs), (7, .int .i64 (N : Int)), (8, .int .i64 (k : Int))]) (fun k => k ≤ N ∧ ∀ j, j < k → p j = false) (fun k => N - k) 0 ⟨rfl, rfl, rfl, rfl, trivial⟩ ⟨Nat.zero_le _, fun j hj => absurd hj (Nat.not_lt_zero _)⟩ ?_
  rintro k ⟨hk, hall⟩
  refine W.seq ?_; refine W.region ?_; refine .o rfl ?_; refine WL.nil ?_
  refine Kseq.go (W.seq ?_)
  refine W.condD rfl rfl (fun hlt => ?_) (fun hge => ?_)
  · refine W.skip (Kseq.go (W.seq (W.block (W.seq ?_))))
    refine W.region ?_
    iterate 2 refine .o rfl ?_
    refine WL.nil ?_
    refine Kseq.go (W.seq ?_)
    refine W.region ?_
    iterate 3 refine .o rfl ?_
    refine .val (.indexAddrN rfl rfl (by assumption) (by omega)) rfl rfl rfl ?_; refine .val (.loadEA rfl (by assumption) (by repeat constructor) (by omega)) rfl rfl rfl ?_; refine .val (.callC rfl rfl (fun m hm => hp k (by omega) m (by repeat first | exact hm.1 | replace hm := hm.2))) rfl rfl rfl ?_; refine WL.nil ?_; refine Kseq.go ?_
    refine W.cond rfl rfl (fun he => ?_) (fun hne => ?_)
    · refine W.seq ?_
      refine W.region ?_
      iterate 2 refine .o rfl ?_
      refine WL.nil ?_; refine Kseq.go ?_
      refine W.ret ?_; refine Kblock.ret (Kseq.ret (Kloop.ret (Kblock.ret (Kseq.ret ?_)))); refine ⟨.inl rfl, [_], h, ⟨.tmp rfl, trivial⟩, (by repeat constructor), ?_⟩
      exact ⟨_, rfl, ⟨fun _ => ex_iff.2 ⟨k, by omega, he⟩, fun _ => by omega⟩⟩
    · refine W.skip (Kblock.normal (Kseq.go ?_))
      refine W.region ?_; refine .val (.incr rfl (by omega)) rfl rfl rfl ?_; refine .o rfl ?_; refine WL.nil ?_
      refine Kloop.nextC (k + 1) ⟨by omega, fun j hj => ?_⟩ (by omega) ⟨rfl, rfl, rfl, rfl, trivial⟩ (by simp) (.refl _)
      rcases Nat.lt_succ_iff_lt_or_eq.1 hj with h | rfl
      · exact hall j h
      · exact hne
  · refine W.exit (Kseq.exit (Kloop.exit (Kblock.here (Kseq.go (W.seq ?_)))))
    refine W.region ?_; refine .o rfl ?_; refine WL.nil ?_; refine Kseq.go ?_
    refine W.ret ?_; refine ⟨.inl rfl, [_], h, ⟨.tmp rfl, trivial⟩, (by repeat constructor), ?_⟩
    refine ⟨_, rfl, ⟨fun h => by omega, fun hm => ?_⟩⟩
    obtain ⟨j, hj, he⟩ := ex_iff.1 hm
    rw [hall j (by omega)] at he; cases he
/-- slices.ContainsFunc of posser/sick.known -/
theorem containsFunc6K_any {h : Mem} {v : Value} {N : Nat} {f : Nat → Nat → Value} {g : FuncId} [TC Try.prog g] {fs cs : Array Value} {p : Nat → Bool} (hv : IsArr h 23 v N f)
    (hp : ∀ i, i < N → ∀ m, MLe h m → FnV Try.prog g (fs ++ #[.agg ((List.range 23).map (f i)).toArray] ++ cs) m (.bool (p i))) : FnV Try.prog 74 #[v, .func (.func g) fs cs] h (.bool (ex N p)) := by
  refine FnR.val ?_
  refine FnR.of_W (n := 9) Try.func74 rfl rfl (Nat.le_of_ble_eq_true rfl) fun c hr hD hF => ?_
  refine W.seq ?_; refine W.region ?_; refine .o rfl ?_; refine WL.nil ?_
  refine Kseq.go (W.seq ?_)
  refine W.region ?_
  iterate 2 refine .o rfl ?_
  refine WL.abs (OpAbs.call rfl (fun m hm => indexFunc6K_any (hv.le (by repeat first | exact hm.1 | replace hm := hm.2)) (fun i hi m' hm' => hp i hi m' (MLe.trans (by repeat first | exact hm.1 | replace hm := hm.2) hm')))) rfl rfl rfl ?_
  rintro m7 _ ⟨i, rfl, hi⟩
  iterate 2 refine .o rfl ?_
  refine WL.nil ?_; refine Kseq.go ?_
  refine W.ret ?_; refine ⟨.inl rfl, [_], h, ⟨.tmp rfl, trivial⟩, (by repeat constructor), ?_⟩
  exact congrArg Value.bool (by rw [Bool.eq_iff_iff, ← hi]; simp)
/-- all of posser/sick.known, its inner function -/
theorem allIn6K_any {h : Mem} {b : Nat} {g : FuncId} [TC Try.prog g] {fs cs : Array Value} {x : Value} {r : Bool} (hb : IsBox h b #[.func (.func g) fs cs] 116) (hx : ∃ x0 x1 x2 x3 x4 x5 x6 x7 x8 x9 x10 x11 x12 x13 x14 x15 x16 x17 x18 x19 x20 x21 x22 : Value, x = .agg #[x0, x1, x2, x3, x4, x5, x6, x7, x8, x9, x10, x11, x12, x13, x14, x15, x16, x17, x18, x19, x20, x21, x22])
    (hp : ∀ m, MLe h m → FnV Try.prog g (fs ++ #[x] ++ cs) m (.bool r)) : FnV Try.prog 75 #[x, .pointer (some ⟨b, 0, none⟩)] h (.bool (!r)) := by
  refine FnR.val ?_
  obtain ⟨x0, x1, x2, x3, x4, x5, x6, x7, x8, x9, x10, x11, x12, x13, x14, x15, x16, x17, x18, x19, x20, x21, x22, rfl⟩ := hx
  refine FnR.of_W (n := 8) Try.func75 rfl rfl (Nat.le_of_ble_eq_true rfl) fun c hr hD hF => ?_
  refine W.seq ?_; refine W.region ?_
  refine WL.box rfl rfl rfl rfl (fun b2 => ?_)
  refine .o rfl ?_; refine WL.nil ?_
  refine Kseq.go (W.seq ?_)
  refine W.region ?_; refine .val (.loadP rfl (by assumption) (by repeat constructor) rfl) rfl rfl rfl ?_; refine .val (.loadBW rfl (.head _) rfl) rfl rfl rfl ?_; refine .val (.callC rfl rfl (fun m hm => hp m (by repeat first | exact hm.1 | replace hm := hm.2))) rfl rfl rfl ?_
  iterate 2 refine .o rfl ?_
  refine WL.nil ?_; refine Kseq.go ?_
  refine W.ret ?_; refine ⟨.inl rfl, [_], h, ⟨.tmp rfl, trivial⟩, (by repeat constructor), ?_⟩
  rfl
/-- all of posser/sick.known -/
theorem all6K_any {h : Mem} {v : Value} {N : Nat} {f : Nat → Nat → Value} {g : FuncId} [TC Try.prog g] {fs cs : Array Value} {p : Nat → Bool} (hv : IsArr h 23 v N f)
    (hp : ∀ i, i < N → ∀ m, MLe h m → FnV Try.prog g (fs ++ #[.agg ((List.range 23).map (f i)).toArray] ++ cs) m (.bool (p i))) : FnV Try.prog 54 #[v, .func (.func g) fs cs] h (.bool (!ex N fun i => !p i)) := by
  refine FnR.val ?_
  refine FnR.of_W (n := 9) Try.func54 rfl rfl (Nat.le_of_ble_eq_true rfl) fun c hr hD hF => ?_
  refine W.seq ?_; refine W.region ?_
  refine WL.box rfl rfl rfl rfl (fun b3 => ?_)
  refine .o rfl ?_; refine WL.nil ?_
  refine Kseq.go (W.seq ?_)
  refine W.freezeBox (.head _) (fun b hb => (hF b hb).elim) fun mb hmb => ?_
  refine W.region ?_
  iterate 2 refine .o rfl ?_
  refine .val (.call rfl (fun m hm => containsFunc6K_any (p := fun i => !p i) (hv.le (by repeat first | exact hm.1 | replace hm := hm.2)) (fun i hi m' hm' => allIn6K_any (hmb.le (MLe.trans (by repeat first | exact hm.1 | replace hm := hm.2) hm')) ⟨_, _, _, _, _, _, _, _, _, _, _, _, _, _, _, _, _, _, _, _, _, _, _, rfl⟩ (fun m2 hm2 => hp i hi m2 (MLe.trans (MLe.trans (by repeat first | exact hm.1 | replace hm := hm.2) hm') hm2))))) rfl rfl rfl ?_
  iterate 2 refine .o rfl ?_
  refine WL.nil ?_; refine Kseq.go ?_
  refine W.ret ?_; refine ⟨.inl rfl, [_], h, ⟨.tmp rfl, trivial⟩, (by repeat constructor), ?_⟩
  rfl
end Go.Proofs.Ytdnbkjgbehakpaa

/- The program's functions of chapter 6: things, hours, checks. -/
namespace Go.Proofs.Ytdnbkjgbehakpaa
open Go Go.Eng Go.RowKit

section
variable {P : Program} {n : Nat} {c : Cx P n} {l : List (Nat × Value)} {Ms : List Mem} {μ : List Res} {dst : Option Tmp} {x y : Operand} {t t' ty : TypeId} {pos : String} {af : Array Edge} {gd : Option (Nat × Bool)}
/-- Sums and differences, whatever they are. -/
theorem OpVal.addW6 {a b : Int} (hx : lk l x = some (.int .i64 a)) (hy : lk l y = some (.int .i64 b)) : OpVal c ⟨dst, .binOp .add t x y t', ty, pos, af, gd⟩ l Ms μ (.int .i64 (IntKind.i64.wrap (a + b))) :=
  OpVal.of_runs (by simp) (by simp) fun a w hh => by simp [execOp, hh.lk hx, hh.lk hy, eqGuard, binOp, Op.intArith]
theorem OpVal.subW6 {a b : Int} (hx : lk l x = some (.int .i64 a)) (hy : lk l y = some (.int .i64 b)) : OpVal c ⟨dst, .binOp .sub t x y t', ty, pos, af, gd⟩ l Ms μ (.int .i64 (IntKind.i64.wrap (a - b))) :=
  OpVal.of_runs (by simp) (by simp) fun a w hh => by simp [execOp, hh.lk hx, hh.lk hy, eqGuard, binOp, Op.intArith]
end
abbrev wr (x : Int) : Int := IntKind.i64.wrap x
/-- within -/
theorem within6_any {h : Mem} (n low high : Int) : FnV Try.prog 50 #[.int .i64 n, .int .i64 low, .int .i64 high] h (.bool (decide (low ≤ n ∧ n ≤ high))) := by
  refine FnR.val ?_
  refine FnR.of_W (n := 15) Try.func50 rfl rfl (Nat.le_of_ble_eq_true rfl) fun c hr hD hF => ?_
  refine W.seq ?_; refine W.region ?_; refine .o rfl ?_; refine WL.nil ?_
  refine Kseq.go (W.seq ?_)
  refine W.region ?_
  iterate 4 refine .o rfl ?_
  refine WL.split rfl rfl (fun g10 => ?_) (fun g10 => ?_)
  · refine .o rfl ?_
    iterate 4 refine .o rfl ?_
    refine WL.nil ?_; refine Kseq.go ?_
    (refine W.ret ?_; refine ⟨.inl rfl, [_], h, ⟨.tmp rfl, trivial⟩, (by repeat constructor), ?_⟩; exact congrArg Value.bool (by first | (simp [-List.getD_eq_getElem?_getD]; done) | (simp_all [-List.getD_eq_getElem?_getD]; done) | (simp [-List.getD_eq_getElem?_getD]; omega) | (rw [Bool.eq_iff_iff]; simp [-List.getD_eq_getElem?_getD]; omega) | (simp [-List.getD_eq_getElem?_getD] at *; omega)))
  · refine WL.pass rfl rfl rfl ?_
    refine WL.pass rfl rfl rfl ?_; refine WL.pass rfl rfl rfl ?_
    iterate 2 refine .o rfl ?_
    refine WL.nil ?_; refine Kseq.go ?_
    (refine W.ret ?_; refine ⟨.inl rfl, [_], h, ⟨.tmp rfl, trivial⟩, (by repeat constructor), ?_⟩; exact congrArg Value.bool (by first | (simp [-List.getD_eq_getElem?_getD]; done) | (simp_all [-List.getD_eq_getElem?_getD]; done) | (simp [-List.getD_eq_getElem?_getD]; omega) | (rw [Bool.eq_iff_iff]; simp [-List.getD_eq_getElem?_getD]; omega) | (simp [-List.getD_eq_getElem?_getD] at *; omega)))
/-- minimum, of two -/
theorem minimum6_any {h : Mem} {v : Value} {x y : Int} (hv : IsInts h v [x, y]) : FnV Try.prog 56 #[v] h (vi (min x y)) := by
  refine FnR.val ?_
  refine FnR.of_W (n := 5) Try.func56 rfl rfl (Nat.le_of_ble_eq_true rfl) fun c hr hD hF => ?_
  refine W.seq ?_; refine W.region ?_; refine .o rfl ?_; refine WL.nil ?_
  refine Kseq.go (W.seq ?_)
  refine W.region ?_; refine .o rfl ?_; refine .val (.call rfl (fun m hm => min_any (hv.le (by repeat first | exact hm.1 | replace hm := hm.2)) (by simp))) rfl rfl rfl ?_; refine .o rfl ?_; refine WL.nil ?_; refine Kseq.go ?_
  refine W.ret ?_; refine ⟨.inl rfl, [_], h, ⟨.tmp rfl, trivial⟩, (by repeat constructor), ?_⟩
  show vi (minTo [x, y] 1) = _
  simp [minTo]
/-- Is a list increasing, as the program looks? -/
def risOk (l : List Int) (lim : Int) (i : Nat) : Bool := decide (wr ((if i = 0 then -1 else l.getD (i - 1) 0) + 1) ≤ l.getD i 0 ∧ l.getD i 0 ≤ lim)
def risW (l : List Int) (lim : Int) : Bool := !ex l.length fun i => !risOk l lim i
theorem risW_eq {l : List Int} {limit : Int} (h0 : 0 ≤ limit) (h1 : limit < 1000000) : risW l (limit - 1) = risingB l limit := by
  unfold risW risingB
  congr 1
  rw [Bool.eq_iff_iff]
  have key : (∀ i, i < l.length → risOk l (limit - 1) i = true) ↔ ∀ i, i < l.length → risingBad l limit i = false := by
    constructor
    · intro h i
      have hge : ∀ j, j < l.length → 0 ≤ l.getD j 0 ∧ l.getD j 0 ≤ limit - 1 := fun j => by
        induction j with
        | zero =>
          intro hj
          have := of_decide_eq_true (h 0 hj)
          rw [if_pos rfl, show wr ((-1 : Int) + 1) = 0 from rfl] at this
          exact this
        | succ j ih =>
          intro hj
          have h2 := ih (by omega)
          have := of_decide_eq_true (h (j + 1) hj)
          rw [if_neg (Nat.succ_ne_zero j), show j + 1 - 1 = j by omega, show wr (l.getD j 0 + 1) = l.getD j 0 + 1 from i64_in (by omega) (by omega)] at this
          omega
      intro hi
      have h2 := hge i hi
      unfold risingBad
      rw [decide_eq_true h2]
      simp only [Bool.not_true, Bool.false_or, Bool.and_eq_false_iff, decide_eq_false_iff_not]
      by_cases h3 : 0 < i
      · right
        have h4 := hge (i - 1) (by omega)
        have := of_decide_eq_true (h i hi)
        rw [if_neg (by omega), show wr (l.getD (i - 1) 0 + 1) = l.getD (i - 1) 0 + 1 from i64_in (by omega) (by omega)] at this
        omega
      · exact .inl h3
    · intro h i hi
      have h2 := h i hi
      unfold risingBad at h2
      simp only [Bool.or_eq_false_iff, Bool.not_eq_false', decide_eq_true_eq, Bool.and_eq_false_iff, decide_eq_false_iff_not] at h2
      refine decide_eq_true ?_
      by_cases h3 : i = 0
      · rw [if_pos h3, show wr ((-1 : Int) + 1) = 0 from rfl]; exact h2.1
      · have h4 := h (i - 1) (by omega)
        unfold risingBad at h4
        simp only [Bool.or_eq_false_iff, Bool.not_eq_false', decide_eq_true_eq] at h4
        rw [if_neg h3, show wr (l.getD (i - 1) 0 + 1) = l.getD (i - 1) 0 + 1 from i64_in (by omega) (by omega)]
        omega
  constructor
  · intro h
    refine Classical.byContradiction fun hn => ?_
    have h2 := key.2 (ex_no.1 (by simpa using hn))
    obtain ⟨i, hi, e⟩ := ex_iff.1 h
    rw [h2 i hi] at e; cases e
  · intro h
    refine Classical.byContradiction fun hn => ?_
    have h2 : ∀ i, i < l.length → risOk l (limit - 1) i = true := fun i hi => by
      have := ex_no.1 (show ex l.length (fun i => !risOk l (limit - 1) i) = false by simpa using hn) i hi
      simpa using this
    obtain ⟨i, hi, e⟩ := ex_iff.1 h
    rw [key.1 h2 i hi] at e; cases e
/-- rising -/
theorem rising_any {h : Mem} {lv : Value} {l : List Int} (limit : Int) (hl : IsInts h lv l) : FnV Try.prog 37 #[lv, vi limit] h (.bool (risW l (wr (limit - 1)))) := by
  have hlb := hl.bd
  refine FnR.val ?_
  refine FnR.of_W (n := 23) Try.func37 rfl rfl (Nat.le_of_ble_eq_true rfl) fun c hr hD hF => ?_
  refine W.seq ?_; refine W.region ?_; refine .o rfl ?_; refine WL.nil ?_
  refine Kseq.go (W.seq ?_)
  refine W.region ?_; refine .o rfl ?_; refine WL.nil ?_
  refine Kseq.go (W.seq (W.seq ?_))
  refine W.region ?_; refine .o rfl ?_; refine .val (.len rfl hl) rfl rfl rfl ?_; refine .o rfl ?_; refine WL.nil ?_
  refine Kseq.go (W.block ?_)
  refine W.loopC (σ := Nat) (fun k => [(1, vi limit), (5, vi (if k = 0 then -1 else l.getD (k - 1) 0)), (8, lv), (9, .int .i64 (l.length : Int)), (10, .int .i64 (k : Int))]) (fun k => k ≤ l.length ∧ ∀ i, i < k → risOk l (wr (limit - 1)) i = true) (fun k => l.length - k) 0 ⟨rfl, rfl, rfl, rfl, rfl, trivial⟩ ⟨Nat.zero_le _, fun i hi => absurd hi (Nat.not_lt_zero _)⟩ ?_
  rintro k ⟨hk, hall⟩
  refine W.seq ?_; refine W.region ?_; refine .o rfl ?_; refine WL.nil ?_
  refine Kseq.go (W.seq ?_)
  refine W.condD rfl rfl (fun hlt => ?_) (fun hge => ?_)
  · have hkl : k < l.length := by omega
    refine W.skip (Kseq.go (W.seq (W.block (W.seq ?_))))
    refine W.region ?_; refine .val (.indexAddrN rfl rfl hl hkl) rfl rfl rfl ?_; refine .val (.loadE rfl hl (by repeat constructor) hkl (by omega)) rfl rfl rfl ?_; refine .o rfl ?_; refine WL.nil ?_
    refine Kseq.go (W.seq (W.seq ?_))
    refine W.region ?_
    iterate 2 refine .o rfl ?_
    refine .val (OpVal.addW6 rfl rfl) rfl rfl rfl ?_; refine .o rfl ?_; refine .val (OpVal.subW6 rfl rfl) rfl rfl rfl ?_; refine .val (.call rfl (fun m hm => within6_any _ _ _)) rfl rfl rfl ?_; refine .o rfl ?_; refine WL.nil ?_; refine Kseq.go ?_
    refine W.cond rfl rfl (fun hb => ?_) (fun hb => ?_)
    · refine W.seq ?_
      refine W.region ?_; refine .o rfl ?_; refine WL.nil ?_; refine Kseq.go ?_
      refine W.ret ?_; refine Kseq.ret (Kblock.ret (Kseq.ret (Kloop.ret (Kblock.ret (Kseq.ret ?_))))); refine ⟨.inl rfl, [_], h, ⟨.tmp rfl, trivial⟩, (by repeat constructor), ?_⟩
      refine congrArg Value.bool ?_
      unfold risW
      rw [ex_iff.2 ⟨k, hkl, hb⟩]; rfl
    · refine W.skip (Kseq.go ?_)
      refine W.region ?_
      iterate 2 refine .o rfl ?_
      refine WL.nil ?_
      refine Kblock.normal (Kseq.go ?_)
      refine W.region ?_; refine .val (.incr rfl (by omega)) rfl rfl rfl ?_; refine .o rfl ?_; refine WL.nil ?_
      refine Kloop.nextC (k + 1) ⟨by omega, fun i hi => ?_⟩ (by omega) ⟨rfl, ?_, rfl, rfl, rfl, trivial⟩ (by simp) (by repeat first | exact .refl _ | refine .cons _ ?_)
      · rcases Nat.lt_succ_iff_lt_or_eq.1 hi with h2 | rfl
        · exact hall i h2
        · have hb' : (!risOk l (wr (limit - 1)) i) = false := hb
          simpa using hb'
      · rw [if_neg (Nat.succ_ne_zero k), show k + 1 - 1 = k by omega]; rfl
  · have : k = l.length := by omega
    subst this
    refine W.exit (Kseq.exit (Kloop.exit (Kblock.here (Kseq.go (W.seq ?_)))))
    refine W.region ?_; refine .o rfl ?_; refine WL.nil ?_; refine Kseq.go ?_
    refine W.ret ?_; refine ⟨.inl rfl, [_], h, ⟨.tmp rfl, trivial⟩, (by repeat constructor), ?_⟩
    refine congrArg Value.bool ?_
    unfold risW
    rw [ex_no.2 fun i hi => by rw [hall i hi]; rfl]; rfl
/-- pieces -/
theorem pieces6_any {h : Mem} {v : Value} {r : House} (hv : IsHouse h v r) : FnV Try.prog 51 #[v] h (vi (r.np : Int)) := by
  obtain ⟨wv, pv, kv, tv, bv, sv, f, rfl, hA⟩ := hv
  have hP := hA.P
  refine FnR.val ?_
  refine FnR.of_W (n := 7) Try.func51 rfl rfl (Nat.le_of_ble_eq_true rfl) fun c hr hD hF => ?_
  refine W.seq ?_; refine W.region ?_
  refine WL.box rfl rfl rfl rfl (fun b1 => ?_)
  refine .o rfl ?_; refine WL.nil ?_
  refine Kseq.go (W.seq ?_)
  refine W.region ?_; refine .val (.fieldAddrB rfl) rfl rfl rfl ?_; refine .val (.fieldAddrB rfl) rfl rfl rfl ?_; refine .val (.loadB rfl (.head _) rfl) rfl rfl rfl ?_; refine .val (.len rfl hP) rfl rfl rfl ?_; refine .o rfl ?_; refine WL.nil ?_; refine Kseq.go ?_
  refine W.ret ?_; refine ⟨.inl rfl, [_], h, ⟨.tmp rfl, trivial⟩, (by repeat constructor), ?_⟩
  rfl
def House.thingsW (r : House) : Int := wr (r.np + r.others)
/-- things -/
theorem things6_any {h : Mem} {v : Value} {r : House} (hv : IsHouse h v r) : FnV Try.prog 27 #[v] h (vi r.thingsW) := by
  have hv' := hv
  obtain ⟨wv, pv, kv, tv, bv, sv, f, rfl, hA⟩ := hv
  refine FnR.val ?_
  refine FnR.of_W (n := 8) Try.func27 rfl rfl (Nat.le_of_ble_eq_true rfl) fun c hr hD hF => ?_
  refine W.seq ?_; refine W.region ?_
  refine WL.box rfl rfl rfl rfl (fun b1 => ?_)
  refine .o rfl ?_; refine WL.nil ?_
  refine Kseq.go (W.seq ?_)
  refine W.draw 4 (by kernel_rfl) (by kernel_rfl) (by kernel_rfl) rfl ?_; refine .val [] (.loadBW rfl (.head _) rfl) rfl rfl rfl rfl ?_; refine .val [] (.call rfl (fun m hm => pieces6_any (hv'.le (by repeat first | exact hm.1 | replace hm := hm.2)))) rfl rfl rfl rfl ?_; refine .val [] (.fieldAddrB rfl) rfl rfl rfl rfl ?_; refine .val [] (.loadB rfl (.head _) rfl) rfl rfl rfl rfl ?_; refine DJ.nil ?_; refine .val (OpVal.addW6 rfl rfl) rfl rfl rfl ?_; refine .o rfl ?_; refine WL.nil ?_; refine Kseq.go ?_
  refine W.ret ?_; refine ⟨.inl rfl, [_], h, ⟨.tmp rfl, trivial⟩, (by repeat constructor), ?_⟩
  rfl
/-- No more things than there are numbers. -/
def FitH (r : House) : Prop := 0 ≤ r.things ∧ r.things ≤ 100
theorem FitH.eq {r : House} (h : FitH r) : r.thingsW = r.things := i64_in (by have := h.1; unfold House.things at this; omega) (by have := h.2; unfold House.things at this; omega)
def thingW (r : House) (n : Int) : Bool := decide (0 ≤ n ∧ n ≤ wr (r.thingsW - 1))
theorem thingW_eq {r : House} (h : FitH r) (n : Int) : thingW r n = isThing r n := by
  unfold thingW isThing
  rw [h.eq, show wr (r.things - 1) = r.things - 1 from i64_in (by have := h.1; omega) (by have := h.2; omega)]
/-- thing -/
theorem thing6_any {h : Mem} {v : Value} {r : House} (n : Int) (hv : IsHouse h v r) : FnV Try.prog 39 #[v, vi n] h (.bool (thingW r n)) := by
  have hv' := hv
  obtain ⟨wv, pv, kv, tv, bv, sv, f, rfl, hA⟩ := hv
  refine FnR.val ?_
  refine FnR.of_W (n := 10) Try.func39 rfl rfl (Nat.le_of_ble_eq_true rfl) fun c hr hD hF => ?_
  refine W.seq ?_; refine W.region ?_
  refine WL.box rfl rfl rfl rfl (fun b2 => ?_)
  refine .o rfl ?_; refine WL.nil ?_
  refine Kseq.go (W.seq ?_)
  refine W.region ?_; refine .o rfl ?_; refine .val (.loadBW rfl (.head _) rfl) rfl rfl rfl ?_; refine .val (.call rfl (fun m hm => things6_any (hv'.le (by repeat first | exact hm.1 | replace hm := hm.2)))) rfl rfl rfl ?_; refine .val (OpVal.subW6 rfl rfl) rfl rfl rfl ?_; refine .val (.call rfl (fun m hm => within6_any _ _ _)) rfl rfl rfl ?_; refine .o rfl ?_; refine WL.nil ?_; refine Kseq.go ?_
  refine W.ret ?_; refine ⟨.inl rfl, [_], h, ⟨.tmp rfl, trivial⟩, (by repeat constructor), ?_⟩
  rfl
/-- hour -/
theorem hour6_any {h : Mem} {v : Value} {r : House} (n : Int) (hv : IsHouse h v r) : FnV Try.prog 23 #[v, vi n] h (.bool (isHour r n)) := by
  have hv' := hv
  obtain ⟨wv, pv, kv, tv, bv, sv, f, rfl, hA⟩ := hv
  refine FnR.val ?_
  refine FnR.of_W (n := 9) Try.func23 rfl rfl (Nat.le_of_ble_eq_true rfl) fun c hr hD hF => ?_
  refine W.seq ?_; refine W.region ?_
  refine WL.box rfl rfl rfl rfl (fun b2 => ?_)
  refine .o rfl ?_; refine WL.nil ?_
  refine Kseq.go (W.seq ?_)
  refine W.region ?_; refine .o rfl ?_; refine .val (.fieldAddrB rfl) rfl rfl rfl ?_; refine .val (.loadB rfl (.head _) rfl) rfl rfl rfl ?_; refine .val (.call rfl (fun m hm => within6_any _ _ _)) rfl rfl rfl ?_; refine .o rfl ?_; refine WL.nil ?_; refine Kseq.go ?_
  refine W.ret ?_; refine ⟨.inl rfl, [_], h, ⟨.tmp rfl, trivial⟩, (by repeat constructor), ?_⟩
  rfl
/-- touch: whether one is valid -/
theorem touch6_any {h : Mem} {v : Value} {r : House} (t : Touch) (hv : IsHouse h v r) (hf : FitH r) : FnV Try.prog 41 #[v, .agg #[vi t.a, vi t.b, vi t.lo, vi t.hi]] h (.bool (touchOk r t)) := by
  have hv' := hv
  obtain ⟨wv, pv, kv, tv, bv, sv, f, rfl, hA⟩ := hv
  refine FnR.val ?_
  refine FnR.of_W (n := 45) Try.func41 rfl rfl (Nat.le_of_ble_eq_true rfl) fun c hr hD hF => ?_
  refine W.seq ?_; refine W.region ?_
  refine WL.box rfl rfl rfl rfl (fun b2 => ?_)
  refine WL.box rfl rfl rfl rfl (fun b3 => ?_)
  refine .o rfl ?_; refine WL.nil ?_
  refine Kseq.go (W.seq ?_)
  refine W.region ?_; refine .val (.loadBW rfl (.tail _ (.head _)) rfl) rfl rfl rfl ?_; refine .val (.fieldAddrB rfl) rfl rfl rfl ?_; refine .val (.loadB rfl (.head _) rfl) rfl rfl rfl ?_; refine .val (.cast (.call rfl (fun m hm => thing6_any _ (hv'.le (by repeat first | exact hm.1 | replace hm := hm.2)))) (congrArg Value.bool (thingW_eq hf _))) rfl rfl rfl ?_; refine .o rfl ?_
  refine WL.split rfl rfl (fun g9 => ?_) (fun g9 => ?_)
  · refine .val (.loadBW rfl (.tail _ (.head _)) rfl) rfl rfl rfl ?_
    refine .val (.fieldAddrB rfl) rfl rfl rfl ?_; refine .val (.loadB rfl (.head _) rfl) rfl rfl rfl ?_; refine .val (.cast (.call rfl (fun m hm => thing6_any _ (hv'.le (by repeat first | exact hm.1 | replace hm := hm.2)))) (congrArg Value.bool (thingW_eq hf _))) rfl rfl rfl ?_
    iterate 2 refine .o rfl ?_
    refine WL.split rfl rfl (fun g15 => ?_) (fun g15 => ?_)
    · refine .val (.fieldAddrB rfl) rfl rfl rfl ?_
      refine .val (.loadB rfl (.head _) rfl) rfl rfl rfl ?_; refine .val (.fieldAddrB rfl) rfl rfl rfl ?_; refine .val (.loadB rfl (.head _) rfl) rfl rfl rfl ?_
      iterate 3 refine .o rfl ?_
      refine WL.splitN rfl rfl (fun g22 => ?_) (fun g22 => ?_)
      · refine .val (.loadBW rfl (.tail _ (.head _)) rfl) rfl rfl rfl ?_
        refine .val (.fieldAddrB rfl) rfl rfl rfl ?_; refine .val (.fieldAddrB rfl) rfl rfl rfl ?_; refine .val (.loadB rfl (.head _) rfl) rfl rfl rfl ?_; refine .val (.call rfl (fun m hm => hour6_any _ (hv'.le (by repeat first | exact hm.1 | replace hm := hm.2)))) rfl rfl rfl ?_
        iterate 2 refine .o rfl ?_
        refine WL.split rfl rfl (fun g29 => ?_) (fun g29 => ?_)
        · refine .val (.loadBW rfl (.tail _ (.head _)) rfl) rfl rfl rfl ?_
          refine .val (.fieldAddrB rfl) rfl rfl rfl ?_; refine .val (.fieldAddrB rfl) rfl rfl rfl ?_; refine .val (.loadB rfl (.head _) rfl) rfl rfl rfl ?_; refine .val (.call rfl (fun m hm => hour6_any _ (hv'.le (by repeat first | exact hm.1 | replace hm := hm.2)))) rfl rfl rfl ?_
          iterate 2 refine .o rfl ?_
          refine WL.split rfl rfl (fun g36 => ?_) (fun g36 => ?_)
          · refine .val (.fieldAddrB rfl) rfl rfl rfl ?_
            refine .val (.fieldAddrB rfl) rfl rfl rfl ?_; refine .val (.loadB rfl (.head _) rfl) rfl rfl rfl ?_; refine .val (.fieldAddrB rfl) rfl rfl rfl ?_; refine .val (.fieldAddrB rfl) rfl rfl rfl ?_; refine .val (.loadB rfl (.head _) rfl) rfl rfl rfl ?_
            iterate 3 refine .o rfl ?_
            refine WL.nil ?_; refine Kseq.go ?_
            (refine W.ret ?_; refine ⟨.inl rfl, [_], h, ⟨.tmp rfl, trivial⟩, (by repeat constructor), ?_⟩; exact congrArg Value.bool (by unfold touchOk isThing isHour; simp_all; try omega))
          · refine WL.pass rfl rfl rfl ?_
            refine WL.pass rfl rfl rfl ?_; refine WL.pass rfl rfl rfl ?_; refine WL.pass rfl rfl rfl ?_; refine WL.pass rfl rfl rfl ?_; refine WL.pass rfl rfl rfl ?_; refine WL.pass rfl rfl rfl ?_
            iterate 2 refine .o rfl ?_
            refine WL.nil ?_; refine Kseq.go ?_
            (refine W.ret ?_; refine ⟨.inl rfl, [_], h, ⟨.tmp rfl, trivial⟩, (by repeat constructor), ?_⟩; exact congrArg Value.bool (by unfold touchOk isThing isHour; simp_all; try omega))
        · refine WL.pass rfl rfl rfl ?_
          refine WL.pass rfl rfl rfl ?_; refine WL.pass rfl rfl rfl ?_; refine WL.pass rfl rfl rfl ?_; refine WL.pass rfl rfl rfl ?_
          iterate 2 refine .o rfl ?_
          refine WL.pass rfl rfl rfl ?_; refine WL.pass rfl rfl rfl ?_; refine WL.pass rfl rfl rfl ?_; refine WL.pass rfl rfl rfl ?_; refine WL.pass rfl rfl rfl ?_; refine WL.pass rfl rfl rfl ?_; refine WL.pass rfl rfl rfl ?_
          iterate 2 refine .o rfl ?_
          refine WL.nil ?_; refine Kseq.go ?_
          (refine W.ret ?_; refine ⟨.inl rfl, [_], h, ⟨.tmp rfl, trivial⟩, (by repeat constructor), ?_⟩; exact congrArg Value.bool (by unfold touchOk isThing isHour; simp_all; try omega))
      · refine WL.pass rfl rfl rfl ?_
        refine WL.pass rfl rfl rfl ?_; refine WL.pass rfl rfl rfl ?_; refine WL.pass rfl rfl rfl ?_; refine WL.pass rfl rfl rfl ?_
        iterate 2 refine .o rfl ?_
        refine WL.pass rfl rfl rfl ?_; refine WL.pass rfl rfl rfl ?_; refine WL.pass rfl rfl rfl ?_; refine WL.pass rfl rfl rfl ?_; refine WL.pass rfl rfl rfl ?_
        iterate 2 refine .o rfl ?_
        refine WL.pass rfl rfl rfl ?_; refine WL.pass rfl rfl rfl ?_; refine WL.pass rfl rfl rfl ?_; refine WL.pass rfl rfl rfl ?_; refine WL.pass rfl rfl rfl ?_; refine WL.pass rfl rfl rfl ?_; refine WL.pass rfl rfl rfl ?_
        iterate 2 refine .o rfl ?_
        refine WL.nil ?_; refine Kseq.go ?_
        (refine W.ret ?_; refine ⟨.inl rfl, [_], h, ⟨.tmp rfl, trivial⟩, (by repeat constructor), ?_⟩; exact congrArg Value.bool (by unfold touchOk isThing isHour; simp_all; try omega))
    · refine WL.pass rfl rfl rfl ?_
      refine WL.pass rfl rfl rfl ?_; refine WL.pass rfl rfl rfl ?_; refine WL.pass rfl rfl rfl ?_; refine WL.pass rfl rfl rfl ?_
      iterate 2 refine .o rfl ?_
      refine WL.pass rfl rfl rfl ?_; refine WL.pass rfl rfl rfl ?_; refine WL.pass rfl rfl rfl ?_; refine WL.pass rfl rfl rfl ?_; refine WL.pass rfl rfl rfl ?_
      iterate 2 refine .o rfl ?_
      refine WL.pass rfl rfl rfl ?_; refine WL.pass rfl rfl rfl ?_; refine WL.pass rfl rfl rfl ?_; refine WL.pass rfl rfl rfl ?_; refine WL.pass rfl rfl rfl ?_
      iterate 2 refine .o rfl ?_
      refine WL.pass rfl rfl rfl ?_; refine WL.pass rfl rfl rfl ?_; refine WL.pass rfl rfl rfl ?_; refine WL.pass rfl rfl rfl ?_; refine WL.pass rfl rfl rfl ?_; refine WL.pass rfl rfl rfl ?_; refine WL.pass rfl rfl rfl ?_
      iterate 2 refine .o rfl ?_
      refine WL.nil ?_; refine Kseq.go ?_
      (refine W.ret ?_; refine ⟨.inl rfl, [_], h, ⟨.tmp rfl, trivial⟩, (by repeat constructor), ?_⟩; exact congrArg Value.bool (by unfold touchOk isThing isHour; simp_all; try omega))
  · refine WL.pass rfl rfl rfl ?_
    refine WL.pass rfl rfl rfl ?_; refine WL.pass rfl rfl rfl ?_; refine WL.pass rfl rfl rfl ?_
    iterate 2 refine .o rfl ?_
    refine WL.pass rfl rfl rfl ?_; refine WL.pass rfl rfl rfl ?_; refine WL.pass rfl rfl rfl ?_; refine WL.pass rfl rfl rfl ?_; refine WL.pass rfl rfl rfl ?_
    iterate 2 refine .o rfl ?_
    refine WL.pass rfl rfl rfl ?_; refine WL.pass rfl rfl rfl ?_; refine WL.pass rfl rfl rfl ?_; refine WL.pass rfl rfl rfl ?_; refine WL.pass rfl rfl rfl ?_
    iterate 2 refine .o rfl ?_
    refine WL.pass rfl rfl rfl ?_; refine WL.pass rfl rfl rfl ?_; refine WL.pass rfl rfl rfl ?_; refine WL.pass rfl rfl rfl ?_; refine WL.pass rfl rfl rfl ?_
    iterate 2 refine .o rfl ?_
    refine WL.pass rfl rfl rfl ?_; refine WL.pass rfl rfl rfl ?_; refine WL.pass rfl rfl rfl ?_; refine WL.pass rfl rfl rfl ?_; refine WL.pass rfl rfl rfl ?_; refine WL.pass rfl rfl rfl ?_; refine WL.pass rfl rfl rfl ?_
    iterate 2 refine .o rfl ?_
    refine WL.nil ?_; refine Kseq.go ?_
    (refine W.ret ?_; refine ⟨.inl rfl, [_], h, ⟨.tmp rfl, trivial⟩, (by repeat constructor), ?_⟩; exact congrArg Value.bool (by unfold touchOk isThing isHour; simp_all; try omega))
/-- boiling: whether one is valid -/
theorem boiling6_any {h : Mem} {v : Value} {r : House} (t : Boil) (hv : IsHouse h v r) (hf : FitH r) : FnV Try.prog 42 #[v, .agg #[vi t.thing, vi t.hour]] h (.bool (boilOk r t)) := by
  have hv' := hv
  obtain ⟨wv, pv, kv, tv, bv, sv, f, rfl, hA⟩ := hv
  refine FnR.val ?_
  refine FnR.of_W (n := 15) Try.func42 rfl rfl (Nat.le_of_ble_eq_true rfl) fun c hr hD hF => ?_
  refine W.seq ?_; refine W.region ?_
  refine WL.box rfl rfl rfl rfl (fun b2 => ?_)
  refine WL.box rfl rfl rfl rfl (fun b3 => ?_)
  refine .o rfl ?_; refine WL.nil ?_
  refine Kseq.go (W.seq ?_)
  refine W.region ?_; refine .val (.loadBW rfl (.tail _ (.head _)) rfl) rfl rfl rfl ?_; refine .val (.fieldAddrB rfl) rfl rfl rfl ?_; refine .val (.loadB rfl (.head _) rfl) rfl rfl rfl ?_; refine .val (.cast (.call rfl (fun m hm => thing6_any _ (hv'.le (by repeat first | exact hm.1 | replace hm := hm.2)))) (congrArg Value.bool (thingW_eq hf _))) rfl rfl rfl ?_; refine .o rfl ?_
  refine WL.split rfl rfl (fun g9 => ?_) (fun g9 => ?_)
  · refine .val (.loadBW rfl (.tail _ (.head _)) rfl) rfl rfl rfl ?_
    refine .val (.fieldAddrB rfl) rfl rfl rfl ?_; refine .val (.loadB rfl (.head _) rfl) rfl rfl rfl ?_; refine .val (.call rfl (fun m hm => hour6_any _ (hv'.le (by repeat first | exact hm.1 | replace hm := hm.2)))) rfl rfl rfl ?_
    iterate 2 refine .o rfl ?_
    refine WL.nil ?_; refine Kseq.go ?_
    (refine W.ret ?_; refine ⟨.inl rfl, [_], h, ⟨.tmp rfl, trivial⟩, (by repeat constructor), ?_⟩; exact congrArg Value.bool (by unfold boilOk isThing isHour; simp_all; try omega))
  · refine WL.pass rfl rfl rfl ?_
    refine WL.pass rfl rfl rfl ?_; refine WL.pass rfl rfl rfl ?_; refine WL.pass rfl rfl rfl ?_
    iterate 2 refine .o rfl ?_
    refine WL.nil ?_; refine Kseq.go ?_
    (refine W.ret ?_; refine ⟨.inl rfl, [_], h, ⟨.tmp rfl, trivial⟩, (by repeat constructor), ?_⟩; exact congrArg Value.bool (by unfold boilOk isThing isHour; simp_all; try omega))
/-- sign: whether one is valid -/
theorem sign6_any {h : Mem} {v : Value} {r : House} (t : Sign) (hv : IsHouse h v r) (hf : FitH r) : FnV Try.prog 43 #[v, .agg #[vi t.thing, .bool t.carries]] h (.bool (signOk r t)) := by
  have hv' := hv
  obtain ⟨wv, pv, kv, tv, bv, sv, f, rfl, hA⟩ := hv
  refine FnR.val ?_
  refine FnR.of_W (n := 9) Try.func43 rfl rfl (Nat.le_of_ble_eq_true rfl) fun c hr hD hF => ?_
  refine W.seq ?_; refine W.region ?_
  refine WL.box rfl rfl rfl rfl (fun b2 => ?_)
  refine WL.box rfl rfl rfl rfl (fun b3 => ?_)
  refine .o rfl ?_; refine WL.nil ?_
  refine Kseq.go (W.seq ?_)
  refine W.region ?_; refine .val (.loadBW rfl (.tail _ (.head _)) rfl) rfl rfl rfl ?_; refine .val (.fieldAddrB rfl) rfl rfl rfl ?_; refine .val (.loadB rfl (.head _) rfl) rfl rfl rfl ?_; refine .val (.cast (.call rfl (fun m hm => thing6_any _ (hv'.le (by repeat first | exact hm.1 | replace hm := hm.2)))) (congrArg Value.bool (thingW_eq hf _))) rfl rfl rfl ?_; refine .o rfl ?_; refine WL.nil ?_; refine Kseq.go ?_
  refine W.ret ?_; refine ⟨.inl rfl, [_], h, ⟨.tmp rfl, trivial⟩, (by repeat constructor), ?_⟩
  rfl
end Go.Proofs.Ytdnbkjgbehakpaa

/- The program's functions of chapter 6: boilings, play, right. -/
namespace Go.Proofs.Ytdnbkjgbehakpaa
open Go Go.Eng Go.RowKit

section
variable {P : Program} {n : Nat} {c : Cx P n} {l : List (Nat × Value)} {Ms : List Mem} {μ : List Res} {dst : Option Tmp} {x y : Operand} {t t' ty : TypeId} {pos : String} {af : Array Edge} {gd : Option (Nat × Bool)}
theorem OpVal.neqB6 {p q : Bool} [ht : TU P t .bool] (hx : lk l x = some (.bool p)) (hy : lk l y = some (.bool q)) : OpVal c ⟨dst, .binOp .neq t x y t', ty, pos, af, gd⟩ l Ms μ (.bool (!decide (p = q))) :=
  OpVal.of_runs (by simp) (by simp) fun a w hh => by
    have h1 : (Op.equal t (.bool p) (.bool q)).run P w = .ok (p == q) w := run_equalIn_bool' w 9999 t p q ht.u
    simp [execOp, hh.lk hx, hh.lk hy, eqGuard, binOp, h1]
    cases p <;> cases q <;> rfl
/-- A call that reads a block of one's own, too. -/
theorem OpVal.callB {f : FuncId} [TC P f] {xs : Array Operand} {ats : Array TypeId} {vs : List Value} {v : Value} {b : Nat} {cs : Array Value} {T : TypeId} (hxs : lks l xs.toList = some vs) (hb : Res.blk b cs T ∈ μ)
    (h : ∀ m, AllLe Ms m → IsBox m b cs T → FnV P f vs.toArray m v) : OpVal c ⟨dst, .call ⟨.value (.func f), xs, ats⟩, ty, pos, af, gd⟩ l Ms μ v := by
  unfold OpVal
  intro _ w hh
  have hbw := hh.blk hb
  have hbf : b ∈ feet μ := List.mem_filterMap.2 ⟨_, hb, rfl⟩
  have hno := (hh.mem.own b hbf).2
  let m : Mem := fun x => if x = b then w.heap[b]? else MAll Ms x
  have hle : AllLe Ms m := AllLe.of fun m0 hm0 x o hx => by
    have hxb : x ≠ b := fun e => by rw [e, hno m0 hm0] at hx; cases hx
    show (if x = b then _ else MAll Ms x) = some o
    rw [if_neg hxb]
    exact MAll.le hh.mem.sub hm0 x o hx
  have hbox : IsBox m b cs T := by
    show (if b = b then w.heap[b]? else _) = _
    rw [if_pos rfl]; exact hbw
  have hsub : Sub m w := fun x o hx => by
    by_cases hxb : x = b
    · subst hxb
      have h2 : (if x = x then w.heap[x]? else MAll Ms x) = some o := hx
      rwa [if_pos rfl] at h2
    · have h2 : (if x = b then w.heap[b]? else MAll Ms x) = some o := hx
      rw [if_neg hxb] at h2
      exact MAll.sub hh.mem.sub x o h2
  exact Yields.call (first := #[]) (caps := #[]) hh rfl hxs (((by simpa using h m hle hbox : FnV P f (#[] ++ vs.toArray ++ #[]) m v).un w hsub).mono fun _ _ ⟨he, hx⟩ => ⟨v, he, rfl, hx⟩)
end

/-! ### Boilings -/
def boilG (bs : List Boil) (xs : List Int) : Value := .bool (isBoiled bs (xs.getD 0 0) (xs.getD 1 0))
theorem isBoiled_snoc (bs : List Boil) (b : Boil) (x y : Int) : isBoiled (bs ++ [b]) x y = (isBoiled bs x y || (decide (b.thing = x) && decide (b.hour = y))) := by
  rw [Bool.eq_iff_iff, Bool.or_eq_true, isBoiled_iff, isBoiled_iff, List.mem_append, List.mem_singleton]
  simp only [Bool.and_eq_true, decide_eq_true_eq]
  constructor
  · rintro (h | h)
    · exact .inl h
    · exact .inr (by rw [← h]; exact ⟨rfl, rfl⟩)
  · rintro (h | ⟨rfl, rfl⟩)
    · exact .inl h
    · exact .inr rfl
theorem boilG_upd (bs : List Boil) (b : Boil) (y : List Int) (hy : y.length = 2) : upd (boilG bs) [b.thing, b.hour] (.bool true) y = boilG (bs ++ [b]) y := by
  match y, hy with
  | [p, q], _ =>
    unfold upd boilG
    rw [isBoiled_snoc]
    simp only [List.getD_cons_zero, List.getD_cons_succ]
    split
    · rename_i e
      injection e with e1 e2
      injection e2 with e2 _
      rw [decide_eq_true e1.symm, decide_eq_true e2.symm]; simp
    · rename_i e
      have : (decide (b.thing = p) && decide (b.hour = q)) = false := by
        rw [Bool.and_eq_false_iff, decide_eq_false_iff_not, decide_eq_false_iff_not]
        by_cases h1 : b.thing = p
        · exact .inr fun h2 => e (by rw [h1, h2])
        · exact .inl h1
      rw [this, Bool.or_false]
theorem take_snoc6 {α : Type} [Inhabited α] {l : List α} {k : Nat} (h : k < l.length) : l.take (k + 1) = l.take k ++ [l.getD k default] := take_succ_getD h
abbrev IsBm (m : Mem) (b : Nat) (bs : List Boil) : Prop := IsMap m b vq (fun xs => xs.length = 2) (.bool false) (boilG bs)
/-- boilings -/
theorem boilings_any {h : Mem} {v mv : Value} {r : House} {more : List Boil} (hv : IsHouse h v r) (hm : IsBoils h mv more) (hsm : SmH r) (hml : more.length ≤ 1000) : FnR Try.prog 21 #[v, mv] h (fun m q => ∃ b, q = .map (some b) ∧ IsBm m b (r.boiled ++ more)) := by
  obtain ⟨wv, pv, kv, tv, bv, sv, f, rfl, hA⟩ := hv
  have hB := hA.B
  have hbl := hsm.boiled
  refine FnR.of_W (n := 35) Try.func21 rfl rfl (Nat.le_of_ble_eq_true rfl) fun c hr hD hF => ?_
  refine W.seq ?_; refine W.region ?_
  refine WL.box rfl rfl rfl rfl (fun b2 => ?_)
  refine .o rfl ?_; refine WL.nil ?_
  refine Kseq.go (W.seq ?_)
  refine W.region ?_
  (refine WL.makeMap rfl rfl rfl (fun b10 => ?_))
  refine .o rfl ?_; refine WL.nil ?_
  refine Kseq.go (W.seq (W.seq ?_))
  refine W.region ?_; refine .val (.fieldAddrB rfl) rfl rfl rfl ?_; refine .val (.loadB rfl (.tail _ (.head _)) rfl) rfl rfl rfl ?_; refine .val (.len rfl hB) rfl rfl rfl ?_; refine .o rfl ?_; refine WL.nil ?_
  refine Kseq.go (W.block ?_)
  refine W.loop (σ := Nat × Array MapEntry × Nat) (fun s => [(1, mv), (5, .map (some b10)), (12, bv), (13, .int .i64 (r.boiled.length : Int)), (14, .int .i64 (s.1 : Int))]) (fun _ => [h]) (fun s => [.obj b10 (.map s.2.1 s.2.2)]) (fun s => s.1 ≤ r.boiled.length ∧ MapG vq (fun xs => xs.length = 2) (.bool false) s.2.1 s.2.2 (boilG (r.boiled.take s.1))) (fun s => r.boiled.length - s.1) (0, #[], 0) ⟨rfl, rfl, rfl, rfl, rfl, trivial⟩ (by simp) (.cons_cons _ (List.nil_sublist _)) ⟨Nat.zero_le _, (MapG.empty _ _ _).congr fun y _ => rfl⟩ ?_
  rintro ⟨k, es, clock⟩ ⟨hk, hG⟩
  dsimp only at hk hG ⊢
  refine W.seq ?_; refine W.region ?_; refine .o rfl ?_; refine WL.nil ?_
  refine Kseq.go (W.seq ?_)
  refine W.condD rfl rfl (fun hlt => ?_) (fun hge => ?_)
  · have hkl : k < r.boiled.length := by omega
    refine W.skip (Kseq.go (W.seq (W.block (W.seq ?_))))
    refine W.region ?_; refine .val (.indexAddrN rfl rfl hB hkl) rfl rfl rfl ?_; refine .val (.loadEA rfl hB (by repeat constructor) hkl) rfl rfl rfl ?_
    refine WL.alloc rfl rfl rfl (fun b7 => ?_)
    refine WL.store [_, _] rfl (.head _) rfl rfl rfl (Nat.le_of_ble_eq_true rfl) (by first | (simp [Value.cells, Value.oneCell']; done) | exact IsArr.ones hW (by omega) | exact IsArr.ones hP (by omega) | exact IsArr.ones hS (by omega) | exact IsArr.ones hH (by omega) | exact IsArr.ones hL (by omega) | exact IsArr.ones hB (by omega) | exact IsArr.ones hT (by omega) | exact IsArr.ones hm (by omega)) rfl ?_
    refine WL.nil ?_; refine Kseq.go ?_; refine W.region ?_; refine .o rfl ?_; refine .val (.fieldAddrB rfl) rfl rfl rfl ?_; refine .val (.loadB rfl (.head _) rfl) rfl rfl rfl ?_; refine .val (.fieldAddrB rfl) rfl rfl rfl ?_; refine .val (.loadB rfl (.head _) rfl) rfl rfl rfl ?_; refine .val (.cast (.build2 rfl rfl) (show _ = vq [(r.boiled.getD k default).thing, (r.boiled.getD k default).hour] from rfl)) rfl rfl rfl ?_
    (refine WL.mapUpdate (k := [(r.boiled.getD k default).thing, (r.boiled.getD k default).hour]) (μ' := fun es' clock' => [.blk b7 _ 42, .obj b10 (.map es' clock')]) rfl rfl rfl hG rfl (fun _ _ => .tail _ (.head _)) rfl ?_; intro es2 clock2 hG2)
    refine WL.nil ?_
    refine Kblock.normal (Kseq.go ?_)
    refine W.region ?_; refine .val (.incr rfl (by omega)) rfl rfl rfl ?_; refine .o rfl ?_; refine WL.nil ?_
    exact Kloop.next (k + 1, es2, clock2) ⟨by dsimp only; omega, hG2.congr fun y hy => by rw [boilG_upd _ _ _ hy, take_snoc6 hkl]⟩ (by dsimp only; omega) ⟨rfl, rfl, rfl, rfl, rfl, trivial⟩ (by simp) (by repeat first | exact .refl _ | refine .cons _ ?_)
  refine W.exit (Kseq.exit (Kloop.exit (Kblock.here (Kseq.go (W.seq (W.seq ?_))))))
  have hkk : k = r.boiled.length := by omega
  subst hkk
  rw [List.take_length] at hG
  refine W.region ?_; refine .o rfl ?_; refine .val (.len rfl hm) rfl rfl rfl ?_; refine .o rfl ?_; refine WL.nil ?_
  refine Kseq.go (W.block ?_)
  refine W.loop (σ := Nat × Array MapEntry × Nat) (fun s => [(5, .map (some b10)), (25, mv), (26, .int .i64 (more.length : Int)), (27, .int .i64 (s.1 : Int))]) (fun _ => [h]) (fun s => [.obj b10 (.map s.2.1 s.2.2)]) (fun s => s.1 ≤ more.length ∧ MapG vq (fun xs => xs.length = 2) (.bool false) s.2.1 s.2.2 (boilG (r.boiled ++ more.take s.1))) (fun s => more.length - s.1) (0, es, clock) ⟨rfl, rfl, rfl, rfl, trivial⟩ (by simp) (by repeat first | exact .refl _ | refine .cons _ ?_) ⟨Nat.zero_le _, by rw [List.take_zero, List.append_nil]; exact hG⟩ ?_
  rintro ⟨k, es', clock'⟩ ⟨hk, hG'⟩
  dsimp only at hk hG' ⊢
  refine W.seq ?_; refine W.region ?_; refine .o rfl ?_; refine WL.nil ?_
  refine Kseq.go (W.seq ?_)
  refine W.condD rfl rfl (fun hlt => ?_) (fun hge => ?_)
  · have hkl : k < more.length := by omega
    refine W.skip (Kseq.go (W.seq (W.block (W.seq ?_))))
    refine W.region ?_; refine .val (.indexAddrN rfl rfl hm hkl) rfl rfl rfl ?_; refine .val (.loadEA rfl hm (by repeat constructor) hkl) rfl rfl rfl ?_
    refine WL.alloc rfl rfl rfl (fun b9 => ?_)
    refine WL.store [_, _] rfl (.head _) rfl rfl rfl (Nat.le_of_ble_eq_true rfl) (by first | (simp [Value.cells, Value.oneCell']; done) | exact IsArr.ones hW (by omega) | exact IsArr.ones hP (by omega) | exact IsArr.ones hS (by omega) | exact IsArr.ones hH (by omega) | exact IsArr.ones hL (by omega) | exact IsArr.ones hB (by omega) | exact IsArr.ones hT (by omega) | exact IsArr.ones hm (by omega)) rfl ?_
    refine WL.nil ?_; refine Kseq.go ?_; refine W.region ?_; refine .o rfl ?_; refine .val (.cast (.loadBW rfl (.head _) rfl) (show _ = vq [(more.getD k default).thing, (more.getD k default).hour] from rfl)) rfl rfl rfl ?_
    (refine WL.mapUpdate (k := [(more.getD k default).thing, (more.getD k default).hour]) (μ' := fun es' clock' => [.blk b9 _ 106, .obj b10 (.map es' clock')]) rfl rfl rfl hG' rfl (fun _ _ => .tail _ (.head _)) rfl ?_; intro es2 clock2 hG2)
    refine WL.nil ?_
    refine Kblock.normal (Kseq.go ?_)
    refine W.region ?_; refine .val (.incr rfl (by omega)) rfl rfl rfl ?_; refine .o rfl ?_; refine WL.nil ?_
    exact Kloop.next (k + 1, es2, clock2) ⟨by dsimp only; omega, hG2.congr fun y hy => by rw [boilG_upd _ _ _ hy, take_snoc6 hkl, List.append_assoc]⟩ (by dsimp only; omega) ⟨rfl, rfl, rfl, rfl, trivial⟩ (by simp) (by repeat first | exact .refl _ | refine .cons _ ?_)
  refine W.exit (Kseq.exit (Kloop.exit (Kblock.here (Kseq.go (W.seq ?_)))))
  have hkk : k = more.length := by omega
  subst hkk
  rw [List.take_length] at hG'
  refine W.freezeMap (.head _) (fun b hb => (hF b hb).elim) hG' fun mm hmm => ?_
  refine W.region ?_
  iterate 2 refine .o rfl ?_
  refine WL.nil ?_; refine Kseq.go ?_
  refine W.ret ?_; refine ⟨.inl rfl, [_], mm, ⟨.tmp rfl, trivial⟩, (by repeat constructor), ?_⟩
  exact ⟨b10, rfl, hmm⟩

/-! ### Courses in arrays -/
def pad6 (l : List Int) : List Int := l ++ List.replicate (6 - l.length) 0
theorem pad6_len {l : List Int} (h : l.length ≤ 6) : (pad6 l).length = 6 := by simp [pad6]; omega
/-- A course, as the program has it. -/
def sceneC (c : Course) : Array Value := ((pad c.owners).map vi ++ (pad6 c.hours).map vi).toArray
abbrev sceneV (c : Course) : Value := .agg (sceneC c)
structure FitC (r : House) (c : Course) : Prop where
  owners : c.owners.length = r.np
  hours : c.hours.length = r.tn
theorem sceneC_size {c : Course} (h1 : c.owners.length ≤ 7) (h2 : c.hours.length ≤ 6) : (sceneC c).size = 13 := by
  unfold sceneC
  rw [List.size_toArray, List.length_append, List.length_map, List.length_map, pad_len h1, pad6_len h2]
theorem sceneC_owner {c : Course} (h1 : c.owners.length ≤ 7) {i : Nat} (hi : i < c.owners.length) : (sceneC c)[0 + i]? = some (vi (c.owners.getD i 0)) := by
  unfold sceneC
  rw [Nat.zero_add, List.getElem?_toArray, List.getElem?_append_left (by rw [List.length_map, pad_len h1]; omega), List.getElem?_map]
  unfold pad
  rw [List.getElem?_append_left hi, List.getElem?_eq_getElem hi]
  simp [List.getD_eq_getElem?_getD, List.getElem?_eq_getElem hi]
theorem sceneC_hour {c : Course} (h1 : c.owners.length ≤ 7) {i : Nat} (hi : i < c.hours.length) : (sceneC c)[7 + i]? = some (vi (c.hours.getD i 0)) := by
  unfold sceneC
  have hl : ((pad c.owners).map vi).length = 7 := by rw [List.length_map, pad_len h1]
  rw [List.getElem?_toArray, List.getElem?_append_right (by omega), hl, Nat.add_sub_cancel_left, List.getElem?_map]
  unfold pad6
  rw [List.getElem?_append_left hi, List.getElem?_eq_getElem hi]
  simp [List.getD_eq_getElem?_getD, List.getElem?_eq_getElem hi]
theorem sceneC_one (c : Course) : ∀ u ∈ (sceneC c).toList, u.oneCell' = true := by
  intro u hu
  unfold sceneC at hu
  simp only [List.mem_append, List.mem_map] at hu
  rcases hu with ⟨x, _, rfl⟩ | ⟨x, _, rfl⟩ <;> rfl
theorem ValidH.np7 {r : House} (hV : ValidH r) : r.np ≤ 7 := hV.table.pieces
/-- sick -/
theorem sick_any {h : Mem} {v : Value} {r : House} {c : Course} {i : Nat} (hv : IsHouse h v r) (hc : FitC r c) (h7 : r.np ≤ 7) (h6 : r.tn ≤ 6) (hi : i < r.np) : FnV Try.prog 52 #[v, sceneV c, vi i] h (.bool (decide (c.owners.getD i 0 ∈ r.sick))) := by
  have h1 := hc.owners
  have h2 := hc.hours
  have hsz := sceneC_size (c := c) (by omega) (by omega)
  obtain ⟨wv, pv, kv, tv, bv, sv, f, rfl, hA⟩ := hv
  have hK := hA.K
  refine FnR.val ?_
  refine FnR.of_W (n := 14) Try.func52 rfl rfl (Nat.le_of_ble_eq_true rfl) fun c hr hD hF => ?_
  refine W.seq ?_; refine W.region ?_
  refine WL.box rfl rfl rfl rfl (fun b3 => ?_)
  (refine WL.box rfl rfl rfl rfl (fun b4 => ?_))
  refine .o rfl ?_; refine WL.nil ?_
  refine Kseq.go (W.seq ?_)
  refine W.draw 6 (by kernel_rfl) (by kernel_rfl) (by kernel_rfl) rfl ?_; refine .val [] (.fieldAddrB rfl) rfl rfl rfl rfl ?_; refine .val [] (.loadB rfl (.tail _ (.head _)) rfl) rfl rfl rfl rfl ?_; refine .val [] (.opv rfl) rfl rfl rfl rfl ?_; refine .val [] (.fieldAddrB rfl) rfl rfl rfl rfl ?_; refine .val [] (.indexAddrB rfl rfl (by omega)) rfl rfl rfl rfl ?_; refine .val [] (.loadB rfl (.head _) (sceneC_owner (by omega) (by omega))) rfl rfl rfl rfl ?_; refine DJ.nil ?_; refine .val (.call rfl (fun m hm => contains_any _ (hK.le (by repeat first | exact hm.1 | replace hm := hm.2)))) rfl rfl rfl ?_; refine .o rfl ?_; refine WL.nil ?_; refine Kseq.go ?_
  refine W.ret ?_; refine ⟨.inl rfl, [_], h, ⟨.tmp rfl, trivial⟩, (by repeat constructor), ?_⟩
  rfl
end Go.Proofs.Ytdnbkjgbehakpaa
