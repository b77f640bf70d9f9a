/- The statement TopRead: its contract. -/
import Derived.Test.YtppkhehbkoeinaaP48
import Derived.Test.YtppkhehbkoeinaaP25
import Derived.Test.YtppkhehbkoeinaaPH1
namespace Go.Proofs.Ytppkhehbkoeinaa
open Go Go.Eng Go.RowKit

/-- equal -/
theorem equalTop_any {h : Mem} {av bv : Value} {a b : List Int} (ha : IsInts h av a) (hb : IsInts h bv b) : FnV Try.prog 40 #[av, bv] h (.bool (decide (a = b))) := by
  have hla := ha.bd
  have hlb := hb.bd
  refine FnR.val ?_
  refine FnR.of_W (n := 26) Try.func40 rfl rfl (Nat.le_of_ble_eq_true rfl) fun c hr hD hF => ?_
  refine W.seq ?_; refine W.region ?_; refine .o rfl ?_; refine WL.nil ?_
  refine Kseq.go (W.seq (W.seq ?_))
  refine W.region ?_; refine .o rfl ?_; refine .val (.len rfl (by assumption)) rfl rfl rfl ?_; refine .o rfl ?_; refine .val (.len rfl (by assumption)) rfl rfl rfl ?_; refine .o rfl ?_; refine WL.nil ?_; refine Kseq.go ?_
  refine W.cond rfl rfl (fun he => ?_) (fun hne => ?_)
  · refine W.seq ?_
    refine W.region ?_; refine .o rfl ?_; refine WL.nil ?_; refine Kseq.go ?_
    refine W.ret ?_; refine Kseq.ret ?_; refine ⟨.inl rfl, [_], h, ⟨.tmp rfl, trivial⟩, (by repeat constructor), ?_⟩
    exact congrArg Value.bool (decide_eq_false fun e => by subst e; simp at he).symm
  have hn : a.length = b.length := by simp at hne; omega
  refine W.skip (Kseq.go (W.seq (W.seq ?_)))
  refine W.region ?_; refine .o rfl ?_; refine WL.nil ?_
  refine Kseq.go (W.block ?_)
  refine W.loopC (σ := Nat) (fun k => [(0, av), (1, bv), (5, .int .i64 (k : Int))]) (fun k => k ≤ a.length ∧ ∀ i, i < k → a.getD i 0 = b.getD i 0) (fun k => a.length - k) 0 ⟨rfl, rfl, rfl, trivial⟩ ⟨Nat.zero_le _, fun i hi => absurd hi (Nat.not_lt_zero _)⟩ ?_
  rintro k ⟨hk, hall⟩
  refine W.seq (W.seq ?_)
  refine W.region ?_
  iterate 2 refine .o rfl ?_
  refine .val (.len rfl (by assumption)) rfl rfl rfl ?_; refine .o rfl ?_; refine WL.nil ?_; refine Kseq.go ?_
  refine W.condD rfl rfl (fun hlt => ?_) (fun hge => ?_)
  · refine W.skip (Kseq.go (W.seq (W.block (W.seq ?_))))
    refine W.draw 8 (by kernel_rfl) (by kernel_rfl) (by kernel_rfl) rfl ?_; refine .val [] (.opv rfl) rfl rfl rfl rfl ?_; refine .val [] (.opv rfl) rfl rfl rfl rfl ?_; refine .val [] (.indexAddrN rfl rfl (by assumption) (by omega)) rfl rfl rfl rfl ?_; refine .val [] (.loadE rfl (by assumption) (by repeat constructor) (by omega) (by omega)) rfl rfl rfl rfl ?_; refine .val [] (.opv rfl) rfl rfl rfl rfl ?_; refine .val [] (.opv rfl) rfl rfl rfl rfl ?_; refine .val [] (.indexAddrN rfl rfl (by assumption) (by omega)) rfl rfl rfl rfl ?_; refine .val [] (.loadE rfl (by assumption) (by repeat constructor) (by omega) (by omega)) rfl rfl rfl rfl ?_; refine DJ.nil ?_; refine .o rfl ?_; refine WL.nil ?_; refine Kseq.go ?_
    refine W.cond rfl rfl (fun he => ?_) (fun hne2 => ?_)
    · refine W.seq ?_
      refine W.region ?_; refine .o rfl ?_; refine WL.nil ?_; refine Kseq.go ?_
      refine W.ret ?_; refine Kblock.ret (Kseq.ret (Kloop.ret (Kblock.ret (Kseq.ret ?_)))); refine ⟨.inl rfl, [_], h, ⟨.tmp rfl, trivial⟩, (by repeat constructor), ?_⟩
      exact congrArg Value.bool (decide_eq_false fun e => by subst e; simp at he).symm
    · refine W.skip (Kblock.normal (Kseq.go ?_))
      refine W.region ?_; refine .o rfl ?_; refine .val (.incr rfl (by omega)) rfl rfl rfl ?_; refine .o rfl ?_; refine WL.nil ?_
      refine Kloop.nextC (k + 1) ⟨by omega, fun i hi => ?_⟩ (by omega) ⟨rfl, rfl, rfl, trivial⟩ (by simp) (.refl _)
      rcases Nat.lt_succ_iff_lt_or_eq.1 hi with h2 | rfl
      · exact hall i h2
      · simpa using hne2
  · refine W.exit (Kseq.exit (Kloop.exit (Kblock.here (Kseq.go (W.seq ?_)))))
    refine W.region ?_; refine .o rfl ?_; refine WL.nil ?_; refine Kseq.go ?_
    refine W.ret ?_; refine ⟨.inl rfl, [_], h, ⟨.tmp rfl, trivial⟩, (by repeat constructor), ?_⟩
    refine congrArg Value.bool (decide_eq_true (List.ext_getElem hn fun i h1 h2 => ?_)).symm
    have := hall i (by omega)
    rw [List.getD_eq_getElem?_getD, List.getD_eq_getElem?_getD, List.getElem?_eq_getElem h1, List.getElem?_eq_getElem h2] at this
    exact this

theorem equalTop_same {h : Mem} {av bv : Value} {a : List Int} (ha : IsInts h av a) (hb : IsInts h bv a) : FnV Try.prog 40 #[av, bv] h (.bool true) := by
  have := equalTop_any ha hb
  rwa [decide_eq_true rfl] at this
/-- exchanged, its pieces one's own -/
theorem exchangedP_any : FnM Try.prog 64 #[vi 1, vi 0] [] [] (fun q Ms' μ' => ∃ m b a0 a1 wv hv sv, Ms' = [m] ∧ μ' = [.row 74 2 (.slice (some ⟨b, 0, none⟩) 2 2) 2 [.slice (some ⟨a0, 0, none⟩) 1 1, vi 1, .slice (some ⟨a1, 0, none⟩) 2 2, vi 0]] ∧ q = .agg #[wv, .slice (some ⟨b, 0, none⟩) 2 2, vi 0, hv, sv, vi 0, vi 3] ∧ IsWomen m wv exK.table.women ∧ IsInts m (.slice (some ⟨a0, 0, none⟩) 1 1) [1] ∧ IsRgs m hv exK.home ∧ IsRgs m sv exK.streets) := by
  refine FnM.of_W (n := 34) Try.func64 rfl rfl (Nat.le_of_ble_eq_true rfl) rfl fun c hr hD hF => ?_
  refine W.seq ?_; refine W.region ?_
  refine WL.alloc rfl rfl rfl (fun b4 => ?_)
  refine WL.nil ?_
  refine Kseq.go (W.seq ?_)
  refine W.region ?_; refine .val (.build2 rfl rfl) rfl rfl rfl ?_
  refine WL.alloc rfl rfl rfl (fun b5 => ?_)
  refine WL.store [_, _] rfl (.head _) rfl rfl rfl (Nat.le_of_ble_eq_true rfl) (by first | (simp [Value.cells, Value.oneCell']; done) | exact IsArr.ones hW (by omega) | exact IsArr.ones hP (by omega) | exact IsArr.ones hS (by omega) | exact IsArr.ones hH (by omega) | exact IsArr.ones hL (by omega) | exact IsArr.ones hB (by omega) | exact IsArr.ones hT (by omega) | exact IsArr.ones hm (by omega)) rfl ?_
  refine WL.nil ?_
  refine Kseq.go (W.seq ?_)
  refine W.region ?_; refine .val (.loadBW rfl (.head _) rfl) rfl rfl rfl ?_; refine .val (.build3 rfl rfl) rfl rfl rfl ?_; refine .val (.loadBW rfl (.head _) rfl) rfl rfl rfl ?_; refine .val (.build3 rfl rfl) rfl rfl rfl ?_
  refine WL.abs (OpAbs.lit [_, _, _, _, _, _] rfl (Nat.le_of_ble_eq_true rfl) rfl rfl (by simp [Value.cells]) (Nat.le_of_ble_eq_true rfl) rfl (by first | (simp [Value.oneCell']; done) | exact List.all_eq_true.1 rfl)) rfl rfl rfl ?_
  rintro m14 _ ⟨hc14, a14, rfl⟩
  refine WL.abs (OpAbs.lit [_] rfl (Nat.le_of_ble_eq_true rfl) rfl rfl (by simp [Value.cells]) (Nat.le_of_ble_eq_true rfl) rfl (by first | (simp [Value.oneCell']; done) | exact List.all_eq_true.1 rfl)) rfl rfl rfl ?_
  rintro m15 _ ⟨hc15, a15, rfl⟩
  refine .o rfl ?_; refine .val (.build2 rfl rfl) rfl rfl rfl ?_
  refine WL.abs (OpAbs.lit [_, _] rfl (Nat.le_of_ble_eq_true rfl) rfl rfl (by simp [Value.cells]) (Nat.le_of_ble_eq_true rfl) rfl (by first | (simp [Value.oneCell']; done) | exact List.all_eq_true.1 rfl)) rfl rfl rfl ?_
  rintro m18 _ ⟨hc18, a18, rfl⟩
  refine .o rfl ?_; refine .val (.build2 rfl rfl) rfl rfl rfl ?_
  (refine WL.lit (vs := [.agg #[.slice (some ⟨a15, 0, none⟩) 1 1, vi 1], .agg #[.slice (some ⟨a18, 0, none⟩) 2 2, vi 0]]) [.slice (some ⟨a15, 0, none⟩) 1 1, vi 1, .slice (some ⟨a18, 0, none⟩) 2 2, vi 0] rfl (Nat.le_of_ble_eq_true rfl) rfl rfl (by simp [Value.cells]) (Nat.le_of_ble_eq_true rfl) rfl rfl rfl rfl (fun b21 => ?_))
  refine .val (.build3 rfl rfl) rfl rfl rfl ?_
  refine WL.alloc rfl rfl rfl (fun b6 => ?_)
  refine WL.store [_, _, _] rfl (.head _) rfl rfl rfl (Nat.le_of_ble_eq_true rfl) (by first | (simp [Value.cells, Value.oneCell']; done) | exact IsArr.ones hW (by omega) | exact IsArr.ones hP (by omega) | exact IsArr.ones hS (by omega) | exact IsArr.ones hH (by omega) | exact IsArr.ones hL (by omega) | exact IsArr.ones hB (by omega) | exact IsArr.ones hT (by omega) | exact IsArr.ones hm (by omega)) rfl ?_
  refine WL.nil ?_
  refine Kseq.go (W.seq ?_)
  refine W.region ?_; refine .val (.build2 rfl rfl) rfl rfl rfl ?_
  refine WL.alloc rfl rfl rfl (fun b7 => ?_)
  refine WL.store [_, _] rfl (.head _) rfl rfl rfl (Nat.le_of_ble_eq_true rfl) (by first | (simp [Value.cells, Value.oneCell']; done) | exact IsArr.ones hW (by omega) | exact IsArr.ones hP (by omega) | exact IsArr.ones hS (by omega) | exact IsArr.ones hH (by omega) | exact IsArr.ones hL (by omega) | exact IsArr.ones hB (by omega) | exact IsArr.ones hT (by omega) | exact IsArr.ones hm (by omega)) rfl ?_
  refine WL.nil ?_
  refine Kseq.go (W.seq ?_)
  refine W.region ?_; refine .val (.build2 rfl rfl) rfl rfl rfl ?_
  refine WL.alloc rfl rfl rfl (fun b8 => ?_)
  refine WL.store [_, _] rfl (.head _) rfl rfl rfl (Nat.le_of_ble_eq_true rfl) (by first | (simp [Value.cells, Value.oneCell']; done) | exact IsArr.ones hW (by omega) | exact IsArr.ones hP (by omega) | exact IsArr.ones hS (by omega) | exact IsArr.ones hH (by omega) | exact IsArr.ones hL (by omega) | exact IsArr.ones hB (by omega) | exact IsArr.ones hT (by omega) | exact IsArr.ones hm (by omega)) rfl ?_
  refine WL.nil ?_
  refine Kseq.go (W.seq ?_)
  refine W.region ?_; refine .val (.loadBW rfl (.tail _ (.tail _ (.head _))) rfl) rfl rfl rfl ?_; refine .val (.loadBW rfl (.tail _ (.head _)) rfl) rfl rfl rfl ?_; refine .val (.loadBW rfl (.tail _ (.head _)) rfl) rfl rfl rfl ?_
  refine WL.abs (OpAbs.lit [_, _, _, _] rfl (Nat.le_of_ble_eq_true rfl) rfl rfl (by simp [Value.cells]) (Nat.le_of_ble_eq_true rfl) rfl (by first | (simp [Value.oneCell']; done) | exact List.all_eq_true.1 rfl)) rfl rfl rfl ?_
  rintro m28 _ ⟨hc28, a28, rfl⟩
  refine .val (.loadBW rfl (.head _) rfl) rfl rfl rfl ?_; refine .val (.loadBW rfl (.head _) rfl) rfl rfl rfl ?_; refine .val (.loadBW rfl (.head _) rfl) rfl rfl rfl ?_
  refine WL.abs (OpAbs.lit [_, _, _, _, _, _] rfl (Nat.le_of_ble_eq_true rfl) rfl rfl (by simp [Value.cells]) (Nat.le_of_ble_eq_true rfl) rfl (by first | (simp [Value.oneCell']; done) | exact List.all_eq_true.1 rfl)) rfl rfl rfl ?_
  rintro m32 _ ⟨hc32, a32, rfl⟩
  refine .val (.build #[.slice (some ⟨a14, 0, none⟩) 2 2, .slice (some ⟨b21, 0, none⟩) 2 2, vi 0, .slice (some ⟨a28, 0, none⟩) 2 2, .slice (some ⟨a32, 0, none⟩) 3 3, vi 0, vi 3] rfl (by kernel_rfl)) rfl rfl rfl ?_
  (refine WL.store [_, _, _, _, _, _, _] rfl (.tail _ (.tail _ (.tail _ (.tail _ (.tail _ (.head _)))))) rfl rfl rfl (Nat.le_of_ble_eq_true rfl) (by simp [Value.cells, Value.oneCell']) rfl ?_)
  refine WL.nil ?_; refine Kseq.go ?_
  refine W.join fun mj hj => ?_
  have hWc : IsWomen mj (.slice (some ⟨a14, 0, none⟩) 2 2) exK.table.women := by
    refine IsArr.le ?_ (hj _ (by simp : m14 ∈ _))
    refine (hc14.2).congr fun i j hi hj' => ?_
    have h0 : i < 2 := hi
    have h1 : i = 0 ∨ i = 1 := by omega
    have h2 : j = 0 ∨ j = 1 ∨ j = 2 := by omega
    rcases h1 with rfl | rfl <;> rcases h2 with rfl | rfl | rfl <;> rfl
  have hHc : IsRgs mj (.slice (some ⟨a28, 0, none⟩) 2 2) exK.home := by
    refine IsArr.le ?_ (hj _ (by simp : m28 ∈ _))
    refine (hc28.2).congr fun i j hi hj' => ?_
    have h0 : i < 2 := hi
    have h1 : i = 0 ∨ i = 1 := by omega
    have h2 : j = 0 ∨ j = 1 := by omega
    rcases h1 with rfl | rfl <;> rcases h2 with rfl | rfl <;> rfl
  have hSc : IsRgs mj (.slice (some ⟨a32, 0, none⟩) 3 3) exK.streets := by
    refine IsArr.le ?_ (hj _ (by simp : m32 ∈ _))
    refine (hc32.2).congr fun i j hi hj' => ?_
    have h0 : i < 3 := hi
    have h1 : i = 0 ∨ i = 1 ∨ i = 2 := by omega
    have h2 : j = 0 ∨ j = 1 := by omega
    rcases h1 with rfl | rfl | rfl <;> rcases h2 with rfl | rfl <;> rfl
  refine W.ret ?_; skip
  refine ⟨.inl rfl, [_], [mj], [.row 74 2 (.slice (some ⟨b21, 0, none⟩) 2 2) 2 [.slice (some ⟨a15, 0, none⟩) 1 1, vi 1, .slice (some ⟨a18, 0, none⟩) 2 2, vi 0]], ⟨.agg inferInstance inferInstance rfl (.tail _ (.tail _ (.tail _ (.tail _ (.tail _ (.head _)))))) rfl, trivial⟩, ?_, by simp, .cons _ (.cons _ (.cons _ (.cons_cons _ (List.nil_sublist _)))), by simp [markOf]⟩
  exact ⟨mj, b21, a15, a18, _, _, _, rfl, rfl, rfl, hWc, (ints_lit (xs := [1]) hc15).le (hj _ (by simp)), hHc, hSc⟩
theorem best_exK {h : Mem} {v : Value} (hv : IsErrand h v exK) : FnR Try.prog 19 #[v] h (fun m q => ∃ lv, q = .tuple #[lv, vi 9, vi 0] ∧ IsInts m lv [0, 1, 0]) := by
  have := bestT_any hv exK_sm
  rwa [exK_best.1, if_pos rfl, if_pos rfl, exK_best.2.1, show foundC exK (some [0, 1, 0]) = (_, endingE exK [0, 1, 0]) from rfl, exK_best.2.2] at this
/-- known -/
theorem knownTop_any {h : Mem} : FnV Try.prog 37 #[] h (.bool true) := by
  refine FnR.val ?_
  refine FnR.of_W (n := 41) Try.func37 rfl rfl (Nat.le_of_ble_eq_true rfl) fun c hr hD hF => ?_
  refine W.seq ?_; refine W.region ?_; refine .o rfl ?_; refine WL.nil ?_
  refine Kseq.go (W.seq ?_)
  refine W.region ?_
  (refine WL.callM rfl rfl (M0 := []) (by simp) (Split.none _) rfl exchangedP_any rfl rfl rfl ?_; rintro v5 M1 x1 ⟨mP, bP, y0, y1, wv, hv, sv, rfl, rfl, rfl, hWP, h0P, hHP, hSP⟩)
  refine WL.alloc rfl rfl rfl (fun b1 => ?_)
  (refine WL.store [_, _, _, _, _, _, _] rfl (.head _) rfl rfl rfl (Nat.le_of_ble_eq_true rfl) (by simp [Value.cells, Value.oneCell']; exact ⟨IsArr.one hWP, IsArr.one hHP, IsArr.one hSP⟩) rfl ?_)
  refine WL.nil ?_
  refine Kseq.go (W.seq ?_)
  refine W.region ?_; refine .val (.fieldAddrB rfl) rfl rfl rfl ?_; refine .val (.fieldAddrB rfl) rfl rfl rfl ?_; refine .val (.loadB rfl (.head _) rfl) rfl rfl rfl ?_
  refine WL.abs (OpAbs.lit [_] rfl (Nat.le_of_ble_eq_true rfl) rfl rfl (by simp [Value.cells]) (Nat.le_of_ble_eq_true rfl) rfl (by first | (simp [Value.oneCell']; done) | exact List.all_eq_true.1 rfl)) rfl rfl rfl ?_
  rintro m9 _ ⟨hc9, a9, rfl⟩
  refine .val (.indexAddrR rfl rfl (.tail _ (.head _)) (by decide)) rfl rfl rfl ?_; refine .val (.fieldAddrR rfl (.tail _ (.head _)) (by decide)) rfl rfl rfl ?_
  (refine WL.storeR (T := 74) (k := 2) rfl (.tail _ (.head _)) rfl rfl rfl (by decide) (Nat.le_of_ble_eq_true rfl) (by simp [Value.cells, Value.oneCell']) ?_)
  refine WL.nil ?_
  refine Kseq.go (W.seq ?_)
  refine W.freezeBox (.head _) (fun b hb => (hF b hb).elim) fun n1 hb1 => ?_
  refine W.freezeRow (.head _) (fun b hb => (hF b hb).elim) (List.all_eq_true.1 rfl) fun rP hrP => ?_
  refine W.join fun mz hz => ?_
  have h1z := hb1.le (hz n1 (by simp))
  let F : Nat → Value := fun i => [.slice (some ⟨y0, 0, none⟩) 1 1, .slice (some ⟨a9, 0, none⟩) 1 1].getD i undef
  have hPz : IsPieces mz (.slice (some ⟨bP, 0, none⟩) 2 2) F exK.table.pieces := by
    refine IsArr.le ?_ (hz _ (by simp : rP ∈ _))
    refine (hrP).congr fun i j hi hj' => ?_
    have h0 : i < 2 := hi
    have h1 : i = 0 ∨ i = 1 := by omega
    have h2 : j = 0 ∨ j = 1 := by omega
    rcases h1 with rfl | rfl <;> rcases h2 with rfl | rfl <;> rfl
  have hMz : IsMarks mz F exK.table.pieces := by
    intro i hi
    have h0 : i < 2 := hi
    have h1 : i = 0 ∨ i = 1 := by omega
    rcases h1 with rfl | rfl
    · exact h0P.le (hz mP (by simp))
    · exact (ints_lit (xs := [2]) hc9).le (hz _ (by simp))
  have hX : IsErrand mz (.agg #[wv, .slice (some ⟨bP, 0, none⟩) 2 2, vi 0, hv, sv, vi 0, vi 3]) exK := ⟨wv, _, hv, sv, F, rfl, hWP.le (hz mP (by simp)), hPz, hMz, hHP.le (hz mP (by simp)), hSP.le (hz mP (by simp))⟩
  clear hz
  refine W.weaken [(1, .pointer (some ⟨b1, 0, none⟩))] [mz] [] (by repeat (first | exact trivial | refine ⟨rfl, ?_⟩)) (by simp) (List.nil_sublist _) ?_; refine W.region ?_; refine .val (.loadPW rfl h1z (by repeat constructor) rfl) rfl rfl rfl ?_; refine WL.abs (OpAbs.call rfl (fun m hm => best_exK (hX.le (by repeat first | exact hm.1 | replace hm := hm.2)))) rfl rfl rfl ?_
  rintro m14 _ ⟨lv, rfl, hl⟩
  iterate 7 refine .o rfl ?_
  refine WL.nil ?_
  refine Kseq.go (W.seq ?_)
  refine W.region ?_
  iterate 4 refine .o rfl ?_
  refine .val (.cast (.len rfl hl) (show _ = vi 3 from rfl)) rfl rfl rfl ?_
  iterate 4 refine .o rfl ?_
  refine .val (.indexAddrN rfl rfl hl (by simp)) rfl rfl rfl ?_; refine .val (.cast (.loadE rfl hl (by repeat constructor) (by simp) (by omega)) (show _ = vi 0 from rfl)) rfl rfl rfl ?_
  iterate 4 refine .o rfl ?_
  refine .val (.indexAddrN rfl rfl hl (by simp)) rfl rfl rfl ?_; refine .val (.cast (.loadE rfl hl (by repeat constructor) (by simp) (by omega)) (show _ = vi 1 from rfl)) rfl rfl rfl ?_
  iterate 7 refine .o rfl ?_
  refine WL.nil ?_; refine Kseq.go ?_
  refine W.ret ?_; refine ⟨.inl rfl, [_], mz, ⟨.tmp rfl, trivial⟩, (by repeat constructor), ?_⟩
  rfl
end Go.Proofs.Ytppkhehbkoeinaa
