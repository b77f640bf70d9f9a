/- The statements' own functions of chapter 3, on: their contracts. -/
import Derived.Test.YtgolpbkapphciaaT10
namespace Go.Proofs.Ytgolpbkapphciaa
open Go Go.Eng Go.RowKit

theorem IsLists.nil (m : Mem) : IsLists m (.slice none 0 0) [] := ⟨[], AllInts.nil m, IsArr.nil m 1 _⟩
/-- sure -/
theorem sure_any {h : Mem} {v : Value} {t : Table} (hv : IsTable h v t) (hs : Sm t) : FnR Try.prog 25 #[v] h (fun m r => ∃ av, r = .tuple #[av, vi (sureE t)] ∧ IsLists m av (sureL t)) := by
  have hv' := hv
  obtain ⟨wv, pv, f, rfl, hW, hP, hM⟩ := hv
  refine FnR.of_W (n := 17) Try.func25 rfl rfl (Nat.le_of_ble_eq_true rfl) fun c hr hD hF => ?_
  refine W.seq ?_
  refine W.region ?_
  refine WL.box rfl rfl rfl rfl (fun b1 => ?_)
  refine WL.val (OpVal.opv rfl) rfl rfl rfl ?_
  refine WL.val (OpVal.opv rfl) rfl rfl rfl ?_
  refine WL.nil ?_
  refine Kseq.go (W.seq (W.seq ?_))
  skip
  refine W.region ?_
  refine WL.val (OpVal.loadBW rfl (.head _) rfl) rfl rfl rfl ?_
  refine WL.val (OpVal.call rfl (fun m hm => fault_any (hv'.le (by repeat (first | exact hm.1 | replace hm := hm.2))) hs)) rfl rfl rfl ?_
  refine WL.val (OpVal.opv rfl) rfl rfl rfl ?_
  refine WL.nil ?_
  refine Kseq.go (W.seq ?_)
  skip
  refine W.region ?_
  refine WL.val (OpVal.opv rfl) rfl rfl rfl ?_
  refine WL.val (OpVal.opv rfl) rfl rfl rfl ?_
  refine WL.nil ?_
  refine Kseq.go ?_
  refine W.cond rfl rfl (fun h1 => ?_) (fun h1 => ?_)
  · refine W.seq ?_
    refine W.region ?_
    refine WL.val (OpVal.opv rfl) rfl rfl rfl ?_
    refine WL.val (OpVal.opv rfl) rfl rfl rfl ?_
    refine WL.val (OpVal.opv rfl) rfl rfl rfl ?_
    refine WL.nil ?_
    refine Kseq.go ?_
    have h1' : ¬ fault t = 0 := by simpa using h1
    refine W.ret ?_; refine Kseq.ret ?_; refine ⟨.inl rfl, [_, _], h, ⟨.tmp rfl, .tmp rfl, trivial⟩, (by repeat (first | exact .head _ | refine .tail _ ?_)), ?_⟩
    refine ⟨_, congrArg (fun e => Value.tuple #[_, vi e]) (by unfold sureE; rw [if_neg h1']), ?_⟩
    unfold sureL
    rw [if_neg h1']
    exact IsLists.nil h
  have h1' : fault t = 0 := by simpa using h1
  refine W.skip (Kseq.go (W.seq ?_))
  refine W.region ?_
  refine WL.val (OpVal.loadBW rfl (.head _) rfl) rfl rfl rfl ?_
  refine WL.abs (OpAbs.call rfl (fun m hm => truths_any (hv'.le (by repeat (first | exact hm.1 | replace hm := hm.2))) hs (fault_zero.1 h1').owned)) rfl rfl rfl ?_
  rintro m12 v12 h12
  refine WL.val (OpVal.opv rfl) rfl rfl rfl ?_
  refine WL.nil ?_
  refine Kseq.go (W.seq (W.seq ?_))
  obtain ⟨vs, hA, hav⟩ := h12
  skip
  refine W.region ?_
  refine WL.val (OpVal.opv rfl) rfl rfl rfl ?_
  refine WL.val (OpVal.len rfl (by assumption)) rfl rfl rfl ?_
  refine WL.val (OpVal.opv rfl) rfl rfl rfl ?_
  refine WL.nil ?_
  refine Kseq.go ?_
  refine W.condD rfl rfl (fun h2 => ?_) (fun h2 => ?_)
  · refine W.seq ?_
    refine W.region ?_
    refine WL.val (OpVal.opv rfl) rfl rfl rfl ?_
    refine WL.val (OpVal.opv rfl) rfl rfl rfl ?_
    refine WL.nil ?_
    refine Kseq.go ?_
    have h2' : truths t = [] := List.eq_nil_of_length_eq_zero (by omega)
    refine W.ret ?_; refine Kseq.ret ?_; refine ⟨.inl rfl, [_, _], h, ⟨.tmp rfl, .tmp rfl, trivial⟩, (by repeat (first | exact .head _ | refine .tail _ ?_)), ?_⟩
    refine ⟨_, congrArg (fun e => Value.tuple #[_, vi e]) (by unfold sureE; rw [if_pos h1', if_pos h2']), ?_⟩
    unfold sureL
    rw [if_pos h1', h2']
    exact IsLists.nil h
  · refine W.skip (Kseq.go (W.seq ?_))
    refine W.region ?_
    refine WL.val (OpVal.opv rfl) rfl rfl rfl ?_
    refine WL.val (OpVal.opv rfl) rfl rfl rfl ?_
    refine WL.val (OpVal.opv rfl) rfl rfl rfl ?_
    refine WL.nil ?_
    refine Kseq.go ?_
    have h2' : truths t ≠ [] := fun e => h2 (by rw [e]; rfl)
    refine W.ret ?_; skip; refine ⟨.inl rfl, [_, _], m12, ⟨.tmp rfl, .tmp rfl, trivial⟩, (by repeat (first | exact .head _ | refine .tail _ ?_)), ?_⟩
    refine ⟨_, congrArg (fun e => Value.tuple #[_, vi e]) (by unfold sureE; rw [if_pos h1', if_neg h2']), ?_⟩
    unfold sureL
    rw [if_pos h1']
    exact ⟨vs, hA, hav⟩

/-- between -/
theorem between_any {h : Mem} (low high : Int) : FnV Try.prog 65 #[vi low, vi high] h (.agg #[vi low, vi high]) := by
  refine FnR.val ?_
  refine FnR.of_W (n := 8) Try.func65 rfl rfl (Nat.le_of_ble_eq_true rfl) fun c hr hD hF => ?_
  refine W.seq ?_
  refine W.region ?_
  refine WL.alloc rfl rfl rfl (fun b4 => ?_)
  refine WL.nil ?_
  refine Kseq.go (W.seq ?_)
  skip
  refine W.region ?_
  refine WL.val (OpVal.opv rfl) rfl rfl rfl ?_
  refine WL.val (OpVal.opv rfl) rfl rfl rfl ?_
  refine WL.val (OpVal.build2 rfl rfl) rfl rfl rfl ?_
  refine WL.store [_, _] rfl (.head _) rfl rfl rfl (Nat.le_of_ble_eq_true rfl) (by first | (simp [Value.cells, Value.oneCell']; done) | exact IsArr.ones hW (by omega) | exact IsArr.ones hP (by omega)) rfl ?_
  refine WL.nil ?_
  refine Kseq.go ?_
  refine W.ret ?_; skip
  exact ⟨.inl rfl, [_], h, ⟨.agg inferInstance inferInstance rfl (.head _) rfl, trivial⟩, .head _, rfl⟩

theorem ints_lit {m : Mem} {v : Value} {xs : List Int} {n : Nat} (h : IsCells m 1 v n (xs.map vi)) : IsInts m v xs := by
  have hn : n = xs.length := by have := h.1; simp at this; omega
  subst hn
  exact ints_of_cells h.2

/-- best -/
theorem bestL_any {h : Mem} : FnR Try.prog 67 #[] h (fun m r => IsInts m r [0, 0, 1, 2]) := by
  refine FnR.of_W (n := 2) Try.func67 rfl rfl (Nat.le_of_ble_eq_true rfl) fun c hr hD hF => ?_
  refine W.seq ?_
  refine W.region ?_
  refine WL.val (OpVal.opv rfl) rfl rfl rfl ?_
  refine WL.nil ?_
  refine Kseq.go (W.seq ?_)
  skip
  refine W.region ?_
  refine WL.abs (OpAbs.lit [_, _, _, _] rfl (Nat.le_of_ble_eq_true rfl) rfl rfl (by simp [Value.cells]) (Nat.le_of_ble_eq_true rfl) rfl (by first | (simp [Value.oneCell']; done) | exact List.all_eq_true.1 rfl)) rfl rfl rfl ?_
  rintro m1 _ ⟨hc1, a1, rfl⟩
  refine WL.val (OpVal.opv rfl) rfl rfl rfl ?_
  refine WL.nil ?_
  refine Kseq.go ?_
  refine W.ret ?_; skip; refine ⟨.inl rfl, [_], m1, ⟨.tmp rfl, trivial⟩, (by repeat (first | exact .head _ | refine .tail _ ?_)), ?_⟩
  exact ints_lit (xs := [0, 0, 1, 2]) hc1

/-- three -/
theorem three_any {h : Mem} (first last wrong : Int) : FnR Try.prog 66 #[vi first, vi last, vi wrong] h (fun m r => IsTable m r (threeT first last wrong)) := by
  refine FnR.of_W (n := 29) Try.func66 rfl rfl (Nat.le_of_ble_eq_true rfl) fun c hr hD hF => ?_
  refine W.seq ?_
  refine W.region ?_
  refine WL.alloc rfl rfl rfl (fun b6 => ?_)
  refine WL.nil ?_
  refine Kseq.go (W.seq ?_)
  skip
  refine W.region ?_
  refine WL.val (OpVal.opv rfl) rfl rfl rfl ?_
  refine WL.val (OpVal.opv rfl) rfl rfl rfl ?_
  refine WL.val (OpVal.call rfl (fun m hm => between_any _ _)) rfl rfl rfl ?_
  refine WL.val (OpVal.build3 rfl rfl) rfl rfl rfl ?_
  refine WL.val (OpVal.call rfl (fun m hm => between_any _ _)) rfl rfl rfl ?_
  refine WL.val (OpVal.build3 rfl rfl) rfl rfl rfl ?_
  refine WL.val (OpVal.opv rfl) rfl rfl rfl ?_
  refine WL.val (OpVal.opv rfl) rfl rfl rfl ?_
  refine WL.val (OpVal.call rfl (fun m hm => between_any _ _)) rfl rfl rfl ?_
  refine WL.val (OpVal.build3 rfl rfl) rfl rfl rfl ?_
  refine WL.abs (OpAbs.lit [_, _, _, _, _, _, _, _, _] rfl (Nat.le_of_ble_eq_true rfl) rfl rfl (by simp [Value.cells]) (Nat.le_of_ble_eq_true rfl) rfl (by first | (simp [Value.oneCell']; done) | exact List.all_eq_true.1 rfl)) rfl rfl rfl ?_
  rintro m17 _ ⟨hc17, a17, rfl⟩
  refine WL.abs (OpAbs.lit [_] rfl (Nat.le_of_ble_eq_true rfl) rfl rfl (by simp [Value.cells]) (Nat.le_of_ble_eq_true rfl) rfl (by first | (simp [Value.oneCell']; done) | exact List.all_eq_true.1 rfl)) rfl rfl rfl ?_
  rintro m18 _ ⟨hc18, a18, rfl⟩
  refine WL.val (OpVal.build2 rfl rfl) rfl rfl rfl ?_
  refine WL.abs (OpAbs.lit [_, _] rfl (Nat.le_of_ble_eq_true rfl) rfl rfl (by simp [Value.cells]) (Nat.le_of_ble_eq_true rfl) rfl (by first | (simp [Value.oneCell']; done) | exact List.all_eq_true.1 rfl)) rfl rfl rfl ?_
  rintro m20 _ ⟨hc20, a20, rfl⟩
  refine WL.val (OpVal.build2 rfl rfl) rfl rfl rfl ?_
  refine WL.abs (OpAbs.lit [_] rfl (Nat.le_of_ble_eq_true rfl) rfl rfl (by simp [Value.cells]) (Nat.le_of_ble_eq_true rfl) rfl (by first | (simp [Value.oneCell']; done) | exact List.all_eq_true.1 rfl)) rfl rfl rfl ?_
  rintro m22 _ ⟨hc22, a22, rfl⟩
  refine WL.val (OpVal.build2 rfl rfl) rfl rfl rfl ?_
  refine WL.abs (OpAbs.lit [_] rfl (Nat.le_of_ble_eq_true rfl) rfl rfl (by simp [Value.cells]) (Nat.le_of_ble_eq_true rfl) rfl (by first | (simp [Value.oneCell']; done) | exact List.all_eq_true.1 rfl)) rfl rfl rfl ?_
  rintro m24 _ ⟨hc24, a24, rfl⟩
  refine WL.val (OpVal.build2 rfl rfl) rfl rfl rfl ?_
  refine WL.abs (OpAbs.lit [_, _, _, _, _, _, _, _] rfl (Nat.le_of_ble_eq_true rfl) rfl rfl (by simp [Value.cells]) (Nat.le_of_ble_eq_true rfl) rfl (by first | (simp [Value.oneCell']; done) | exact List.all_eq_true.1 rfl)) rfl rfl rfl ?_
  rintro m26 _ ⟨hc26, a26, rfl⟩
  refine WL.val (OpVal.opv rfl) rfl rfl rfl ?_
  refine WL.val (OpVal.build3 rfl rfl) rfl rfl rfl ?_
  refine WL.store [_, _, _] rfl (.head _) rfl rfl rfl (Nat.le_of_ble_eq_true rfl) (by first | (simp [Value.cells, Value.oneCell']; done) | exact IsArr.ones hW (by omega) | exact IsArr.ones hP (by omega)) rfl ?_
  refine WL.nil ?_
  refine Kseq.go ?_
  refine W.join fun mj hj => ?_
  refine W.ret ?_; skip
  refine ⟨.inl rfl, [_], mj, ⟨.agg inferInstance inferInstance rfl (.head _) rfl, trivial⟩, .head _, ?_⟩
  refine ⟨_, _, fun i => [.slice (some ⟨a18, 0, none⟩) 1 1, .slice (some ⟨a20, 0, none⟩) 2 2, .slice (some ⟨a22, 0, none⟩) 1 1, .slice (some ⟨a24, 0, none⟩) 1 1].getD i undef, rfl, ?_, ?_, ?_⟩
  · refine ((hc17.2).congr fun i j hi hj => ?_).le (hj _ (by simp))
    have h1 : i = 0 ∨ i = 1 ∨ i = 2 := by omega
    have h2 : j = 0 ∨ j = 1 ∨ j = 2 := by omega
    rcases h1 with rfl | rfl | rfl <;> rcases h2 with rfl | rfl | rfl <;> rfl
  · refine ((hc26.2).congr fun i j hi hj => ?_).le (hj _ (by simp))
    have h1 : i = 0 ∨ i = 1 ∨ i = 2 ∨ i = 3 := by omega
    have h2 : j = 0 ∨ j = 1 := by omega
    rcases h1 with rfl | rfl | rfl | rfl <;> rcases h2 with rfl | rfl <;> rfl
  · intro i hi
    have h1 : i = 0 ∨ i = 1 ∨ i = 2 ∨ i = 3 := by simp [threeT] at hi; omega
    rcases h1 with rfl | rfl | rfl | rfl
    · exact (ints_lit (xs := [1]) hc18).le (hj _ (by simp))
    · exact (ints_lit (xs := [1, 2]) hc20).le (hj _ (by simp))
    · exact (ints_lit (xs := [1]) hc22).le (hj _ (by simp))
    · exact (ints_lit (xs := [2]) hc24).le (hj _ (by simp))
end Go.Proofs.Ytgolpbkapphciaa
