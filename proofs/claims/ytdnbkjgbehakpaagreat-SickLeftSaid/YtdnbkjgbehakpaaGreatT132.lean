/- The statements' functions of chapter 6: the examples' house. -/
import Derived.Test.YtdnbkjgbehakpaaGreatP34
import Derived.Test.YtdnbkjgbehakpaaGreatT131
import Derived.Test.YtdnbkjgbehakpaaGreatT7
namespace Go.Proofs.YtdnbkjgbehakpaaGreat
open Go Go.Eng Go.RowKit

/-- between -/
theorem between6_any {h : Mem} (a b : Int) : FnV Tryz.prog 135 #[vi a, vi b] h (.agg #[vi a, vi b]) := by
  refine FnR.val ?_
  refine FnR.of_W (n := 8) Tryz.func135 rfl rfl (Nat.le_of_ble_eq_true rfl) fun c hr hD hF => ?_
  refine W.seq ?_
  refine W.region ?_
  refine WL.alloc rfl rfl rfl (fun b4 => ?_)
  refine WL.nil ?_
  refine Kseq.go (W.seq ?_)
  skip
  refine W.region ?_
  refine WL.val (OpVal.opv rfl) rfl rfl rfl ?_
  refine WL.val (OpVal.opv rfl) rfl rfl rfl ?_
  refine WL.val (OpVal.build2 rfl rfl) rfl rfl rfl ?_
  refine WL.store [_, _] rfl (.head _) rfl rfl rfl (Nat.le_of_ble_eq_true rfl) (by first | (simp [Value.cells, Value.oneCell']; done) | exact IsArr.ones hW (by omega) | exact IsArr.ones hP (by omega) | exact IsArr.ones hS (by omega) | exact IsArr.ones hH (by omega) | exact IsArr.ones hL (by omega) | exact IsArr.ones hB (by omega) | exact IsArr.ones hT (by omega) | exact IsArr.ones hm (by omega)) rfl ?_
  refine WL.nil ?_
  refine Kseq.go ?_
  refine W.ret ?_; skip
  refine ⟨.inl rfl, [_], h, ⟨.agg inferInstance inferInstance rfl (.head _) rfl, trivial⟩, (by repeat (first | exact .head _ | refine .tail _ ?_)), ?_⟩
  rfl
/-- passed -/
theorem passed6_any {h : Mem} (a b : Int) : FnR Tryz.prog 93 #[vi a, vi b] h (fun m q => IsCourseV m q (passH a b)) := by
  refine FnR.of_W (n := 10) Tryz.func93 rfl rfl (Nat.le_of_ble_eq_true rfl) fun c hr hD hF => ?_
  refine W.seq ?_
  refine W.region ?_
  refine WL.alloc rfl rfl rfl (fun b4 => ?_)
  refine WL.nil ?_
  refine Kseq.go (W.seq ?_)
  skip
  refine W.region ?_
  refine WL.abs (OpAbs.lit [_, _, _, _] rfl (Nat.le_of_ble_eq_true rfl) rfl rfl (by simp [Value.cells]) (Nat.le_of_ble_eq_true rfl) rfl (by first | (simp [Value.oneCell']; done) | exact List.all_eq_true.1 rfl)) rfl rfl rfl ?_
  rintro m5 _ ⟨hc5, a5, rfl⟩
  refine WL.val (OpVal.opv rfl) rfl rfl rfl ?_
  refine WL.val (OpVal.opv rfl) rfl rfl rfl ?_
  refine WL.abs (OpAbs.lit [_, _, _] rfl (Nat.le_of_ble_eq_true rfl) rfl rfl (by simp [Value.cells]) (Nat.le_of_ble_eq_true rfl) rfl (by first | (simp [Value.oneCell']; done) | exact List.all_eq_true.1 rfl)) rfl rfl rfl ?_
  rintro m8 _ ⟨hc8, a8, rfl⟩
  refine WL.val (OpVal.build2 rfl rfl) rfl rfl rfl ?_
  refine WL.store [_, _] rfl (.head _) rfl rfl rfl (Nat.le_of_ble_eq_true rfl) (by first | (simp [Value.cells, Value.oneCell']; done) | exact IsArr.ones hW (by omega) | exact IsArr.ones hP (by omega) | exact IsArr.ones hS (by omega) | exact IsArr.ones hH (by omega) | exact IsArr.ones hL (by omega) | exact IsArr.ones hB (by omega) | exact IsArr.ones hT (by omega) | exact IsArr.ones hm (by omega)) rfl ?_
  refine WL.nil ?_
  refine Kseq.go ?_
  refine W.join fun mj hj => ?_
  refine W.ret ?_; skip
  refine ⟨.inl rfl, [_], mj, ⟨.agg inferInstance inferInstance rfl (.head _) rfl, trivial⟩, .head _, ?_⟩
  exact ⟨_, _, rfl, (ints_lit (xs := [0, 0, 1, 2]) hc5).le (hj _ (by simp)), (ints_lit (xs := [a, b, 2]) hc8).le (hj _ (by simp))⟩
def tubT : List Touch := [⟨3, 4, 0, 1⟩, ⟨4, 0, 0, 1⟩, ⟨0, 1, 2, 2⟩]
def tubS : List Sign := [⟨0, false⟩, ⟨1, true⟩]
theorem touches_lit {m : Mem} {v : Value} (h : IsCells m 4 v 3 [vi 3, vi 4, vi 0, vi 1, vi 4, vi 0, vi 0, vi 1, vi 0, vi 1, vi 2, vi 2]) : IsTouches m v tubT := by
  refine (h.2).congr fun i j hi hj => ?_
  have hi3 : i < 3 := hi
  have h1 : i = 0 ∨ i = 1 ∨ i = 2 := by omega
  have h2 : j = 0 ∨ j = 1 ∨ j = 2 ∨ j = 3 := by omega
  rcases h1 with rfl | rfl | rfl <;> rcases h2 with rfl | rfl | rfl | rfl <;> rfl
theorem signs_lit {m : Mem} {v : Value} (h : IsCells m 2 v 2 [vi 0, .bool false, vi 1, .bool true]) : IsSigns m v tubS := by
  refine (h.2).congr fun i j hi hj => ?_
  have hi3 : i < 2 := hi
  have h1 : i = 0 ∨ i = 1 := by omega
  have h2 : j = 0 ∨ j = 1 := by omega
  rcases h1 with rfl | rfl <;> rcases h2 with rfl | rfl <;> rfl
theorem signs_pre {m : Mem} {v : Value} {ss : List Sign} (hS : IsSigns m v ss) {k : Nat} (hk : k ≤ ss.length) : IsSigns m (subV 2 0 k v) (ss.take k) := by
  have hsub := IsArr.sub hS (lo := 0) (hi := k) (Nat.zero_le _) hk
  have e : (ss.take k).length = k - 0 := by rw [List.length_take]; omega
  unfold IsSigns
  rw [e]
  refine hsub.congr fun i j hi hj => ?_
  rw [signs_take (show i < k by omega), Nat.zero_add]
/-- tub -/
theorem tub6_any {h : Mem} {n : Nat} (hn : n ≤ 2) : FnR Tryz.prog 92 #[vi n] h (fun m q => IsHouse m q (tubH n)) := by
  refine FnR.of_W (n := 38) Tryz.func92 rfl rfl (Nat.le_of_ble_eq_true rfl) fun c hr hD hF => ?_
  refine W.seq ?_
  refine W.region ?_
  refine WL.alloc rfl rfl rfl (fun b2 => ?_)
  refine WL.nil ?_
  refine Kseq.go (W.seq ?_)
  skip
  refine W.region ?_
  refine WL.val (OpVal.build2 rfl rfl) rfl rfl rfl ?_
  refine WL.val (OpVal.build2 rfl rfl) rfl rfl rfl ?_
  refine WL.abs (OpAbs.lit [_, _, _, _] rfl (Nat.le_of_ble_eq_true rfl) rfl rfl (by simp [Value.cells]) (Nat.le_of_ble_eq_true rfl) rfl (by first | (simp [Value.oneCell']; done) | exact List.all_eq_true.1 rfl)) rfl rfl rfl ?_
  rintro m7 _ ⟨hc7, a7, rfl⟩
  refine WL.val (OpVal.opv rfl) rfl rfl rfl ?_
  refine WL.nil ?_
  refine Kseq.go (W.seq ?_)
  have hS7 := signs_lit hc7
  skip
  refine W.region ?_
  refine WL.val (OpVal.build2 rfl rfl) rfl rfl rfl ?_
  refine WL.val (OpVal.build3 rfl rfl) rfl rfl rfl ?_
  refine WL.val (OpVal.build2 rfl rfl) rfl rfl rfl ?_
  refine WL.val (OpVal.build3 rfl rfl) rfl rfl rfl ?_
  refine WL.val (OpVal.build2 rfl rfl) rfl rfl rfl ?_
  refine WL.val (OpVal.build3 rfl rfl) rfl rfl rfl ?_
  refine WL.abs (OpAbs.lit [_, _, _, _, _, _, _, _, _] rfl (Nat.le_of_ble_eq_true rfl) rfl rfl (by simp [Value.cells]) (Nat.le_of_ble_eq_true rfl) rfl (by first | (simp [Value.oneCell']; done) | exact List.all_eq_true.1 rfl)) rfl rfl rfl ?_
  rintro m14 _ ⟨hc14, a14, rfl⟩
  refine WL.abs (OpAbs.lit [_] rfl (Nat.le_of_ble_eq_true rfl) rfl rfl (by simp [Value.cells]) (Nat.le_of_ble_eq_true rfl) rfl (by first | (simp [Value.oneCell']; done) | exact List.all_eq_true.1 rfl)) rfl rfl rfl ?_
  rintro m15 _ ⟨hc15, a15, rfl⟩
  refine WL.val (OpVal.build2 rfl rfl) rfl rfl rfl ?_
  refine WL.abs (OpAbs.lit [_, _] rfl (Nat.le_of_ble_eq_true rfl) rfl rfl (by simp [Value.cells]) (Nat.le_of_ble_eq_true rfl) rfl (by first | (simp [Value.oneCell']; done) | exact List.all_eq_true.1 rfl)) rfl rfl rfl ?_
  rintro m17 _ ⟨hc17, a17, rfl⟩
  refine WL.val (OpVal.build2 rfl rfl) rfl rfl rfl ?_
  refine WL.abs (OpAbs.lit [_] rfl (Nat.le_of_ble_eq_true rfl) rfl rfl (by simp [Value.cells]) (Nat.le_of_ble_eq_true rfl) rfl (by first | (simp [Value.oneCell']; done) | exact List.all_eq_true.1 rfl)) rfl rfl rfl ?_
  rintro m19 _ ⟨hc19, a19, rfl⟩
  refine WL.val (OpVal.build2 rfl rfl) rfl rfl rfl ?_
  refine WL.abs (OpAbs.lit [_] rfl (Nat.le_of_ble_eq_true rfl) rfl rfl (by simp [Value.cells]) (Nat.le_of_ble_eq_true rfl) rfl (by first | (simp [Value.oneCell']; done) | exact List.all_eq_true.1 rfl)) rfl rfl rfl ?_
  rintro m21 _ ⟨hc21, a21, rfl⟩
  refine WL.val (OpVal.build2 rfl rfl) rfl rfl rfl ?_
  refine WL.abs (OpAbs.lit [_, _, _, _, _, _, _, _] rfl (Nat.le_of_ble_eq_true rfl) rfl rfl (by simp [Value.cells]) (Nat.le_of_ble_eq_true rfl) rfl (by first | (simp [Value.oneCell']; done) | exact List.all_eq_true.1 rfl)) rfl rfl rfl ?_
  rintro m23 _ ⟨hc23, a23, rfl⟩
  refine WL.val (OpVal.build3 rfl rfl) rfl rfl rfl ?_
  refine WL.alloc rfl rfl rfl (fun b4 => ?_)
  refine WL.store [_, _, _] rfl (.head _) rfl rfl rfl (Nat.le_of_ble_eq_true rfl) (by first | (simp [Value.cells, Value.oneCell']; done) | exact IsArr.ones hW (by omega) | exact IsArr.ones hP (by omega) | exact IsArr.ones hS (by omega) | exact IsArr.ones hH (by omega) | exact IsArr.ones hL (by omega) | exact IsArr.ones hB (by omega) | exact IsArr.ones hT (by omega) | exact IsArr.ones hm (by omega)) rfl ?_
  refine WL.nil ?_
  refine Kseq.go (W.seq ?_)
  let A37 : Mem → Value → Prop := fun m q => ∃ ka kc ta tc, q = .agg #[.slice (some ⟨a14, 0, none⟩) 3 3, .slice (some ⟨a23, 0, none⟩) 4 4, vi 0, .slice ka 1 kc, vi 1, vi 2, .slice ta 3 tc, .slice none 0 0, subV 2 0 n (.slice (some ⟨a7, 0, none⟩) 2 2)] ∧ IsInts m (.slice ka 1 kc) [2] ∧ IsTouches m (.slice ta 3 tc) tubT
  skip
  refine W.draw 12 (by kernel_rfl) (by kernel_rfl) (by kernel_rfl) rfl ?_
  refine DJ.val [] (OpVal.loadBW rfl (.head _) rfl) rfl rfl rfl rfl ?_
  refine DJ.abs (A := fun m q => IsInts m q [2]) [] (OpAbs.mono (OpAbs.lit [vi 2] rfl (Nat.le_of_ble_eq_true rfl) rfl rfl (by simp [Value.cells]) (Nat.le_of_ble_eq_true rfl) rfl (by simp [Value.oneCell'])) (fun m' v' h' => ints_lit (xs := [2]) h'.1)) rfl rfl rfl rfl ?_
  refine DJ.val [] (OpVal.call rfl (fun m hm => between6_any _ _)) rfl rfl rfl rfl ?_
  refine DJ.val [] (OpVal.build #[vi 3, vi 4, vi 0, vi 1] rfl (by kernel_rfl)) rfl rfl rfl rfl ?_
  refine DJ.val [] (OpVal.call rfl (fun m hm => between6_any _ _)) rfl rfl rfl rfl ?_
  refine DJ.val [] (OpVal.build #[vi 4, vi 0, vi 0, vi 1] rfl (by kernel_rfl)) rfl rfl rfl rfl ?_
  refine DJ.val [] (OpVal.call rfl (fun m hm => between6_any _ _)) rfl rfl rfl rfl ?_
  refine DJ.val [] (OpVal.build #[vi 0, vi 1, vi 2, vi 2] rfl (by kernel_rfl)) rfl rfl rfl rfl ?_
  refine DJ.abs (A := fun m q => IsTouches m q tubT) [] (OpAbs.mono (OpAbs.lit [vi 3, vi 4, vi 0, vi 1, vi 4, vi 0, vi 0, vi 1, vi 0, vi 1, vi 2, vi 2] rfl (Nat.le_of_ble_eq_true rfl) rfl rfl (by simp [Value.cells]) (Nat.le_of_ble_eq_true rfl) rfl (by simp [Value.oneCell'])) (fun m' v' h' => touches_lit h'.1)) rfl rfl rfl rfl ?_
  refine DJ.val [] (OpVal.opv rfl) rfl rfl rfl rfl ?_
  refine DJ.val [] (OpVal.opv rfl) rfl rfl rfl rfl ?_
  refine DJ.val [] (OpVal.sliceH rfl rfl hS7 hn) rfl rfl rfl rfl ?_
  refine DJ.nil ?_
  rintro m33 v33 h33
  rintro m26 v26 h26
  refine WL.abs (by obtain ⟨ka, kc, rfl⟩ := IsArr.form h26; obtain ⟨ta, tc, rfl⟩ := IsArr.form h33; exact OpAbs.mono (B := A37) (OpAbs.join (OpAbs.ofVal (A := fun m x => x = Value.agg #[.slice (some ⟨a14, 0, none⟩) 3 3, .slice (some ⟨a23, 0, none⟩) 4 4, vi 0, .slice ka 1 kc, vi 1, vi 2, .slice ta 3 tc, .slice none 0 0, subV 2 0 n (.slice (some ⟨a7, 0, none⟩) 2 2)] ∧ IsInts m (.slice ka 1 kc) [2]) (OpVal.build #[.slice (some ⟨a14, 0, none⟩) 3 3, .slice (some ⟨a23, 0, none⟩) 4 4, vi 0, .slice ka 1 kc, vi 1, vi 2, .slice ta 3 tc, .slice none 0 0, subV 2 0 n (.slice (some ⟨a7, 0, none⟩) 2 2)] rfl (by kernel_rfl)) (m := m26) (by repeat (first | exact .head _ | refine .tail _ ?_)) ⟨rfl, h26⟩) (m := m33) (by repeat (first | exact .head _ | refine .tail _ ?_))) (fun m x hx => by obtain ⟨m1, l1, l2, e, hh⟩ := hx; exact ⟨_, _, _, _, e, hh.le l1, IsTouches.le h33 l2⟩)) rfl rfl rfl ?_
  rintro m37 v37 h37
  obtain ⟨ka, kc, ta, tc, rfl, hK, hT⟩ := h37
  (refine WL.store [_, _, _, _, _, _, _, _, _] rfl (.tail _ (.head _)) rfl rfl rfl (Nat.le_of_ble_eq_true rfl) (by simp [subV, Value.cells, Value.oneCell']) rfl ?_)
  refine WL.nil ?_
  refine Kseq.go ?_
  refine W.join fun mj hj => ?_
  refine W.ret ?_; skip
  refine ⟨.inl rfl, [_], mj, ⟨.agg inferInstance inferInstance rfl (.tail _ (.head _)) rfl, trivial⟩, .head _, ?_⟩
  refine ⟨_, _, _, _, _, _, fun i => [.slice (some ⟨a15, 0, none⟩) 1 1, .slice (some ⟨a17, 0, none⟩) 2 2, .slice (some ⟨a19, 0, none⟩) 1 1, .slice (some ⟨a21, 0, none⟩) 1 1].getD i undef, rfl, ⟨?_, ?_, ?_, hK.le (hj _ (by simp)), hT.le (hj _ (by simp)), IsBoils.nil _, (signs_pre hS7 hn).le (hj _ (by simp))⟩⟩
  · refine ((hc14.2).congr fun i j hi hj => ?_).le (hj _ (by simp))
    have h0 : i < 3 := hi
    have h1 : i = 0 ∨ i = 1 ∨ i = 2 := by omega
    have h2 : j = 0 ∨ j = 1 ∨ j = 2 := by omega
    rcases h1 with rfl | rfl | rfl <;> rcases h2 with rfl | rfl | rfl <;> rfl
  · refine ((hc23.2).congr fun i j hi hj => ?_).le (hj _ (by simp))
    have h0 : i < 4 := hi
    have h1 : i = 0 ∨ i = 1 ∨ i = 2 ∨ i = 3 := by omega
    have h2 : j = 0 ∨ j = 1 := by omega
    rcases h1 with rfl | rfl | rfl | rfl <;> rcases h2 with rfl | rfl <;> rfl
  · intro i hi
    have h0 : i < 4 := hi
    have h1 : i = 0 ∨ i = 1 ∨ i = 2 ∨ i = 3 := by omega
    rcases h1 with rfl | rfl | rfl | rfl
    · exact (ints_lit (xs := [1]) hc15).le (hj _ (by simp))
    · exact (ints_lit (xs := [1, 2]) hc17).le (hj _ (by simp))
    · exact (ints_lit (xs := [1]) hc19).le (hj _ (by simp))
    · exact (ints_lit (xs := [2]) hc21).le (hj _ (by simp))
end Go.Proofs.YtdnbkjgbehakpaaGreat
