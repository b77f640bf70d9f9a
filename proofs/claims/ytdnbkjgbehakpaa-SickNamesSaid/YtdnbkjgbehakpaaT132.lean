/- The statements' functions of chapter 6: the examples' house. -/
import Derived.Test.YtdnbkjgbehakpaaP34
import Derived.Test.YtdnbkjgbehakpaaT130
import Derived.Test.YtdnbkjgbehakpaaT7
namespace Go.Proofs.Ytdnbkjgbehakpaa
open Go Go.Eng Go.RowKit

/-- between -/
theorem between6_any {h : Mem} (a b : Int) : FnV Try.prog 16 #[vi a, vi b] h (.agg #[vi a, vi b]) := by
  refine FnR.val ?_
  refine FnR.of_W (n := 8) Try.func16 rfl rfl (Nat.le_of_ble_eq_true rfl) fun c hr hD hF => ?_
  refine W.seq ?_; refine W.region ?_
  refine WL.alloc rfl rfl rfl (fun b4 => ?_)
  refine WL.nil ?_
  refine Kseq.go (W.seq ?_)
  refine W.region ?_
  iterate 2 refine .o rfl ?_
  refine .val (.build2 rfl rfl) rfl rfl rfl ?_
  refine WL.store [_, _] rfl (.head _) rfl rfl rfl (Nat.le_of_ble_eq_true rfl) (by first | (simp [Value.cells, Value.oneCell']; done) | exact IsArr.ones hW (by omega) | exact IsArr.ones hP (by omega) | exact IsArr.ones hS (by omega) | exact IsArr.ones hH (by omega) | exact IsArr.ones hL (by omega) | exact IsArr.ones hB (by omega) | exact IsArr.ones hT (by omega) | exact IsArr.ones hm (by omega)) rfl ?_
  refine WL.nil ?_; refine Kseq.go ?_
  refine W.ret ?_; skip
  refine ⟨.inl rfl, [_], h, ⟨.agg inferInstance inferInstance rfl (.head _) rfl, trivial⟩, (by repeat constructor), ?_⟩
  rfl
/-- passed -/
theorem passed6_any {h : Mem} (a b : Int) : FnR Try.prog 6 #[vi a, vi b] h (fun m q => IsCourseV m q (passH a b)) := by
  refine FnR.of_W (n := 10) Try.func6 rfl rfl (Nat.le_of_ble_eq_true rfl) fun c hr hD hF => ?_
  refine W.seq ?_; refine W.region ?_
  refine WL.alloc rfl rfl rfl (fun b4 => ?_)
  refine WL.nil ?_
  refine Kseq.go (W.seq ?_)
  refine W.region ?_
  refine WL.abs (OpAbs.lit [_, _, _, _] rfl (Nat.le_of_ble_eq_true rfl) rfl rfl (by simp [Value.cells]) (Nat.le_of_ble_eq_true rfl) rfl (by first | (simp [Value.oneCell']; done) | exact List.all_eq_true.1 rfl)) rfl rfl rfl ?_
  rintro m5 _ ⟨hc5, a5, rfl⟩
  iterate 2 refine .o rfl ?_
  refine WL.abs (OpAbs.lit [_, _, _] rfl (Nat.le_of_ble_eq_true rfl) rfl rfl (by simp [Value.cells]) (Nat.le_of_ble_eq_true rfl) rfl (by first | (simp [Value.oneCell']; done) | exact List.all_eq_true.1 rfl)) rfl rfl rfl ?_
  rintro m8 _ ⟨hc8, a8, rfl⟩
  refine .val (.build2 rfl rfl) rfl rfl rfl ?_
  refine WL.store [_, _] rfl (.head _) rfl rfl rfl (Nat.le_of_ble_eq_true rfl) (by first | (simp [Value.cells, Value.oneCell']; done) | exact IsArr.ones hW (by omega) | exact IsArr.ones hP (by omega) | exact IsArr.ones hS (by omega) | exact IsArr.ones hH (by omega) | exact IsArr.ones hL (by omega) | exact IsArr.ones hB (by omega) | exact IsArr.ones hT (by omega) | exact IsArr.ones hm (by omega)) rfl ?_
  refine WL.nil ?_; refine Kseq.go ?_
  refine W.join fun mj hj => ?_
  refine W.ret ?_; skip
  refine ⟨.inl rfl, [_], mj, ⟨.agg inferInstance inferInstance rfl (.head _) rfl, trivial⟩, .head _, ?_⟩
  exact ⟨_, _, rfl, (ints_lit (xs := [0, 0, 1, 2]) hc5).le (hj _ (by simp)), (ints_lit (xs := [a, b, 2]) hc8).le (hj _ (by simp))⟩
def tubT : List Touch := [⟨3, 4, 0, 1⟩, ⟨4, 0, 0, 1⟩, ⟨0, 1, 2, 2⟩]
def tubS : List Sign := [⟨0, false⟩, ⟨1, true⟩]
theorem touches_lit {m : Mem} {v : Value} (h : IsCells m 4 v 3 [vi 3, vi 4, vi 0, vi 1, vi 4, vi 0, vi 0, vi 1, vi 0, vi 1, vi 2, vi 2]) : IsTouches m v tubT := by
  refine (h.2).congr fun i j hi hj => ?_
  have hi3 : i < 3 := hi
  have h1 : i = 0 ∨ i = 1 ∨ i = 2 := by omega
  have h2 : j = 0 ∨ j = 1 ∨ j = 2 ∨ j = 3 := by omega
  rcases h1 with rfl | rfl | rfl <;> rcases h2 with rfl | rfl | rfl | rfl <;> rfl
theorem signs_lit {m : Mem} {v : Value} (h : IsCells m 2 v 2 [vi 0, .bool false, vi 1, .bool true]) : IsSigns m v tubS := by
  refine (h.2).congr fun i j hi hj => ?_
  have hi3 : i < 2 := hi
  have h1 : i = 0 ∨ i = 1 := by omega
  have h2 : j = 0 ∨ j = 1 := by omega
  rcases h1 with rfl | rfl <;> rcases h2 with rfl | rfl <;> rfl
theorem signs_pre {m : Mem} {v : Value} {ss : List Sign} (hS : IsSigns m v ss) {k : Nat} (hk : k ≤ ss.length) : IsSigns m (subV 2 0 k v) (ss.take k) := by
  have hsub := IsArr.sub hS (lo := 0) (hi := k) (Nat.zero_le _) hk
  have e : (ss.take k).length = k - 0 := by rw [List.length_take]; omega
  unfold IsSigns
  rw [e]
  refine hsub.congr fun i j hi hj => ?_
  rw [signs_take (show i < k by omega), Nat.zero_add]
/-- tub -/
theorem tub6_any {h : Mem} {n : Nat} (hn : n ≤ 2) : FnR Try.prog 5 #[vi n] h (fun m q => IsHouse m q (tubH n)) := by
  refine FnR.of_W (n := 38) Try.func5 rfl rfl (Nat.le_of_ble_eq_true rfl) fun c hr hD hF => ?_
  refine W.seq ?_; refine W.region ?_
  refine WL.alloc rfl rfl rfl (fun b2 => ?_)
  refine WL.nil ?_
  refine Kseq.go (W.seq ?_)
  refine W.region ?_; refine .val (.build2 rfl rfl) rfl rfl rfl ?_; refine .val (.build2 rfl rfl) rfl rfl rfl ?_
  refine WL.abs (OpAbs.lit [_, _, _, _] rfl (Nat.le_of_ble_eq_true rfl) rfl rfl (by simp [Value.cells]) (Nat.le_of_ble_eq_true rfl) rfl (by first | (simp [Value.oneCell']; done) | exact List.all_eq_true.1 rfl)) rfl rfl rfl ?_
  rintro m7 _ ⟨hc7, a7, rfl⟩
  refine .o rfl ?_; refine WL.nil ?_
  refine Kseq.go (W.seq ?_)
  have hS7 := signs_lit hc7
  refine W.region ?_; refine .val (.build2 rfl rfl) rfl rfl rfl ?_; refine .val (.build3 rfl rfl) rfl rfl rfl ?_; refine .val (.build2 rfl rfl) rfl rfl rfl ?_; refine .val (.build3 rfl rfl) rfl rfl rfl ?_; refine .val (.build2 rfl rfl) rfl rfl rfl ?_; refine .val (.build3 rfl rfl) rfl rfl rfl ?_
  refine WL.abs (OpAbs.lit [_, _, _, _, _, _, _, _, _] rfl (Nat.le_of_ble_eq_true rfl) rfl rfl (by simp [Value.cells]) (Nat.le_of_ble_eq_true rfl) rfl (by first | (simp [Value.oneCell']; done) | exact List.all_eq_true.1 rfl)) rfl rfl rfl ?_
  rintro m14 _ ⟨hc14, a14, rfl⟩
  refine WL.abs (OpAbs.lit [_] rfl (Nat.le_of_ble_eq_true rfl) rfl rfl (by simp [Value.cells]) (Nat.le_of_ble_eq_true rfl) rfl (by first | (simp [Value.oneCell']; done) | exact List.all_eq_true.1 rfl)) rfl rfl rfl ?_
  rintro m15 _ ⟨hc15, a15, rfl⟩
  refine .val (.build2 rfl rfl) rfl rfl rfl ?_
  refine WL.abs (OpAbs.lit [_, _] rfl (Nat.le_of_ble_eq_true rfl) rfl rfl (by simp [Value.cells]) (Nat.le_of_ble_eq_true rfl) rfl (by first | (simp [Value.oneCell']; done) | exact List.all_eq_true.1 rfl)) rfl rfl rfl ?_
  rintro m17 _ ⟨hc17, a17, rfl⟩
  refine .val (.build2 rfl rfl) rfl rfl rfl ?_
  refine WL.abs (OpAbs.lit [_] rfl (Nat.le_of_ble_eq_true rfl) rfl rfl (by simp [Value.cells]) (Nat.le_of_ble_eq_true rfl) rfl (by first | (simp [Value.oneCell']; done) | exact List.all_eq_true.1 rfl)) rfl rfl rfl ?_
  rintro m19 _ ⟨hc19, a19, rfl⟩
  refine .val (.build2 rfl rfl) rfl rfl rfl ?_
  refine WL.abs (OpAbs.lit [_] rfl (Nat.le_of_ble_eq_true rfl) rfl rfl (by simp [Value.cells]) (Nat.le_of_ble_eq_true rfl) rfl (by first | (simp [Value.oneCell']; done) | exact List.all_eq_true.1 rfl)) rfl rfl rfl ?_
  rintro m21 _ ⟨hc21, a21, rfl⟩
  refine .val (.build2 rfl rfl) rfl rfl rfl ?_
  refine WL.abs (OpAbs.lit [_, _, _, _, _, _, _, _] rfl (Nat.le_of_ble_eq_true rfl) rfl rfl (by simp [Value.cells]) (Nat.le_of_ble_eq_true rfl) rfl (by first | (simp [Value.oneCell']; done) | exact List.all_eq_true.1 rfl)) rfl rfl rfl ?_
  rintro m23 _ ⟨hc23, a23, rfl⟩
  refine .val (.build3 rfl rfl) rfl rfl rfl ?_
  refine WL.alloc rfl rfl rfl (fun b4 => ?_)
  refine WL.store [_, _, _] rfl (.head _) rfl rfl rfl (Nat.le_of_ble_eq_true rfl) (by first | (simp [Value.cells, Value.oneCell']; done) | exact IsArr.ones hW (by omega) | exact IsArr.ones hP (by omega) | exact IsArr.ones hS (by omega) | exact IsArr.ones hH (by omega) | exact IsArr.ones hL (by omega) | exact IsArr.ones hB (by omega) | exact IsArr.ones hT (by omega) | exact IsArr.ones hm (by omega)) rfl ?_
  refine WL.nil ?_
  refine Kseq.go (W.seq ?_)
  let A37 : Mem → Value → Prop := fun m q => ∃ ka kc ta tc, q = .agg #[.slice (some ⟨a14, 0, none⟩) 3 3, .slice (some ⟨a23, 0, none⟩) 4 4, vi 0, .slice ka 1 kc, vi 1, vi 2, .slice ta 3 tc, .slice none 0 0, subV 2 0 n (.slice (some ⟨a7, 0, none⟩) 2 2)] ∧ IsInts m (.slice ka 1 kc) [2] ∧ IsTouches m (.slice ta 3 tc) tubT
  refine W.draw 12 (by kernel_rfl) (by kernel_rfl) (by kernel_rfl) rfl ?_; refine .val [] (.loadBW rfl (.head _) rfl) rfl rfl rfl rfl ?_; refine DJ.abs (A := fun m q => IsInts m q [2]) [] (OpAbs.mono (OpAbs.lit [vi 2] rfl (Nat.le_of_ble_eq_true rfl) rfl rfl (by simp [Value.cells]) (Nat.le_of_ble_eq_true rfl) rfl (by simp [Value.oneCell'])) (fun m' v' h' => ints_lit (xs := [2]) h'.1)) rfl rfl rfl rfl ?_; refine .val [] (.call rfl (fun m hm => between6_any _ _)) rfl rfl rfl rfl ?_; refine .val [] (.build #[vi 3, vi 4, vi 0, vi 1] rfl (by kernel_rfl)) rfl rfl rfl rfl ?_; refine .val [] (.call rfl (fun m hm => between6_any _ _)) rfl rfl rfl rfl ?_; refine .val [] (.build #[vi 4, vi 0, vi 0, vi 1] rfl (by kernel_rfl)) rfl rfl rfl rfl ?_; refine .val [] (.call rfl (fun m hm => between6_any _ _)) rfl rfl rfl rfl ?_; refine .val [] (.build #[vi 0, vi 1, vi 2, vi 2] rfl (by kernel_rfl)) rfl rfl rfl rfl ?_
  refine DJ.abs (A := fun m q => IsTouches m q tubT) [] (OpAbs.mono (OpAbs.lit [vi 3, vi 4, vi 0, vi 1, vi 4, vi 0, vi 0, vi 1, vi 0, vi 1, vi 2, vi 2] rfl (Nat.le_of_ble_eq_true rfl) rfl rfl (by simp [Value.cells]) (Nat.le_of_ble_eq_true rfl) rfl (by simp [Value.oneCell'])) (fun m' v' h' => touches_lit h'.1)) rfl rfl rfl rfl ?_; refine .val [] (.opv rfl) rfl rfl rfl rfl ?_; refine .val [] (.opv rfl) rfl rfl rfl rfl ?_; refine .val [] (.sliceH rfl rfl hS7 hn) rfl rfl rfl rfl ?_; refine DJ.nil ?_
  rintro m33 v33 h33
  rintro m26 v26 h26
  refine WL.abs (by obtain ⟨ka, kc, rfl⟩ := IsArr.form h26; obtain ⟨ta, tc, rfl⟩ := IsArr.form h33; exact OpAbs.mono (B := A37) (OpAbs.join (OpAbs.ofVal (A := fun m x => x = Value.agg #[.slice (some ⟨a14, 0, none⟩) 3 3, .slice (some ⟨a23, 0, none⟩) 4 4, vi 0, .slice ka 1 kc, vi 1, vi 2, .slice ta 3 tc, .slice none 0 0, subV 2 0 n (.slice (some ⟨a7, 0, none⟩) 2 2)] ∧ IsInts m (.slice ka 1 kc) [2]) (OpVal.build #[.slice (some ⟨a14, 0, none⟩) 3 3, .slice (some ⟨a23, 0, none⟩) 4 4, vi 0, .slice ka 1 kc, vi 1, vi 2, .slice ta 3 tc, .slice none 0 0, subV 2 0 n (.slice (some ⟨a7, 0, none⟩) 2 2)] rfl (by kernel_rfl)) (m := m26) (by repeat constructor) ⟨rfl, h26⟩) (m := m33) (by repeat constructor)) (fun m x hx => by obtain ⟨m1, l1, l2, e, hh⟩ := hx; exact ⟨_, _, _, _, e, hh.le l1, IsTouches.le h33 l2⟩)) rfl rfl rfl ?_
  rintro m37 v37 h37
  obtain ⟨ka, kc, ta, tc, rfl, hK, hT⟩ := h37
  (refine WL.store [_, _, _, _, _, _, _, _, _] rfl (.tail _ (.head _)) rfl rfl rfl (Nat.le_of_ble_eq_true rfl) (by simp [subV, Value.cells, Value.oneCell']) rfl ?_)
  refine WL.nil ?_; refine Kseq.go ?_
  refine W.join fun mj hj => ?_
  refine W.ret ?_; skip
  refine ⟨.inl rfl, [_], mj, ⟨.agg inferInstance inferInstance rfl (.tail _ (.head _)) rfl, trivial⟩, .head _, ?_⟩
  refine ⟨_, _, _, _, _, _, fun i => [.slice (some ⟨a15, 0, none⟩) 1 1, .slice (some ⟨a17, 0, none⟩) 2 2, .slice (some ⟨a19, 0, none⟩) 1 1, .slice (some ⟨a21, 0, none⟩) 1 1].getD i undef, rfl, ⟨?_, ?_, ?_, hK.le (hj _ (by simp)), hT.le (hj _ (by simp)), IsBoils.nil _, (signs_pre hS7 hn).le (hj _ (by simp))⟩⟩
  · refine ((hc14.2).congr fun i j hi hj => ?_).le (hj _ (by simp))
    have h0 : i < 3 := hi
    have h1 : i = 0 ∨ i = 1 ∨ i = 2 := by omega
    have h2 : j = 0 ∨ j = 1 ∨ j = 2 := by omega
    rcases h1 with rfl | rfl | rfl <;> rcases h2 with rfl | rfl | rfl <;> rfl
  · refine ((hc23.2).congr fun i j hi hj => ?_).le (hj _ (by simp))
    have h0 : i < 4 := hi
    have h1 : i = 0 ∨ i = 1 ∨ i = 2 ∨ i = 3 := by omega
    have h2 : j = 0 ∨ j = 1 := by omega
    rcases h1 with rfl | rfl | rfl | rfl <;> rcases h2 with rfl | rfl <;> rfl
  · intro i hi
    have h0 : i < 4 := hi
    have h1 : i = 0 ∨ i = 1 ∨ i = 2 ∨ i = 3 := by omega
    rcases h1 with rfl | rfl | rfl | rfl
    · exact (ints_lit (xs := [1]) hc15).le (hj _ (by simp))
    · exact (ints_lit (xs := [1, 2]) hc17).le (hj _ (by simp))
    · exact (ints_lit (xs := [1]) hc19).le (hj _ (by simp))
    · exact (ints_lit (xs := [2]) hc21).le (hj _ (by simp))
end Go.Proofs.Ytdnbkjgbehakpaa

/- The statements' function awake of chapter 6: the chapter's examples hold. -/
namespace Go.Proofs.Ytdnbkjgbehakpaa
open Go Go.Eng Go.RowKit

theorem same6_eq {h : Mem} {av bv : Value} {a : List Int} (ha : IsInts h av a) (hb : IsInts h bv a) : FnV Try.prog 12 #[av, bv] h (.bool true) := by
  have := same6_any ha hb
  rwa [decide_eq_true rfl] at this
theorem play_ex6 {h : Mem} {v cv : Value} (hv : IsHouse h v (tubH 0)) (hq : IsCourseV h cv (passH 1 0)) : FnR Try.prog 4 #[v, cv] h (fun m x => ∃ lv, x = .tuple #[lv, vi 0] ∧ IsInts m lv [3, 4]) := by
  have := play6_any hv (tubH_sm 0 (by omega)) hq
  rwa [ex6_play.1, if_pos rfl, ex6_play.2] at this
theorem carry_ex6 {h : Mem} {v : Value} (hv : IsHouse h v (tubH 0)) : FnR Try.prog 9 #[v] h (fun m x => ∃ lv, x = .tuple #[lv, vi 0] ∧ IsInts m lv [3, 3, 2, 1, 1]) := by
  have := carry6_any hv (tubH_sm 0 (by omega))
  rwa [ex6_askE.1, if_pos rfl, ex6_carry] at this
theorem whose_ex6 {h : Mem} {v : Value} (hv : IsHouse h v (tubH 0)) : FnR Try.prog 10 #[v] h (fun m x => ∃ lv, x = .tuple #[lv, vi 0] ∧ IsInts m lv [0, 1]) := by
  have := whose6_any hv (tubH_sm 0 (by omega))
  rwa [ex6_askE.1, if_pos rfl, ex6_whose] at this
theorem boil_ex6 {h : Mem} {v : Value} (hv : IsHouse h v (tubH 0)) : FnR Try.prog 7 #[v, vi 1] h (fun m x => ∃ lv, x = .tuple #[lv, vi 0] ∧ IsInts m lv [0, 3, 4]) :=
  (boil6_any 1 hv (tubH_sm 0 (by omega))).mono fun m x hx => by
    obtain ⟨lv, e, _, h2⟩ := hx
    rw [ex6_askE.2.1] at e h2
    exact ⟨lv, e, h2 rfl _ ex6_boil⟩
theorem none_ex6 {h : Mem} {v : Value} (hv : IsHouse h v (tubH 1)) : FnR Try.prog 7 #[v, vi 1] h (fun m x => ∃ lv, x = .tuple #[lv, vi 0] ∧ IsInts m lv []) :=
  (boil6_any 1 hv (tubH_sm 1 (by omega))).mono fun m x hx => by
    obtain ⟨lv, e, _, h2⟩ := hx
    rw [ex6_askE.2.2] at e h2
    exact ⟨lv, e, h2 rfl _ ex6_none⟩
theorem order_ex6 {h : Mem} {v : Value} (hv : IsHouse h v (tubH 0)) : FnR Try.prog 8 #[v, vi 1] h (fun m x => ∃ lv, x = .tuple #[lv, vi 0] ∧ IsInts m lv [0, 0]) :=
  (order6_any 1 hv (tubH_sm 0 (by omega))).mono fun m x hx => by
    obtain ⟨lv, e, _, h2⟩ := hx
    rw [ex6_ordE] at e h2
    exact ⟨lv, e, h2 rfl _ ex6_order⟩
theorem first_ex6 {h : Mem} {v : Value} (hv : IsHouse h v (tubH 2)) : FnV Try.prog 11 #[v] h (.tuple #[vi 1, vi 0]) := by
  have := first6_any hv (tubH_sm 2 (by omega))
  rwa [ex6_first] at this
theorem leave_ex6 {h : Mem} {v : Value} (hv : IsHouse h v (tubH 2)) : FnR Try.prog 48 #[v] h (fun m x => ∃ lv, x = .tuple #[lv, vi 0] ∧ IsInts m lv [0]) :=
  (leave6_any hv (tubH_sm 2 (by omega))).mono fun m x hx => by
    obtain ⟨lv, e, _, h2⟩ := hx
    rw [ex6_leave.1] at e
    exact ⟨lv, e, h2 ex6_leave.1 _ ex6_leave.2⟩
/-- awake -/
theorem awake6_any {h : Mem} : FnV Try.prog 18 #[] h (.bool true) := by
  refine FnR.val ?_
  refine FnR.of_W (n := 127) Try.func18 rfl rfl (Nat.le_of_ble_eq_true rfl) fun c hr hD hF => ?_
  refine W.seq ?_; refine W.region ?_; refine .o rfl ?_; refine WL.nil ?_
  refine Kseq.go (W.seq ?_)
  refine W.region ?_; refine WL.abs (OpAbs.call rfl (fun m hm => tub6_any (n := 0) (by omega))) rfl rfl rfl ?_
  rintro m18 v18 h18
  refine WL.abs (OpAbs.call rfl (fun m hm => passed6_any 1 0)) rfl rfl rfl ?_
  rintro m19 v19 h19
  (refine WL.abs (OpAbs.call rfl (fun m hm => play_ex6 (h18.le (by repeat first | exact hm.1 | replace hm := hm.2)) (h19.le (by repeat first | exact hm.1 | replace hm := hm.2)))) rfl rfl rfl ?_; rintro m20 _ ⟨lv1, rfl, hl1⟩)
  iterate 5 refine .o rfl ?_
  refine WL.nil ?_
  refine Kseq.go (W.seq ?_)
  refine W.region ?_; refine WL.abs (OpAbs.call rfl (fun m hm => tub6_any (n := 0) (by omega))) rfl rfl rfl ?_
  rintro m24 v24 h24
  (refine WL.abs (OpAbs.call rfl (fun m hm => carry_ex6 (h24.le (by repeat first | exact hm.1 | replace hm := hm.2)))) rfl rfl rfl ?_; rintro m25 _ ⟨lv2, rfl, hl2⟩)
  iterate 5 refine .o rfl ?_
  refine WL.nil ?_
  refine Kseq.go (W.seq ?_)
  refine W.region ?_; refine WL.abs (OpAbs.call rfl (fun m hm => tub6_any (n := 0) (by omega))) rfl rfl rfl ?_
  rintro m29 v29 h29
  (refine WL.abs (OpAbs.call rfl (fun m hm => whose_ex6 (h29.le (by repeat first | exact hm.1 | replace hm := hm.2)))) rfl rfl rfl ?_; rintro m30 _ ⟨lv3, rfl, hl3⟩)
  iterate 5 refine .o rfl ?_
  refine WL.nil ?_
  refine Kseq.go (W.seq ?_)
  refine W.region ?_; refine WL.abs (OpAbs.call rfl (fun m hm => tub6_any (n := 0) (by omega))) rfl rfl rfl ?_
  rintro m34 v34 h34
  (refine WL.abs (OpAbs.call rfl (fun m hm => boil_ex6 (h34.le (by repeat first | exact hm.1 | replace hm := hm.2)))) rfl rfl rfl ?_; rintro m35 _ ⟨lv4, rfl, hl4⟩)
  iterate 5 refine .o rfl ?_
  refine WL.nil ?_
  refine Kseq.go (W.seq ?_)
  refine W.region ?_; refine WL.abs (OpAbs.call rfl (fun m hm => tub6_any (n := 0) (by omega))) rfl rfl rfl ?_
  rintro m39 v39 h39
  (refine WL.abs (OpAbs.call rfl (fun m hm => order_ex6 (h39.le (by repeat first | exact hm.1 | replace hm := hm.2)))) rfl rfl rfl ?_; rintro m40 _ ⟨lv5, rfl, hl5⟩)
  iterate 5 refine .o rfl ?_
  refine WL.nil ?_
  refine Kseq.go (W.seq ?_)
  refine W.region ?_; refine WL.abs (OpAbs.call rfl (fun m hm => tub6_any (n := 1) (by omega))) rfl rfl rfl ?_
  rintro m44 v44 h44
  (refine WL.abs (OpAbs.call rfl (fun m hm => none_ex6 (h44.le (by repeat first | exact hm.1 | replace hm := hm.2)))) rfl rfl rfl ?_; rintro m45 _ ⟨lv6, rfl, hl6⟩)
  iterate 5 refine .o rfl ?_
  refine WL.nil ?_
  refine Kseq.go (W.seq ?_)
  refine W.region ?_; refine WL.abs (OpAbs.call rfl (fun m hm => tub6_any (n := 2) (by omega))) rfl rfl rfl ?_
  rintro m49 v49 h49
  refine .val (.call rfl (fun m hm => first_ex6 (h49.le (by repeat first | exact hm.1 | replace hm := hm.2)))) rfl rfl rfl ?_
  iterate 5 refine .o rfl ?_
  refine WL.nil ?_
  refine Kseq.go (W.seq ?_)
  refine W.region ?_; refine WL.abs (OpAbs.call rfl (fun m hm => tub6_any (n := 2) (by omega))) rfl rfl rfl ?_
  rintro m54 v54 h54
  (refine WL.abs (OpAbs.call rfl (fun m hm => leave_ex6 (h54.le (by repeat first | exact hm.1 | replace hm := hm.2)))) rfl rfl rfl ?_; rintro m55 _ ⟨lv7, rfl, hl7⟩)
  iterate 5 refine .o rfl ?_
  refine WL.nil ?_
  refine Kseq.go (W.seq ?_)
  refine W.join fun mj hj => ?_
  have h1 := hl1.le (hj _ (by simp))
  have h2 := hl2.le (hj _ (by simp))
  have h3 := hl3.le (hj _ (by simp))
  have h4 := hl4.le (hj _ (by simp))
  have h5 := hl5.le (hj _ (by simp))
  have h6 := hl6.le (hj _ (by simp))
  have h7 := hl7.le (hj _ (by simp))
  refine W.weaken [(1, lv1), (2, vi 0), (3, lv2), (4, vi 0), (5, lv3), (6, vi 0), (7, lv4), (8, vi 0), (9, lv5), (10, vi 0), (11, lv6), (12, vi 0), (13, vi 1), (14, vi 0), (15, lv7), (16, vi 0)] [mj] [] (by repeat (first | exact trivial | refine ⟨rfl, ?_⟩)) (by simp) (List.nil_sublist _) ?_
  clear hl1 hl2 hl3 hl4 hl5 hl6 hl7
  refine W.region ?_
  iterate 4 refine .o rfl ?_
  refine WL.abs (OpAbs.lit [_, _] rfl (Nat.le_of_ble_eq_true rfl) rfl rfl (by simp [Value.cells]) (Nat.le_of_ble_eq_true rfl) rfl (by first | (simp [Value.oneCell']; done) | exact List.all_eq_true.1 rfl)) rfl rfl rfl ?_
  rintro m62 _ ⟨hc62, a62, rfl⟩
  refine .val (.call rfl (fun m hm => same6_eq (h1.le (by repeat first | exact hm.1 | replace hm := hm.2)) ((ints_lit (xs := [3, 4]) hc62).le (by repeat first | exact hm.1 | replace hm := hm.2)))) rfl rfl rfl ?_
  iterate 7 refine .o rfl ?_
  refine WL.abs (OpAbs.lit [_, _, _, _, _] rfl (Nat.le_of_ble_eq_true rfl) rfl rfl (by simp [Value.cells]) (Nat.le_of_ble_eq_true rfl) rfl (by first | (simp [Value.oneCell']; done) | exact List.all_eq_true.1 rfl)) rfl rfl rfl ?_
  rintro m71 _ ⟨hc71, a71, rfl⟩
  refine .val (.call rfl (fun m hm => same6_eq (h2.le (by repeat first | exact hm.1 | replace hm := hm.2)) ((ints_lit (xs := [3, 3, 2, 1, 1]) hc71).le (by repeat first | exact hm.1 | replace hm := hm.2)))) rfl rfl rfl ?_
  iterate 7 refine .o rfl ?_
  refine WL.abs (OpAbs.lit [_, _] rfl (Nat.le_of_ble_eq_true rfl) rfl rfl (by simp [Value.cells]) (Nat.le_of_ble_eq_true rfl) rfl (by first | (simp [Value.oneCell']; done) | exact List.all_eq_true.1 rfl)) rfl rfl rfl ?_
  rintro m80 _ ⟨hc80, a80, rfl⟩
  refine .val (.call rfl (fun m hm => same6_eq (h3.le (by repeat first | exact hm.1 | replace hm := hm.2)) ((ints_lit (xs := [0, 1]) hc80).le (by repeat first | exact hm.1 | replace hm := hm.2)))) rfl rfl rfl ?_
  iterate 7 refine .o rfl ?_
  refine WL.abs (OpAbs.lit [_, _, _] rfl (Nat.le_of_ble_eq_true rfl) rfl rfl (by simp [Value.cells]) (Nat.le_of_ble_eq_true rfl) rfl (by first | (simp [Value.oneCell']; done) | exact List.all_eq_true.1 rfl)) rfl rfl rfl ?_
  rintro m89 _ ⟨hc89, a89, rfl⟩
  refine .val (.call rfl (fun m hm => same6_eq (h4.le (by repeat first | exact hm.1 | replace hm := hm.2)) ((ints_lit (xs := [0, 3, 4]) hc89).le (by repeat first | exact hm.1 | replace hm := hm.2)))) rfl rfl rfl ?_
  iterate 7 refine .o rfl ?_
  refine WL.abs (OpAbs.lit [_, _] rfl (Nat.le_of_ble_eq_true rfl) rfl rfl (by simp [Value.cells]) (Nat.le_of_ble_eq_true rfl) rfl (by first | (simp [Value.oneCell']; done) | exact List.all_eq_true.1 rfl)) rfl rfl rfl ?_
  rintro m98 _ ⟨hc98, a98, rfl⟩
  refine .val (.call rfl (fun m hm => same6_eq (h5.le (by repeat first | exact hm.1 | replace hm := hm.2)) ((ints_lit (xs := [0, 0]) hc98).le (by repeat first | exact hm.1 | replace hm := hm.2)))) rfl rfl rfl ?_
  iterate 7 refine .o rfl ?_
  refine .val (.len rfl h6) rfl rfl rfl ?_
  iterate 16 refine .o rfl ?_
  refine WL.abs (OpAbs.lit [_] rfl (Nat.le_of_ble_eq_true rfl) rfl rfl (by simp [Value.cells]) (Nat.le_of_ble_eq_true rfl) rfl (by first | (simp [Value.oneCell']; done) | exact List.all_eq_true.1 rfl)) rfl rfl rfl ?_
  rintro m124 _ ⟨hc124, a124, rfl⟩
  refine .val (.call rfl (fun m hm => same6_eq (h7.le (by repeat first | exact hm.1 | replace hm := hm.2)) ((ints_lit (xs := [0]) hc124).le (by repeat first | exact hm.1 | replace hm := hm.2)))) rfl rfl rfl ?_
  iterate 2 refine .o rfl ?_
  refine WL.nil ?_; refine Kseq.go ?_
  refine W.ret ?_; refine ⟨.inl rfl, [_], mj, ⟨.tmp rfl, trivial⟩, (by repeat constructor), ?_⟩
  rfl
end Go.Proofs.Ytdnbkjgbehakpaa
