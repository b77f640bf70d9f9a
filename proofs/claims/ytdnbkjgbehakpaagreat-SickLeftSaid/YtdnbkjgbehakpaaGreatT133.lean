/- The statements' function awake of chapter 6: the chapter's examples hold. -/
import Derived.Test.YtdnbkjgbehakpaaGreatT132
namespace Go.Proofs.YtdnbkjgbehakpaaGreat
open Go Go.Eng Go.RowKit

theorem same6_eq {h : Mem} {av bv : Value} {a : List Int} (ha : IsInts h av a) (hb : IsInts h bv a) : FnV Tryz.prog 34 #[av, bv] h (.bool true) := by
  have := same6_any ha hb
  rwa [decide_eq_true rfl] at this
theorem play_ex6 {h : Mem} {v cv : Value} (hv : IsHouse h v (tubH 0)) (hq : IsCourseV h cv (passH 1 0)) : FnR Tryz.prog 43 #[v, cv] h (fun m x => ∃ lv, x = .tuple #[lv, vi 0] ∧ IsInts m lv [3, 4]) := by
  have := play6_any hv (tubH_sm 0 (by omega)) hq
  rwa [ex6_play.1, if_pos rfl, ex6_play.2] at this
theorem carry_ex6 {h : Mem} {v : Value} (hv : IsHouse h v (tubH 0)) : FnR Tryz.prog 24 #[v] h (fun m x => ∃ lv, x = .tuple #[lv, vi 0] ∧ IsInts m lv [3, 3, 2, 1, 1]) := by
  have := carry6_any hv (tubH_sm 0 (by omega))
  rwa [ex6_askE.1, if_pos rfl, ex6_carry] at this
theorem whose_ex6 {h : Mem} {v : Value} (hv : IsHouse h v (tubH 0)) : FnR Tryz.prog 22 #[v] h (fun m x => ∃ lv, x = .tuple #[lv, vi 0] ∧ IsInts m lv [0, 1]) := by
  have := whose6_any hv (tubH_sm 0 (by omega))
  rwa [ex6_askE.1, if_pos rfl, ex6_whose] at this
theorem boil_ex6 {h : Mem} {v : Value} (hv : IsHouse h v (tubH 0)) : FnR Tryz.prog 25 #[v, vi 1] h (fun m x => ∃ lv, x = .tuple #[lv, vi 0] ∧ IsInts m lv [0, 3, 4]) :=
  (boil6_any 1 hv (tubH_sm 0 (by omega))).mono fun m x hx => by
    obtain ⟨lv, e, _, h2⟩ := hx
    rw [ex6_askE.2.1] at e h2
    exact ⟨lv, e, h2 rfl _ ex6_boil⟩
theorem none_ex6 {h : Mem} {v : Value} (hv : IsHouse h v (tubH 1)) : FnR Tryz.prog 25 #[v, vi 1] h (fun m x => ∃ lv, x = .tuple #[lv, vi 0] ∧ IsInts m lv []) :=
  (boil6_any 1 hv (tubH_sm 1 (by omega))).mono fun m x hx => by
    obtain ⟨lv, e, _, h2⟩ := hx
    rw [ex6_askE.2.2] at e h2
    exact ⟨lv, e, h2 rfl _ ex6_none⟩
theorem order_ex6 {h : Mem} {v : Value} (hv : IsHouse h v (tubH 0)) : FnR Tryz.prog 58 #[v, vi 1] h (fun m x => ∃ lv, x = .tuple #[lv, vi 0] ∧ IsInts m lv [0, 0]) :=
  (order6_any 1 hv (tubH_sm 0 (by omega))).mono fun m x hx => by
    obtain ⟨lv, e, _, h2⟩ := hx
    rw [ex6_ordE] at e h2
    exact ⟨lv, e, h2 rfl _ ex6_order⟩
theorem first_ex6 {h : Mem} {v : Value} (hv : IsHouse h v (tubH 2)) : FnV Tryz.prog 35 #[v] h (.tuple #[vi 1, vi 0]) := by
  have := first6_any hv (tubH_sm 2 (by omega))
  rwa [ex6_first] at this
theorem leave_ex6 {h : Mem} {v : Value} (hv : IsHouse h v (tubH 2)) : FnR Tryz.prog 36 #[v] h (fun m x => ∃ lv, x = .tuple #[lv, vi 0] ∧ IsInts m lv [0]) :=
  (leave6_any hv (tubH_sm 2 (by omega))).mono fun m x hx => by
    obtain ⟨lv, e, _, h2⟩ := hx
    rw [ex6_leave.1] at e
    exact ⟨lv, e, h2 ex6_leave.1 _ ex6_leave.2⟩
/-- awake -/
theorem awake6_any {h : Mem} : FnV Tryz.prog 30 #[] h (.bool true) := by
  refine FnR.val ?_
  refine FnR.of_W (n := 127) Tryz.func30 rfl rfl (Nat.le_of_ble_eq_true rfl) fun c hr hD hF => ?_
  refine W.seq ?_
  refine W.region ?_
  refine WL.val (OpVal.opv rfl) rfl rfl rfl ?_
  refine WL.nil ?_
  refine Kseq.go (W.seq ?_)
  skip
  refine W.region ?_
  refine WL.abs (OpAbs.call rfl (fun m hm => tub6_any (n := 0) (by omega))) rfl rfl rfl ?_
  rintro m18 v18 h18
  refine WL.abs (OpAbs.call rfl (fun m hm => passed6_any 1 0)) rfl rfl rfl ?_
  rintro m19 v19 h19
  (refine WL.abs (OpAbs.call rfl (fun m hm => play_ex6 (h18.le (by repeat (first | exact hm.1 | replace hm := hm.2))) (h19.le (by repeat (first | exact hm.1 | replace hm := hm.2))))) rfl rfl rfl ?_; rintro m20 _ ⟨lv1, rfl, hl1⟩)
  refine WL.val (OpVal.opv rfl) rfl rfl rfl ?_
  refine WL.val (OpVal.opv rfl) rfl rfl rfl ?_
  refine WL.val (OpVal.opv rfl) rfl rfl rfl ?_
  refine WL.val (OpVal.opv rfl) rfl rfl rfl ?_
  refine WL.val (OpVal.opv rfl) rfl rfl rfl ?_
  refine WL.nil ?_
  refine Kseq.go (W.seq ?_)
  skip
  refine W.region ?_
  refine WL.abs (OpAbs.call rfl (fun m hm => tub6_any (n := 0) (by omega))) rfl rfl rfl ?_
  rintro m24 v24 h24
  (refine WL.abs (OpAbs.call rfl (fun m hm => carry_ex6 (h24.le (by repeat (first | exact hm.1 | replace hm := hm.2))))) rfl rfl rfl ?_; rintro m25 _ ⟨lv2, rfl, hl2⟩)
  refine WL.val (OpVal.opv rfl) rfl rfl rfl ?_
  refine WL.val (OpVal.opv rfl) rfl rfl rfl ?_
  refine WL.val (OpVal.opv rfl) rfl rfl rfl ?_
  refine WL.val (OpVal.opv rfl) rfl rfl rfl ?_
  refine WL.val (OpVal.opv rfl) rfl rfl rfl ?_
  refine WL.nil ?_
  refine Kseq.go (W.seq ?_)
  skip
  refine W.region ?_
  refine WL.abs (OpAbs.call rfl (fun m hm => tub6_any (n := 0) (by omega))) rfl rfl rfl ?_
  rintro m29 v29 h29
  (refine WL.abs (OpAbs.call rfl (fun m hm => whose_ex6 (h29.le (by repeat (first | exact hm.1 | replace hm := hm.2))))) rfl rfl rfl ?_; rintro m30 _ ⟨lv3, rfl, hl3⟩)
  refine WL.val (OpVal.opv rfl) rfl rfl rfl ?_
  refine WL.val (OpVal.opv rfl) rfl rfl rfl ?_
  refine WL.val (OpVal.opv rfl) rfl rfl rfl ?_
  refine WL.val (OpVal.opv rfl) rfl rfl rfl ?_
  refine WL.val (OpVal.opv rfl) rfl rfl rfl ?_
  refine WL.nil ?_
  refine Kseq.go (W.seq ?_)
  skip
  refine W.region ?_
  refine WL.abs (OpAbs.call rfl (fun m hm => tub6_any (n := 0) (by omega))) rfl rfl rfl ?_
  rintro m34 v34 h34
  (refine WL.abs (OpAbs.call rfl (fun m hm => boil_ex6 (h34.le (by repeat (first | exact hm.1 | replace hm := hm.2))))) rfl rfl rfl ?_; rintro m35 _ ⟨lv4, rfl, hl4⟩)
  refine WL.val (OpVal.opv rfl) rfl rfl rfl ?_
  refine WL.val (OpVal.opv rfl) rfl rfl rfl ?_
  refine WL.val (OpVal.opv rfl) rfl rfl rfl ?_
  refine WL.val (OpVal.opv rfl) rfl rfl rfl ?_
  refine WL.val (OpVal.opv rfl) rfl rfl rfl ?_
  refine WL.nil ?_
  refine Kseq.go (W.seq ?_)
  skip
  refine W.region ?_
  refine WL.abs (OpAbs.call rfl (fun m hm => tub6_any (n := 0) (by omega))) rfl rfl rfl ?_
  rintro m39 v39 h39
  (refine WL.abs (OpAbs.call rfl (fun m hm => order_ex6 (h39.le (by repeat (first | exact hm.1 | replace hm := hm.2))))) rfl rfl rfl ?_; rintro m40 _ ⟨lv5, rfl, hl5⟩)
  refine WL.val (OpVal.opv rfl) rfl rfl rfl ?_
  refine WL.val (OpVal.opv rfl) rfl rfl rfl ?_
  refine WL.val (OpVal.opv rfl) rfl rfl rfl ?_
  refine WL.val (OpVal.opv rfl) rfl rfl rfl ?_
  refine WL.val (OpVal.opv rfl) rfl rfl rfl ?_
  refine WL.nil ?_
  refine Kseq.go (W.seq ?_)
  skip
  refine W.region ?_
  refine WL.abs (OpAbs.call rfl (fun m hm => tub6_any (n := 1) (by omega))) rfl rfl rfl ?_
  rintro m44 v44 h44
  (refine WL.abs (OpAbs.call rfl (fun m hm => none_ex6 (h44.le (by repeat (first | exact hm.1 | replace hm := hm.2))))) rfl rfl rfl ?_; rintro m45 _ ⟨lv6, rfl, hl6⟩)
  refine WL.val (OpVal.opv rfl) rfl rfl rfl ?_
  refine WL.val (OpVal.opv rfl) rfl rfl rfl ?_
  refine WL.val (OpVal.opv rfl) rfl rfl rfl ?_
  refine WL.val (OpVal.opv rfl) rfl rfl rfl ?_
  refine WL.val (OpVal.opv rfl) rfl rfl rfl ?_
  refine WL.nil ?_
  refine Kseq.go (W.seq ?_)
  skip
  refine W.region ?_
  refine WL.abs (OpAbs.call rfl (fun m hm => tub6_any (n := 2) (by omega))) rfl rfl rfl ?_
  rintro m49 v49 h49
  refine WL.val (OpVal.call rfl (fun m hm => first_ex6 (h49.le (by repeat (first | exact hm.1 | replace hm := hm.2))))) rfl rfl rfl ?_
  refine WL.val (OpVal.opv rfl) rfl rfl rfl ?_
  refine WL.val (OpVal.opv rfl) rfl rfl rfl ?_
  refine WL.val (OpVal.opv rfl) rfl rfl rfl ?_
  refine WL.val (OpVal.opv rfl) rfl rfl rfl ?_
  refine WL.val (OpVal.opv rfl) rfl rfl rfl ?_
  refine WL.nil ?_
  refine Kseq.go (W.seq ?_)
  skip
  refine W.region ?_
  refine WL.abs (OpAbs.call rfl (fun m hm => tub6_any (n := 2) (by omega))) rfl rfl rfl ?_
  rintro m54 v54 h54
  (refine WL.abs (OpAbs.call rfl (fun m hm => leave_ex6 (h54.le (by repeat (first | exact hm.1 | replace hm := hm.2))))) rfl rfl rfl ?_; rintro m55 _ ⟨lv7, rfl, hl7⟩)
  refine WL.val (OpVal.opv rfl) rfl rfl rfl ?_
  refine WL.val (OpVal.opv rfl) rfl rfl rfl ?_
  refine WL.val (OpVal.opv rfl) rfl rfl rfl ?_
  refine WL.val (OpVal.opv rfl) rfl rfl rfl ?_
  refine WL.val (OpVal.opv rfl) rfl rfl rfl ?_
  refine WL.nil ?_
  refine Kseq.go (W.seq ?_)
  refine W.join fun mj hj => ?_
  have h1 := hl1.le (hj _ (by simp))
  have h2 := hl2.le (hj _ (by simp))
  have h3 := hl3.le (hj _ (by simp))
  have h4 := hl4.le (hj _ (by simp))
  have h5 := hl5.le (hj _ (by simp))
  have h6 := hl6.le (hj _ (by simp))
  have h7 := hl7.le (hj _ (by simp))
  skip
  refine W.weaken [(1, lv1), (2, vi 0), (3, lv2), (4, vi 0), (5, lv3), (6, vi 0), (7, lv4), (8, vi 0), (9, lv5), (10, vi 0), (11, lv6), (12, vi 0), (13, vi 1), (14, vi 0), (15, lv7), (16, vi 0)] [mj] [] (by repeat (first | exact trivial | refine ⟨rfl, ?_⟩)) (by simp) (List.nil_sublist _) ?_
  clear hl1 hl2 hl3 hl4 hl5 hl6 hl7
  skip
  refine W.region ?_
  refine WL.val (OpVal.opv rfl) rfl rfl rfl ?_
  refine WL.val (OpVal.opv rfl) rfl rfl rfl ?_
  refine WL.val (OpVal.opv rfl) rfl rfl rfl ?_
  refine WL.val (OpVal.opv rfl) rfl rfl rfl ?_
  refine WL.abs (OpAbs.lit [_, _] rfl (Nat.le_of_ble_eq_true rfl) rfl rfl (by simp [Value.cells]) (Nat.le_of_ble_eq_true rfl) rfl (by first | (simp [Value.oneCell']; done) | exact List.all_eq_true.1 rfl)) rfl rfl rfl ?_
  rintro m62 _ ⟨hc62, a62, rfl⟩
  refine WL.val (OpVal.call rfl (fun m hm => same6_eq (h1.le (by repeat (first | exact hm.1 | replace hm := hm.2))) ((ints_lit (xs := [3, 4]) hc62).le (by repeat (first | exact hm.1 | replace hm := hm.2))))) rfl rfl rfl ?_
  refine WL.val (OpVal.opv rfl) rfl rfl rfl ?_
  refine WL.val (OpVal.opv rfl) rfl rfl rfl ?_
  refine WL.val (OpVal.opv rfl) rfl rfl rfl ?_
  refine WL.val (OpVal.opv rfl) rfl rfl rfl ?_
  refine WL.val (OpVal.opv rfl) rfl rfl rfl ?_
  refine WL.val (OpVal.opv rfl) rfl rfl rfl ?_
  refine WL.val (OpVal.opv rfl) rfl rfl rfl ?_
  refine WL.abs (OpAbs.lit [_, _, _, _, _] rfl (Nat.le_of_ble_eq_true rfl) rfl rfl (by simp [Value.cells]) (Nat.le_of_ble_eq_true rfl) rfl (by first | (simp [Value.oneCell']; done) | exact List.all_eq_true.1 rfl)) rfl rfl rfl ?_
  rintro m71 _ ⟨hc71, a71, rfl⟩
  refine WL.val (OpVal.call rfl (fun m hm => same6_eq (h2.le (by repeat (first | exact hm.1 | replace hm := hm.2))) ((ints_lit (xs := [3, 3, 2, 1, 1]) hc71).le (by repeat (first | exact hm.1 | replace hm := hm.2))))) rfl rfl rfl ?_
  refine WL.val (OpVal.opv rfl) rfl rfl rfl ?_
  refine WL.val (OpVal.opv rfl) rfl rfl rfl ?_
  refine WL.val (OpVal.opv rfl) rfl rfl rfl ?_
  refine WL.val (OpVal.opv rfl) rfl rfl rfl ?_
  refine WL.val (OpVal.opv rfl) rfl rfl rfl ?_
  refine WL.val (OpVal.opv rfl) rfl rfl rfl ?_
  refine WL.val (OpVal.opv rfl) rfl rfl rfl ?_
  refine WL.abs (OpAbs.lit [_, _] rfl (Nat.le_of_ble_eq_true rfl) rfl rfl (by simp [Value.cells]) (Nat.le_of_ble_eq_true rfl) rfl (by first | (simp [Value.oneCell']; done) | exact List.all_eq_true.1 rfl)) rfl rfl rfl ?_
  rintro m80 _ ⟨hc80, a80, rfl⟩
  refine WL.val (OpVal.call rfl (fun m hm => same6_eq (h3.le (by repeat (first | exact hm.1 | replace hm := hm.2))) ((ints_lit (xs := [0, 1]) hc80).le (by repeat (first | exact hm.1 | replace hm := hm.2))))) rfl rfl rfl ?_
  refine WL.val (OpVal.opv rfl) rfl rfl rfl ?_
  refine WL.val (OpVal.opv rfl) rfl rfl rfl ?_
  refine WL.val (OpVal.opv rfl) rfl rfl rfl ?_
  refine WL.val (OpVal.opv rfl) rfl rfl rfl ?_
  refine WL.val (OpVal.opv rfl) rfl rfl rfl ?_
  refine WL.val (OpVal.opv rfl) rfl rfl rfl ?_
  refine WL.val (OpVal.opv rfl) rfl rfl rfl ?_
  refine WL.abs (OpAbs.lit [_, _, _] rfl (Nat.le_of_ble_eq_true rfl) rfl rfl (by simp [Value.cells]) (Nat.le_of_ble_eq_true rfl) rfl (by first | (simp [Value.oneCell']; done) | exact List.all_eq_true.1 rfl)) rfl rfl rfl ?_
  rintro m89 _ ⟨hc89, a89, rfl⟩
  refine WL.val (OpVal.call rfl (fun m hm => same6_eq (h4.le (by repeat (first | exact hm.1 | replace hm := hm.2))) ((ints_lit (xs := [0, 3, 4]) hc89).le (by repeat (first | exact hm.1 | replace hm := hm.2))))) rfl rfl rfl ?_
  refine WL.val (OpVal.opv rfl) rfl rfl rfl ?_
  refine WL.val (OpVal.opv rfl) rfl rfl rfl ?_
  refine WL.val (OpVal.opv rfl) rfl rfl rfl ?_
  refine WL.val (OpVal.opv rfl) rfl rfl rfl ?_
  refine WL.val (OpVal.opv rfl) rfl rfl rfl ?_
  refine WL.val (OpVal.opv rfl) rfl rfl rfl ?_
  refine WL.val (OpVal.opv rfl) rfl rfl rfl ?_
  refine WL.abs (OpAbs.lit [_, _] rfl (Nat.le_of_ble_eq_true rfl) rfl rfl (by simp [Value.cells]) (Nat.le_of_ble_eq_true rfl) rfl (by first | (simp [Value.oneCell']; done) | exact List.all_eq_true.1 rfl)) rfl rfl rfl ?_
  rintro m98 _ ⟨hc98, a98, rfl⟩
  refine WL.val (OpVal.call rfl (fun m hm => same6_eq (h5.le (by repeat (first | exact hm.1 | replace hm := hm.2))) ((ints_lit (xs := [0, 0]) hc98).le (by repeat (first | exact hm.1 | replace hm := hm.2))))) rfl rfl rfl ?_
  refine WL.val (OpVal.opv rfl) rfl rfl rfl ?_
  refine WL.val (OpVal.opv rfl) rfl rfl rfl ?_
  refine WL.val (OpVal.opv rfl) rfl rfl rfl ?_
  refine WL.val (OpVal.opv rfl) rfl rfl rfl ?_
  refine WL.val (OpVal.opv rfl) rfl rfl rfl ?_
  refine WL.val (OpVal.opv rfl) rfl rfl rfl ?_
  refine WL.val (OpVal.opv rfl) rfl rfl rfl ?_
  refine WL.val (OpVal.len rfl h6) rfl rfl rfl ?_
  refine WL.val (OpVal.opv rfl) rfl rfl rfl ?_
  refine WL.val (OpVal.opv rfl) rfl rfl rfl ?_
  refine WL.val (OpVal.opv rfl) rfl rfl rfl ?_
  refine WL.val (OpVal.opv rfl) rfl rfl rfl ?_
  refine WL.val (OpVal.opv rfl) rfl rfl rfl ?_
  refine WL.val (OpVal.opv rfl) rfl rfl rfl ?_
  refine WL.val (OpVal.opv rfl) rfl rfl rfl ?_
  refine WL.val (OpVal.opv rfl) rfl rfl rfl ?_
  refine WL.val (OpVal.opv rfl) rfl rfl rfl ?_
  refine WL.val (OpVal.opv rfl) rfl rfl rfl ?_
  refine WL.val (OpVal.opv rfl) rfl rfl rfl ?_
  refine WL.val (OpVal.opv rfl) rfl rfl rfl ?_
  refine WL.val (OpVal.opv rfl) rfl rfl rfl ?_
  refine WL.val (OpVal.opv rfl) rfl rfl rfl ?_
  refine WL.val (OpVal.opv rfl) rfl rfl rfl ?_
  refine WL.val (OpVal.opv rfl) rfl rfl rfl ?_
  refine WL.abs (OpAbs.lit [_] rfl (Nat.le_of_ble_eq_true rfl) rfl rfl (by simp [Value.cells]) (Nat.le_of_ble_eq_true rfl) rfl (by first | (simp [Value.oneCell']; done) | exact List.all_eq_true.1 rfl)) rfl rfl rfl ?_
  rintro m124 _ ⟨hc124, a124, rfl⟩
  refine WL.val (OpVal.call rfl (fun m hm => same6_eq (h7.le (by repeat (first | exact hm.1 | replace hm := hm.2))) ((ints_lit (xs := [0]) hc124).le (by repeat (first | exact hm.1 | replace hm := hm.2))))) rfl rfl rfl ?_
  refine WL.val (OpVal.opv rfl) rfl rfl rfl ?_
  refine WL.val (OpVal.opv rfl) rfl rfl rfl ?_
  refine WL.nil ?_
  refine Kseq.go ?_
  refine W.ret ?_; skip; refine ⟨.inl rfl, [_], mj, ⟨.tmp rfl, trivial⟩, (by repeat (first | exact .head _ | refine .tail _ ?_)), ?_⟩
  rfl
end Go.Proofs.YtdnbkjgbehakpaaGreat
