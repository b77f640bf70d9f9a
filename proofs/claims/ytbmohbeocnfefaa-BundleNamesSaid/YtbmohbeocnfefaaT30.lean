/- The statements' function awake: the chapter's examples hold. -/
import Derived.Test.YtbmohbeocnfefaaP6
namespace Go.Proofs.Ytbmohbeocnfefaa
open Go Go.Eng Go.RowKit

theorem ints_same {h : Mem} {av bv : Value} {a : List Int} (ha : IsInts h av a) (hb : IsInts h bv a) : FnV Try.prog 17 #[av, bv] h (.bool true) := by
  have := ints_any ha hb
  rwa [decide_eq_true rfl] at this
theorem whose_exA {h : Mem} {v : Value} (hv : IsTable h v exA) : FnR Try.prog 8 #[v] h (fun m r => ∃ lv, r = .tuple #[lv, vi 0] ∧ IsLists m lv [[0, 1], [0, 1], [0, 1], [2]]) := by
  have := whoseT_any hv exA_sm
  rwa [exA_askE, if_pos rfl, exA_who] at this
theorem astray_exA {h : Mem} {v : Value} (hv : IsTable h v exA) : FnV Try.prog 10 #[v] h (.tuple #[.agg #[vi 1, vi 3], vi 0]) := by
  have := astrayT_any hv exA_sm
  rwa [exA_askE, if_pos rfl, exA_lo, exA_hi] at this
theorem fewest_exA {h : Mem} {v : Value} (hv : IsTable h v exA) : FnR Try.prog 15 #[v] h (fun m r => ∃ lv, r = .tuple #[lv, vi 0] ∧ IsInts m lv [0, 0, 1, 2]) := by
  have := fewestT_any hv exA_sm
  rwa [exA_askE, if_pos rfl, exA_fewest] at this
theorem moves_exA {h : Mem} {v : Value} (hv : IsTable h v exA) : FnR Try.prog 22 #[v] h (fun m r => ∃ lv, r = .tuple #[lv, vi 0] ∧ IsMoves m lv [⟨3, 1, 2⟩]) := by
  have := movesT_any hv exA_sm
  rwa [exA_askE, if_pos rfl, exA_moves] at this
theorem misses_exA {h : Mem} {v : Value} (hv : IsTable h v exA) : FnR Try.prog 23 #[v] h (fun m r => ∃ lv, r = .tuple #[lv, vi 0] ∧ IsInts m lv [3, 3, 1]) := by
  have := missesT_any hv exA_sm
  rwa [exA_askE, if_pos rfl, exA_miss] at this
theorem look_exA {h : Mem} {v : Value} (hv : IsTable h v exA) : FnV Try.prog 24 #[v] h (.tuple #[vi 0, vi 2, vi 0]) := by
  have := lookT_any hv exA_sm
  rwa [exA_look.1, if_pos rfl, exA_look.2] at this
theorem first_exB {h : Mem} {v : Value} (hv : IsTable h v exB) : FnV Try.prog 16 #[v] h (.tuple #[vi 2, vi 0]) := by
  have := firstT_any hv exB_sm
  rwa [exB_first] at this
theorem leave_exC {h : Mem} {v : Value} (hv : IsTable h v exC) : FnR Try.prog 11 #[v] h (fun m r => ∃ lv, r = .tuple #[lv, vi 0] ∧ IsInts m lv [0, 2]) := by
  refine (leaveT_any hv exC_sm).mono ?_
  rintro m r ⟨lv, h1, _, h2⟩
  rw [exC_leave.1] at h1
  exact ⟨lv, h1, h2 exC_leave.1 _ exC_leave.2⟩
theorem play_exA {h : Mem} {v lv : Value} (hv : IsTable h v exA) (hl : IsInts h lv [0, 0, 1, 2]) : FnR Try.prog 21 #[v, lv] h (fun m r => ∃ a b, r = .tuple #[a, b, vi 0] ∧ IsInts m a [2, 1, 1] ∧ IsInts m b [3]) := by
  have := playT_any hv exA_sm hl
  rwa [exA_play.1, if_pos rfl, if_pos rfl, exA_play.2.1, exA_play.2.2] at this

/-- awake -/
theorem awake_any {h : Mem} : FnV Try.prog 6 #[] h (.bool true) := by
  refine FnR.val ?_
  refine FnR.of_W (n := 176) Try.func6 rfl rfl (Nat.le_of_ble_eq_true rfl) fun c hr hD hF => ?_
  refine W.seq ?_
  refine W.region ?_
  refine WL.val (OpVal.opv rfl) rfl rfl rfl ?_
  refine WL.nil ?_
  refine Kseq.go (W.seq ?_)
  skip
  refine W.region ?_
  refine WL.abs (OpAbs.call rfl (fun m hm => three_any _ _ _)) rfl rfl rfl ?_
  rintro m22 v22 h22
  refine WL.abs (OpAbs.call rfl (fun m hm => bestL_any)) rfl rfl rfl ?_
  rintro m23 v23 h23
  refine WL.abs (OpAbs.call rfl (fun m hm => play_exA (h22.le (by repeat (first | exact hm.1 | replace hm := hm.2))) (h23.le (by repeat (first | exact hm.1 | replace hm := hm.2))))) rfl rfl rfl ?_
  rintro m24 _ ⟨w1, w2, rfl, hw1, hw2⟩
  refine WL.val (OpVal.opv rfl) rfl rfl rfl ?_
  refine WL.val (OpVal.opv rfl) rfl rfl rfl ?_
  refine WL.val (OpVal.opv rfl) rfl rfl rfl ?_
  refine WL.val (OpVal.opv rfl) rfl rfl rfl ?_
  refine WL.val (OpVal.opv rfl) rfl rfl rfl ?_
  refine WL.val (OpVal.opv rfl) rfl rfl rfl ?_
  refine WL.val (OpVal.opv rfl) rfl rfl rfl ?_
  refine WL.nil ?_
  refine Kseq.go (W.seq ?_)
  skip
  refine W.region ?_
  refine WL.abs (OpAbs.call rfl (fun m hm => three_any _ _ _)) rfl rfl rfl ?_
  rintro m29 v29 h29
  refine WL.abs (OpAbs.call rfl (fun m hm => whose_exA (h29.le (by repeat (first | exact hm.1 | replace hm := hm.2))))) rfl rfl rfl ?_
  rintro m30 _ ⟨lv30, rfl, hl30⟩
  refine WL.val (OpVal.opv rfl) rfl rfl rfl ?_
  refine WL.val (OpVal.opv rfl) rfl rfl rfl ?_
  refine WL.val (OpVal.opv rfl) rfl rfl rfl ?_
  refine WL.val (OpVal.opv rfl) rfl rfl rfl ?_
  refine WL.val (OpVal.opv rfl) rfl rfl rfl ?_
  refine WL.nil ?_
  refine Kseq.go (W.seq ?_)
  skip
  refine W.region ?_
  refine WL.abs (OpAbs.call rfl (fun m hm => three_any _ _ _)) rfl rfl rfl ?_
  rintro m34 v34 h34
  refine WL.val (OpVal.call rfl (fun m hm => astray_exA (h34.le (by repeat (first | exact hm.1 | replace hm := hm.2))))) rfl rfl rfl ?_
  refine WL.val (OpVal.opv rfl) rfl rfl rfl ?_
  refine WL.val (OpVal.opv rfl) rfl rfl rfl ?_
  refine WL.val (OpVal.opv rfl) rfl rfl rfl ?_
  refine WL.alloc rfl rfl rfl (fun b6 => ?_)
  refine WL.store [_, _] rfl (.head _) rfl rfl rfl (Nat.le_of_ble_eq_true rfl) (by first | (simp [Value.cells, Value.oneCell']; done) | exact IsArr.ones hW (by omega) | exact IsArr.ones hP (by omega) | exact IsArr.ones hS (by omega) | exact IsArr.ones hH (by omega) | exact IsArr.ones hL (by omega) | exact IsArr.ones hB (by omega) | exact IsArr.ones hT (by omega) | exact IsArr.ones hm (by omega)) rfl ?_
  refine WL.val (OpVal.opv rfl) rfl rfl rfl ?_
  refine WL.nil ?_
  refine Kseq.go (W.seq ?_)
  skip
  refine W.region ?_
  refine WL.abs (OpAbs.call rfl (fun m hm => three_any _ _ _)) rfl rfl rfl ?_
  rintro m39 v39 h39
  refine WL.abs (OpAbs.call rfl (fun m hm => fewest_exA (h39.le (by repeat (first | exact hm.1 | replace hm := hm.2))))) rfl rfl rfl ?_
  rintro m40 _ ⟨lv40, rfl, hl40⟩
  refine WL.val (OpVal.opv rfl) rfl rfl rfl ?_
  refine WL.val (OpVal.opv rfl) rfl rfl rfl ?_
  refine WL.val (OpVal.opv rfl) rfl rfl rfl ?_
  refine WL.val (OpVal.opv rfl) rfl rfl rfl ?_
  refine WL.val (OpVal.opv rfl) rfl rfl rfl ?_
  refine WL.nil ?_
  refine Kseq.go (W.seq ?_)
  skip
  refine W.region ?_
  refine WL.abs (OpAbs.call rfl (fun m hm => three_any _ _ _)) rfl rfl rfl ?_
  rintro m44 v44 h44
  refine WL.abs (OpAbs.call rfl (fun m hm => moves_exA (h44.le (by repeat (first | exact hm.1 | replace hm := hm.2))))) rfl rfl rfl ?_
  rintro m45 _ ⟨lv45, rfl, hl45⟩
  refine WL.val (OpVal.opv rfl) rfl rfl rfl ?_
  refine WL.val (OpVal.opv rfl) rfl rfl rfl ?_
  refine WL.val (OpVal.opv rfl) rfl rfl rfl ?_
  refine WL.val (OpVal.opv rfl) rfl rfl rfl ?_
  refine WL.val (OpVal.opv rfl) rfl rfl rfl ?_
  refine WL.nil ?_
  refine Kseq.go (W.seq ?_)
  skip
  refine W.region ?_
  refine WL.abs (OpAbs.call rfl (fun m hm => three_any _ _ _)) rfl rfl rfl ?_
  rintro m49 v49 h49
  refine WL.abs (OpAbs.call rfl (fun m hm => misses_exA (h49.le (by repeat (first | exact hm.1 | replace hm := hm.2))))) rfl rfl rfl ?_
  rintro m50 _ ⟨lv50, rfl, hl50⟩
  refine WL.val (OpVal.opv rfl) rfl rfl rfl ?_
  refine WL.val (OpVal.opv rfl) rfl rfl rfl ?_
  refine WL.val (OpVal.opv rfl) rfl rfl rfl ?_
  refine WL.val (OpVal.opv rfl) rfl rfl rfl ?_
  refine WL.val (OpVal.opv rfl) rfl rfl rfl ?_
  refine WL.nil ?_
  refine Kseq.go (W.seq ?_)
  skip
  refine W.region ?_
  refine WL.abs (OpAbs.call rfl (fun m hm => three_any _ _ _)) rfl rfl rfl ?_
  rintro m54 v54 h54
  refine WL.val (OpVal.call rfl (fun m hm => look_exA (h54.le (by repeat (first | exact hm.1 | replace hm := hm.2))))) rfl rfl rfl ?_
  refine WL.val (OpVal.opv rfl) rfl rfl rfl ?_
  refine WL.val (OpVal.opv rfl) rfl rfl rfl ?_
  refine WL.val (OpVal.opv rfl) rfl rfl rfl ?_
  refine WL.val (OpVal.opv rfl) rfl rfl rfl ?_
  refine WL.val (OpVal.opv rfl) rfl rfl rfl ?_
  refine WL.val (OpVal.opv rfl) rfl rfl rfl ?_
  refine WL.val (OpVal.opv rfl) rfl rfl rfl ?_
  refine WL.nil ?_
  refine Kseq.go (W.seq ?_)
  skip
  refine W.region ?_
  refine WL.abs (OpAbs.call rfl (fun m hm => three_any _ _ _)) rfl rfl rfl ?_
  rintro m60 v60 h60
  refine WL.val (OpVal.call rfl (fun m hm => first_exB (h60.le (by repeat (first | exact hm.1 | replace hm := hm.2))))) rfl rfl rfl ?_
  refine WL.val (OpVal.opv rfl) rfl rfl rfl ?_
  refine WL.val (OpVal.opv rfl) rfl rfl rfl ?_
  refine WL.val (OpVal.opv rfl) rfl rfl rfl ?_
  refine WL.val (OpVal.opv rfl) rfl rfl rfl ?_
  refine WL.val (OpVal.opv rfl) rfl rfl rfl ?_
  refine WL.nil ?_
  refine Kseq.go (W.seq ?_)
  skip
  refine W.region ?_
  refine WL.abs (OpAbs.call rfl (fun m hm => three_any _ _ _)) rfl rfl rfl ?_
  rintro m65 v65 h65
  refine WL.abs (OpAbs.call rfl (fun m hm => leave_exC (h65.le (by repeat (first | exact hm.1 | replace hm := hm.2))))) rfl rfl rfl ?_
  rintro m66 _ ⟨lv66, rfl, hl66⟩
  refine WL.val (OpVal.opv rfl) rfl rfl rfl ?_
  refine WL.val (OpVal.opv rfl) rfl rfl rfl ?_
  refine WL.val (OpVal.opv rfl) rfl rfl rfl ?_
  refine WL.val (OpVal.opv rfl) rfl rfl rfl ?_
  refine WL.val (OpVal.opv rfl) rfl rfl rfl ?_
  refine WL.nil ?_
  refine Kseq.go (W.seq ?_)
  obtain ⟨vs, hvs, hL⟩ := hl30
  refine W.join fun mj hj => ?_
  have hw1' := hw1.le (hj _ (by simp))
  have hw2' := hw2.le (hj _ (by simp))
  have hl40' := hl40.le (hj _ (by simp))
  have hl45' := hl45.le (hj _ (by simp))
  have hl50' := hl50.le (hj _ (by simp))
  have hl66' := hl66.le (hj _ (by simp))
  have hL' := IsArr.le hL (hj _ (by simp))
  have hv1 := (hvs.2 1 (by decide)).le (hj _ (by simp))
  have hv3 := (hvs.2 3 (by decide)).le (hj _ (by simp))
  refine W.weaken [(1, w1), (2, w2), (3, vi 0), (4, lv30), (5, vi 0), (6, .pointer (some ⟨b6, 0, none⟩)), (7, vi 0), (8, lv40), (9, vi 0), (10, lv45), (11, vi 0), (12, lv50), (13, vi 0), (14, vi 0), (15, vi 2), (16, vi 0), (17, vi 2), (18, vi 0), (19, lv66), (20, vi 0)] [mj] [.blk b6 #[vi 1, vi 3] 45] (by repeat (first | exact trivial | refine ⟨rfl, ?_⟩)) (by simp) (.refl _) ?_
  clear hw1 hw2 hl40 hl45 hl50 hl66 hL hvs
  skip
  refine W.draw 105 (by kernel_rfl) (by kernel_rfl) (by kernel_rfl) rfl ?_
  refine DJ.val [] (OpVal.opv rfl) rfl rfl rfl rfl ?_
  refine DJ.val [] (OpVal.opv rfl) rfl rfl rfl rfl ?_
  refine DJ.val [] (OpVal.opv rfl) rfl rfl rfl rfl ?_
  refine DJ.val [] (OpVal.opv rfl) rfl rfl rfl rfl ?_
  refine DJ.abs (A := fun m r => IsInts m r [2, 1, 1]) [] (OpAbs.mono (OpAbs.lit [vi 2, vi 1, vi 1] rfl (Nat.le_of_ble_eq_true rfl) rfl rfl (by simp [Value.cells]) (Nat.le_of_ble_eq_true rfl) rfl (by simp [Value.oneCell'])) (fun m' v' h' => ints_lit (xs := [2, 1, 1]) h'.1)) rfl rfl rfl rfl ?_
  refine DJ.val [(73, fun m r => IsInts m r [2, 1, 1])] (fun m73 v73 h73 => OpVal.call rfl (fun m hm => ints_same (hw1'.le (by repeat (first | exact hm.1 | replace hm := hm.2))) (h73.le (by repeat (first | exact hm.1 | replace hm := hm.2))))) rfl rfl rfl rfl ?_ (hG := ⟨(by repeat (first | exact .head _ | refine .tail _ ?_)), rfl, trivial⟩)
  refine DJ.val [] (OpVal.opv rfl) rfl rfl rfl rfl ?_
  refine DJ.val [] (OpVal.opv rfl) rfl rfl rfl rfl ?_
  refine DJ.val [] (OpVal.opv rfl) rfl rfl rfl rfl ?_
  refine DJ.abs (A := fun m r => IsInts m r [3]) [] (OpAbs.mono (OpAbs.lit [vi 3] rfl (Nat.le_of_ble_eq_true rfl) rfl rfl (by simp [Value.cells]) (Nat.le_of_ble_eq_true rfl) rfl (by simp [Value.oneCell'])) (fun m' v' h' => ints_lit (xs := [3]) h'.1)) rfl rfl rfl rfl ?_
  refine DJ.val [(78, fun m r => IsInts m r [3])] (fun m78 v78 h78 => OpVal.call rfl (fun m hm => ints_same (hw2'.le (by repeat (first | exact hm.1 | replace hm := hm.2))) (h78.le (by repeat (first | exact hm.1 | replace hm := hm.2))))) rfl rfl rfl rfl ?_ (hG := ⟨(by repeat (first | exact .head _ | refine .tail _ ?_)), rfl, trivial⟩)
  refine DJ.val [] (OpVal.opv rfl) rfl rfl rfl rfl ?_
  refine DJ.val [] (OpVal.opv rfl) rfl rfl rfl rfl ?_
  refine DJ.val [] (OpVal.opv rfl) rfl rfl rfl rfl ?_
  refine DJ.val [] (OpVal.opv rfl) rfl rfl rfl rfl ?_
  refine DJ.val [] (OpVal.opv rfl) rfl rfl rfl rfl ?_
  refine DJ.val [] (OpVal.opv rfl) rfl rfl rfl rfl ?_
  refine DJ.val [] (OpVal.opv rfl) rfl rfl rfl rfl ?_
  refine DJ.val [] (OpVal.len rfl hL') rfl rfl rfl rfl ?_
  refine DJ.val [] (OpVal.opv rfl) rfl rfl rfl rfl ?_
  refine DJ.val [] (OpVal.opv rfl) rfl rfl rfl rfl ?_
  refine DJ.val [] (OpVal.opv rfl) rfl rfl rfl rfl ?_
  refine DJ.val [] (OpVal.opv rfl) rfl rfl rfl rfl ?_
  refine DJ.val [] (OpVal.indexAddr rfl rfl hL' (by decide) (by decide)) rfl rfl rfl rfl ?_
  refine DJ.val [] (OpVal.loadE rfl hL' (by repeat (first | exact .head _ | refine .tail _ ?_)) (by decide) (by decide)) rfl rfl rfl rfl ?_
  refine DJ.abs (A := fun m r => IsInts m r [0, 1]) [] (OpAbs.mono (OpAbs.lit [vi 0, vi 1] rfl (Nat.le_of_ble_eq_true rfl) rfl rfl (by simp [Value.cells]) (Nat.le_of_ble_eq_true rfl) rfl (by simp [Value.oneCell'])) (fun m' v' h' => ints_lit (xs := [0, 1]) h'.1)) rfl rfl rfl rfl ?_
  refine DJ.val [(94, fun m r => IsInts m r [0, 1])] (fun m94 v94 h94 => OpVal.call rfl (fun m hm => ints_same (hv1.le (by repeat (first | exact hm.1 | replace hm := hm.2))) (h94.le (by repeat (first | exact hm.1 | replace hm := hm.2))))) rfl rfl rfl rfl ?_ (hG := ⟨(by repeat (first | exact .head _ | refine .tail _ ?_)), rfl, trivial⟩)
  refine DJ.val [] (OpVal.opv rfl) rfl rfl rfl rfl ?_
  refine DJ.val [] (OpVal.opv rfl) rfl rfl rfl rfl ?_
  refine DJ.val [] (OpVal.opv rfl) rfl rfl rfl rfl ?_
  refine DJ.val [] (OpVal.indexAddr rfl rfl hL' (by decide) (by decide)) rfl rfl rfl rfl ?_
  refine DJ.val [] (OpVal.loadE rfl hL' (by repeat (first | exact .head _ | refine .tail _ ?_)) (by decide) (by decide)) rfl rfl rfl rfl ?_
  refine DJ.abs (A := fun m r => IsInts m r [2]) [] (OpAbs.mono (OpAbs.lit [vi 2] rfl (Nat.le_of_ble_eq_true rfl) rfl rfl (by simp [Value.cells]) (Nat.le_of_ble_eq_true rfl) rfl (by simp [Value.oneCell'])) (fun m' v' h' => ints_lit (xs := [2]) h'.1)) rfl rfl rfl rfl ?_
  refine DJ.val [(101, fun m r => IsInts m r [2])] (fun m101 v101 h101 => OpVal.call rfl (fun m hm => ints_same (hv3.le (by repeat (first | exact hm.1 | replace hm := hm.2))) (h101.le (by repeat (first | exact hm.1 | replace hm := hm.2))))) rfl rfl rfl rfl ?_ (hG := ⟨(by repeat (first | exact .head _ | refine .tail _ ?_)), rfl, trivial⟩)
  refine DJ.val [] (OpVal.opv rfl) rfl rfl rfl rfl ?_
  refine DJ.val [] (OpVal.opv rfl) rfl rfl rfl rfl ?_
  refine DJ.val [] (OpVal.opv rfl) rfl rfl rfl rfl ?_
  refine DJ.val [] (OpVal.opv rfl) rfl rfl rfl rfl ?_
  refine DJ.val [] (OpVal.opv rfl) rfl rfl rfl rfl ?_
  refine DJ.val [] (OpVal.opv rfl) rfl rfl rfl rfl ?_
  refine DJ.val [] (OpVal.loadBW rfl (.head _) rfl) rfl rfl rfl rfl ?_
  refine DJ.val [] (OpVal.call rfl (fun m hm => between_any _ _)) rfl rfl rfl rfl ?_
  refine DJ.val [] (OpVal.cast (OpVal.eqQ (N := 2) (enc := vi) (xs := [1, 3]) (ys := [1, 3]) rfl rfl rfl rfl) (show _ = Value.bool true from rfl)) rfl rfl rfl rfl ?_
  refine DJ.val [] (OpVal.opv rfl) rfl rfl rfl rfl ?_
  refine DJ.val [] (OpVal.opv rfl) rfl rfl rfl rfl ?_
  refine DJ.val [] (OpVal.opv rfl) rfl rfl rfl rfl ?_
  refine DJ.val [] (OpVal.opv rfl) rfl rfl rfl rfl ?_
  refine DJ.val [] (OpVal.opv rfl) rfl rfl rfl rfl ?_
  refine DJ.val [] (OpVal.opv rfl) rfl rfl rfl rfl ?_
  refine DJ.val [] (OpVal.opv rfl) rfl rfl rfl rfl ?_
  refine DJ.abs (A := fun m r => IsInts m r [0, 0, 1, 2]) [] (OpAbs.call rfl (fun m hm => bestL_any)) rfl rfl rfl rfl ?_
  refine DJ.val [(119, fun m r => IsInts m r [0, 0, 1, 2])] (fun m119 v119 h119 => OpVal.call rfl (fun m hm => ints_same (hl40'.le (by repeat (first | exact hm.1 | replace hm := hm.2))) (h119.le (by repeat (first | exact hm.1 | replace hm := hm.2))))) rfl rfl rfl rfl ?_ (hG := ⟨(by repeat (first | exact .head _ | refine .tail _ ?_)), rfl, trivial⟩)
  refine DJ.val [] (OpVal.opv rfl) rfl rfl rfl rfl ?_
  refine DJ.val [] (OpVal.opv rfl) rfl rfl rfl rfl ?_
  refine DJ.val [] (OpVal.opv rfl) rfl rfl rfl rfl ?_
  refine DJ.val [] (OpVal.opv rfl) rfl rfl rfl rfl ?_
  refine DJ.val [] (OpVal.opv rfl) rfl rfl rfl rfl ?_
  refine DJ.val [] (OpVal.opv rfl) rfl rfl rfl rfl ?_
  refine DJ.val [] (OpVal.opv rfl) rfl rfl rfl rfl ?_
  refine DJ.val [] (OpVal.len rfl hl45') rfl rfl rfl rfl ?_
  refine DJ.val [] (OpVal.opv rfl) rfl rfl rfl rfl ?_
  refine DJ.val [] (OpVal.opv rfl) rfl rfl rfl rfl ?_
  refine DJ.val [] (OpVal.opv rfl) rfl rfl rfl rfl ?_
  refine DJ.val [] (OpVal.opv rfl) rfl rfl rfl rfl ?_
  refine DJ.val [] (OpVal.indexAddr rfl rfl hl45' (by decide) (by decide)) rfl rfl rfl rfl ?_
  refine DJ.val [] (OpVal.cast (OpVal.loadEA rfl hl45' (by repeat (first | exact .head _ | refine .tail _ ?_)) (by decide)) (show _ = vq [3, 1, 2] from rfl)) rfl rfl rfl rfl ?_
  refine DJ.val [] (OpVal.cast (OpVal.build3 rfl rfl) (show _ = vq [3, 1, 2] from rfl)) rfl rfl rfl rfl ?_
  refine DJ.val [] (OpVal.cast (OpVal.eqQ (N := 3) (enc := vi) (xs := [3, 1, 2]) (ys := [3, 1, 2]) rfl rfl rfl rfl) (show _ = Value.bool true from rfl)) rfl rfl rfl rfl ?_
  refine DJ.val [] (OpVal.opv rfl) rfl rfl rfl rfl ?_
  refine DJ.val [] (OpVal.opv rfl) rfl rfl rfl rfl ?_
  refine DJ.val [] (OpVal.opv rfl) rfl rfl rfl rfl ?_
  refine DJ.val [] (OpVal.opv rfl) rfl rfl rfl rfl ?_
  refine DJ.val [] (OpVal.opv rfl) rfl rfl rfl rfl ?_
  refine DJ.val [] (OpVal.opv rfl) rfl rfl rfl rfl ?_
  refine DJ.val [] (OpVal.opv rfl) rfl rfl rfl rfl ?_
  refine DJ.abs (A := fun m r => IsInts m r [3, 3, 1]) [] (OpAbs.mono (OpAbs.lit [vi 3, vi 3, vi 1] rfl (Nat.le_of_ble_eq_true rfl) rfl rfl (by simp [Value.cells]) (Nat.le_of_ble_eq_true rfl) rfl (by simp [Value.oneCell'])) (fun m' v' h' => ints_lit (xs := [3, 3, 1]) h'.1)) rfl rfl rfl rfl ?_
  refine DJ.val [(144, fun m r => IsInts m r [3, 3, 1])] (fun m144 v144 h144 => OpVal.call rfl (fun m hm => ints_same (hl50'.le (by repeat (first | exact hm.1 | replace hm := hm.2))) (h144.le (by repeat (first | exact hm.1 | replace hm := hm.2))))) rfl rfl rfl rfl ?_ (hG := ⟨(by repeat (first | exact .head _ | refine .tail _ ?_)), rfl, trivial⟩)
  refine DJ.val [] (OpVal.opv rfl) rfl rfl rfl rfl ?_
  refine DJ.val [] (OpVal.opv rfl) rfl rfl rfl rfl ?_
  refine DJ.val [] (OpVal.opv rfl) rfl rfl rfl rfl ?_
  refine DJ.val [] (OpVal.opv rfl) rfl rfl rfl rfl ?_
  refine DJ.val [] (OpVal.opv rfl) rfl rfl rfl rfl ?_
  refine DJ.val [] (OpVal.opv rfl) rfl rfl rfl rfl ?_
  refine DJ.val [] (OpVal.opv rfl) rfl rfl rfl rfl ?_
  refine DJ.val [] (OpVal.opv rfl) rfl rfl rfl rfl ?_
  refine DJ.val [] (OpVal.opv rfl) rfl rfl rfl rfl ?_
  refine DJ.val [] (OpVal.opv rfl) rfl rfl rfl rfl ?_
  refine DJ.val [] (OpVal.opv rfl) rfl rfl rfl rfl ?_
  refine DJ.val [] (OpVal.opv rfl) rfl rfl rfl rfl ?_
  refine DJ.val [] (OpVal.opv rfl) rfl rfl rfl rfl ?_
  refine DJ.val [] (OpVal.opv rfl) rfl rfl rfl rfl ?_
  refine DJ.val [] (OpVal.opv rfl) rfl rfl rfl rfl ?_
  refine DJ.val [] (OpVal.opv rfl) rfl rfl rfl rfl ?_
  refine DJ.val [] (OpVal.opv rfl) rfl rfl rfl rfl ?_
  refine DJ.val [] (OpVal.opv rfl) rfl rfl rfl rfl ?_
  refine DJ.val [] (OpVal.opv rfl) rfl rfl rfl rfl ?_
  refine DJ.val [] (OpVal.opv rfl) rfl rfl rfl rfl ?_
  refine DJ.val [] (OpVal.opv rfl) rfl rfl rfl rfl ?_
  refine DJ.val [] (OpVal.opv rfl) rfl rfl rfl rfl ?_
  refine DJ.val [] (OpVal.opv rfl) rfl rfl rfl rfl ?_
  refine DJ.val [] (OpVal.opv rfl) rfl rfl rfl rfl ?_
  refine DJ.val [] (OpVal.opv rfl) rfl rfl rfl rfl ?_
  refine DJ.val [] (OpVal.opv rfl) rfl rfl rfl rfl ?_
  refine DJ.val [] (OpVal.opv rfl) rfl rfl rfl rfl ?_
  refine DJ.abs (A := fun m r => IsInts m r [0, 2]) [] (OpAbs.mono (OpAbs.lit [vi 0, vi 2] rfl (Nat.le_of_ble_eq_true rfl) rfl rfl (by simp [Value.cells]) (Nat.le_of_ble_eq_true rfl) rfl (by simp [Value.oneCell'])) (fun m' v' h' => ints_lit (xs := [0, 2]) h'.1)) rfl rfl rfl rfl ?_
  refine DJ.nil ?_
  rintro m173 v173 h173
  rintro m144 v144 h144
  rintro m119 v119 h119
  rintro m101 v101 h101
  rintro m94 v94 h94
  rintro m78 v78 h78
  rintro m73 v73 h73
  refine WL.val (OpVal.call rfl (fun m hm => ints_same (hl66'.le (by repeat (first | exact hm.1 | replace hm := hm.2))) (h173.le (by repeat (first | exact hm.1 | replace hm := hm.2))))) rfl rfl rfl ?_
  refine WL.val (OpVal.opv rfl) rfl rfl rfl ?_
  refine WL.val (OpVal.opv rfl) rfl rfl rfl ?_
  refine WL.nil ?_
  refine Kseq.go ?_
  refine W.ret ?_; skip; refine ⟨.inl rfl, [_], mj, ⟨.tmp rfl, trivial⟩, (by repeat (first | exact .head _ | refine .tail _ ?_)), ?_⟩
  rfl
end Go.Proofs.Ytbmohbeocnfefaa
