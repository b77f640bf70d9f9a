/- Plain law: the chapter's examples, reckoned. -/
import Derived.Test.YtppkhehbkoeinaaP20
import Derived.Test.YtppkhehbkoeinaaT70
import Derived.Test.YtppkhehbkoeinaaT73
namespace Go.Proofs.Ytppkhehbkoeinaa
open Go Go.Eng Go.RowKit

def threeE (calls last : Int) : Errand := ⟨⟨[⟨1, 1, 1⟩, ⟨2, 1, 1⟩, ⟨3, 1, 1⟩], [⟨[1], 1⟩, ⟨[2], 0⟩, ⟨[3], 0⟩], 0⟩, [⟨600, 640⟩, ⟨610, last⟩, ⟨600, 640⟩], [⟨5, 6⟩, ⟨7, 7⟩, ⟨4, 4⟩, ⟨3, 5⟩, ⟨6, 8⟩, ⟨9, 9⟩], 600, calls⟩
theorem threeE_sm (a b : Int) : SmE (threeE a b) := ⟨⟨by simp [threeE], by simp [threeE], fun i hi => by
  have h3 : i < 3 := hi
  match i, h3 with
  | 0, _ => simp [threeE]
  | 1, _ => simp [threeE]
  | 2, _ => simp [threeE]⟩, by simp [threeE], by simp [threeE]⟩
theorem exE_play : playE11 (threeE 5 640) [5, 7, 4, 4, 7, 9] [0, 1, 2] = 0 ∧ minutes (threeE 5 640) [5, 7, 4, 4, 7, 9] [0, 1, 2] = [604, 610, 614] := by decide +kernel
theorem exE_comes : walkedE (threeE 5 640) [0, 1, 2, 0] = 0 ∧ comesTo (threeE 5 640) [0, 1, 2, 0] 4 = [⟨604, 604⟩, ⟨610, 610⟩, ⟨613, 615⟩, ⟨620, 622⟩] := by decide +kernel
theorem exE_brings : piecesB (movesR (threeE 5 640)) (fun i => brought [0, 1, 2, 0] ((movesR (threeE 5 640)).getD i default)) = [0, 1, 2] := by decide +kernel
theorem exE_late : lateV (threeE 5 621) [1, 0, 1, 2] = (2, 0) := by decide +kernel
theorem exE_best : bestErr (threeE 5 640) = 0 ∧ bestV (threeE 5 640) = some [0, 1, 2, 0] ∧ endingE (threeE 5 640) [0, 1, 2, 0] = 622 := by decide +kernel
theorem exE_fewest : faultT (threeE 3 640) = 0 ∧ fewestP 3 (movesR (threeE 3 640)) = 4 := by decide +kernel
theorem exE_wait : waitV (threeE 3 640) = [0] := by decide +kernel
end Go.Proofs.Ytppkhehbkoeinaa

/- The statements' function awake of chapter 11: the chapter's examples hold. -/
namespace Go.Proofs.Ytppkhehbkoeinaa
open Go Go.Eng Go.RowKit

/-- three -/
theorem three11_any {h : Mem} (calls last : Int) : FnR Try.prog 42 #[vi calls, vi last] h (fun m q => IsErrand m q (threeE calls last)) := by
  refine FnR.of_W (n := 38) Try.func42 rfl rfl (Nat.le_of_ble_eq_true rfl) fun c hr hD hF => ?_
  refine W.seq ?_; refine W.region ?_
  refine WL.alloc rfl rfl rfl (fun b4 => ?_)
  refine WL.nil ?_
  refine Kseq.go (W.seq ?_)
  refine W.region ?_; refine .val (.build2 rfl rfl) rfl rfl rfl ?_
  refine WL.alloc rfl rfl rfl (fun b5 => ?_)
  refine WL.store [_, _] rfl (.head _) rfl rfl rfl (Nat.le_of_ble_eq_true rfl) (by first | (simp [Value.cells, Value.oneCell']; done) | exact IsArr.ones hW (by omega) | exact IsArr.ones hP (by omega) | exact IsArr.ones hS (by omega) | exact IsArr.ones hH (by omega) | exact IsArr.ones hL (by omega) | exact IsArr.ones hB (by omega) | exact IsArr.ones hT (by omega) | exact IsArr.ones hm (by omega)) rfl ?_
  refine WL.nil ?_
  refine Kseq.go (W.seq ?_)
  refine W.region ?_; refine .val (.loadBW rfl (.head _) rfl) rfl rfl rfl ?_; refine .val (.build3 rfl rfl) rfl rfl rfl ?_; refine .val (.loadBW rfl (.head _) rfl) rfl rfl rfl ?_; refine .val (.build3 rfl rfl) rfl rfl rfl ?_; refine .val (.loadBW rfl (.head _) rfl) rfl rfl rfl ?_; refine .val (.build3 rfl rfl) rfl rfl rfl ?_
  refine WL.abs (OpAbs.lit [_, _, _, _, _, _, _, _, _] rfl (Nat.le_of_ble_eq_true rfl) rfl rfl (by simp [Value.cells]) (Nat.le_of_ble_eq_true rfl) rfl (by first | (simp [Value.oneCell']; done) | exact List.all_eq_true.1 rfl)) rfl rfl rfl ?_
  rintro m14 _ ⟨hc14, a14, rfl⟩
  refine WL.abs (OpAbs.lit [_] rfl (Nat.le_of_ble_eq_true rfl) rfl rfl (by simp [Value.cells]) (Nat.le_of_ble_eq_true rfl) rfl (by first | (simp [Value.oneCell']; done) | exact List.all_eq_true.1 rfl)) rfl rfl rfl ?_
  rintro m15 _ ⟨hc15, a15, rfl⟩
  refine .val (.build2 rfl rfl) rfl rfl rfl ?_
  refine WL.abs (OpAbs.lit [_] rfl (Nat.le_of_ble_eq_true rfl) rfl rfl (by simp [Value.cells]) (Nat.le_of_ble_eq_true rfl) rfl (by first | (simp [Value.oneCell']; done) | exact List.all_eq_true.1 rfl)) rfl rfl rfl ?_
  rintro m17 _ ⟨hc17, a17, rfl⟩
  refine .val (.build2 rfl rfl) rfl rfl rfl ?_
  refine WL.abs (OpAbs.lit [_] rfl (Nat.le_of_ble_eq_true rfl) rfl rfl (by simp [Value.cells]) (Nat.le_of_ble_eq_true rfl) rfl (by first | (simp [Value.oneCell']; done) | exact List.all_eq_true.1 rfl)) rfl rfl rfl ?_
  rintro m19 _ ⟨hc19, a19, rfl⟩
  refine .val (.build2 rfl rfl) rfl rfl rfl ?_
  refine WL.abs (OpAbs.lit [_, _, _, _, _, _] rfl (Nat.le_of_ble_eq_true rfl) rfl rfl (by simp [Value.cells]) (Nat.le_of_ble_eq_true rfl) rfl (by first | (simp [Value.oneCell']; done) | exact List.all_eq_true.1 rfl)) rfl rfl rfl ?_
  rintro m21 _ ⟨hc21, a21, rfl⟩
  refine .val (.build3 rfl rfl) rfl rfl rfl ?_
  refine WL.alloc rfl rfl rfl (fun b6 => ?_)
  refine WL.store [_, _, _] rfl (.head _) rfl rfl rfl (Nat.le_of_ble_eq_true rfl) (by first | (simp [Value.cells, Value.oneCell']; done) | exact IsArr.ones hW (by omega) | exact IsArr.ones hP (by omega) | exact IsArr.ones hS (by omega) | exact IsArr.ones hH (by omega) | exact IsArr.ones hL (by omega) | exact IsArr.ones hB (by omega) | exact IsArr.ones hT (by omega) | exact IsArr.ones hm (by omega)) rfl ?_
  refine WL.nil ?_
  refine Kseq.go (W.seq ?_)
  let wv6 : Value := .slice (some ⟨a14, 0, none⟩) 3 3
  let pv6 : Value := .slice (some ⟨a21, 0, none⟩) 3 3
  refine W.draw 14 (by kernel_rfl) (by kernel_rfl) (by kernel_rfl) rfl ?_; refine .val [] (.loadBW rfl (.head _) rfl) rfl rfl rfl rfl ?_; refine .val [] (.call rfl (fun m hm => between11_any _ _)) rfl rfl rfl rfl ?_; refine .val [] (.opv rfl) rfl rfl rfl rfl ?_; refine .val [] (.call rfl (fun m hm => between11_any _ _)) rfl rfl rfl rfl ?_; refine .val [] (.call rfl (fun m hm => between11_any _ _)) rfl rfl rfl rfl ?_; refine DJ.abs (A := fun m q => IsRgs m q [⟨600, 640⟩, ⟨610, last⟩, ⟨600, 640⟩]) [] (OpAbs.mono (OpAbs.lit [vi 600, vi 640, vi 610, vi last, vi 600, vi 640] rfl (Nat.le_of_ble_eq_true rfl) rfl rfl (by simp [Value.cells]) (Nat.le_of_ble_eq_true rfl) rfl (by simp [Value.oneCell'])) (fun m' v' h' => rgs_lit (rs := [⟨600, 640⟩, ⟨610, last⟩, ⟨600, 640⟩]) (n := 3) rfl h'.1)) rfl rfl rfl rfl ?_; refine .val [] (.call rfl (fun m hm => between11_any _ _)) rfl rfl rfl rfl ?_; refine .val [] (.call rfl (fun m hm => between11_any _ _)) rfl rfl rfl rfl ?_
  refine .val [] (.call rfl (fun m hm => between11_any _ _)) rfl rfl rfl rfl ?_; refine .val [] (.call rfl (fun m hm => between11_any _ _)) rfl rfl rfl rfl ?_; refine .val [] (.call rfl (fun m hm => between11_any _ _)) rfl rfl rfl rfl ?_; refine .val [] (.call rfl (fun m hm => between11_any _ _)) rfl rfl rfl rfl ?_; refine DJ.abs (A := fun m q => IsRgs m q [⟨5, 6⟩, ⟨7, 7⟩, ⟨4, 4⟩, ⟨3, 5⟩, ⟨6, 8⟩, ⟨9, 9⟩]) [] (OpAbs.mono (OpAbs.lit [vi 5, vi 6, vi 7, vi 7, vi 4, vi 4, vi 3, vi 5, vi 6, vi 8, vi 9, vi 9] rfl (Nat.le_of_ble_eq_true rfl) rfl rfl (by simp [Value.cells]) (Nat.le_of_ble_eq_true rfl) rfl (by simp [Value.oneCell'])) (fun m' v' h' => rgs_lit (rs := [⟨5, 6⟩, ⟨7, 7⟩, ⟨4, 4⟩, ⟨3, 5⟩, ⟨6, 8⟩, ⟨9, 9⟩]) (n := 6) rfl h'.1)) rfl rfl rfl rfl ?_; refine .val [] (.opv rfl) rfl rfl rfl rfl ?_; refine DJ.nil ?_
  rintro m35 v35 h35
  rintro m28 v28 h28
  obtain ⟨ha, hcp, rfl⟩ := (show ∃ a cap, v28 = .slice a 3 cap from IsArr.form h28)
  obtain ⟨sa, scp, rfl⟩ := (show ∃ a cap, v35 = .slice a 6 cap from IsArr.form h35)
  refine .val (.build #[wv6, pv6, vi 0, .slice ha 3 hcp, .slice sa 6 scp, vi 600, vi calls] rfl (by kernel_rfl)) rfl rfl rfl ?_
  refine WL.store [_, _, _, _, _, _, _] rfl (.tail _ (.tail _ (.head _))) rfl rfl rfl (Nat.le_of_ble_eq_true rfl) (by first | (simp [Value.cells, Value.oneCell']; done) | exact IsArr.ones hW (by omega) | exact IsArr.ones hP (by omega) | exact IsArr.ones hS (by omega) | exact IsArr.ones hH (by omega) | exact IsArr.ones hL (by omega) | exact IsArr.ones hB (by omega) | exact IsArr.ones hT (by omega) | exact IsArr.ones hm (by omega)) rfl ?_
  refine WL.nil ?_; refine Kseq.go ?_
  refine W.join fun mj hj => ?_
  refine W.ret ?_; skip
  refine ⟨.inl rfl, [_], mj, ⟨.agg inferInstance inferInstance rfl (.tail _ (.tail _ (.head _))) rfl, trivial⟩, .head _, ?_⟩
  refine ⟨_, _, _, _, fun i => [.slice (some ⟨a15, 0, none⟩) 1 1, .slice (some ⟨a17, 0, none⟩) 1 1, .slice (some ⟨a19, 0, none⟩) 1 1].getD i undef, rfl, ?_, ?_, ?_, h28.le (hj _ (by simp)), h35.le (hj _ (by simp))⟩
  · refine ((hc14.2).congr fun i j hi hj => ?_).le (hj _ (by simp))
    have h1 : i = 0 ∨ i = 1 ∨ i = 2 := by omega
    have h2 : j = 0 ∨ j = 1 ∨ j = 2 := by omega
    rcases h1 with rfl | rfl | rfl <;> rcases h2 with rfl | rfl | rfl <;> rfl
  · refine ((hc21.2).congr fun i j hi hj => ?_).le (hj _ (by simp))
    have h1 : i = 0 ∨ i = 1 ∨ i = 2 := by omega
    have h2 : j = 0 ∨ j = 1 := by omega
    rcases h1 with rfl | rfl | rfl <;> rcases h2 with rfl | rfl <;> rfl
  · intro i hi
    have h1 : i = 0 ∨ i = 1 ∨ i = 2 := by simp [threeE] at hi; omega
    rcases h1 with rfl | rfl | rfl
    · exact (ints_lit (xs := [1]) hc15).le (hj _ (by simp))
    · exact (ints_lit (xs := [2]) hc17).le (hj _ (by simp))
    · exact (ints_lit (xs := [3]) hc19).le (hj _ (by simp))

theorem ints11_same {h : Mem} {av bv : Value} {a : List Int} (ha : IsInts h av a) (hb : IsInts h bv a) : FnV Try.prog 46 #[av, bv] h (.bool true) := by
  have := ints11_any ha hb
  rwa [decide_eq_true rfl] at this
theorem play_ex {h : Mem} {v tv lv : Value} (hv : IsErrand h v (threeE 5 640)) (ht : IsInts h tv [5, 7, 4, 4, 7, 9]) (hl : IsInts h lv [0, 1, 2]) : FnR Try.prog 48 #[v, tv, lv] h (fun m q => ∃ cv, q = .tuple #[cv, vi 0] ∧ IsInts m cv [604, 610, 614]) := by
  have := playT11_any hv (threeE_sm _ _) ht hl
  rwa [exE_play.1, if_pos rfl, exE_play.2] at this
theorem comes_ex {h : Mem} {v lv : Value} (hv : IsErrand h v (threeE 5 640)) (hl : IsInts h lv [0, 1, 2, 0]) : FnR Try.prog 45 #[v, lv] h (fun m q => ∃ cv, q = .tuple #[cv, vi 0] ∧ IsRgs m cv [⟨604, 604⟩, ⟨610, 610⟩, ⟨613, 615⟩, ⟨620, 622⟩]) := by
  have := comesT_any hv (threeE_sm _ _) hl
  rwa [exE_comes.1, if_pos rfl, show ([0, 1, 2, 0] : List Int).length = 4 from rfl, exE_comes.2] at this
theorem brings_ex {h : Mem} {v lv : Value} (hv : IsErrand h v (threeE 5 640)) (hl : IsInts h lv [0, 1, 2, 0]) : FnR Try.prog 41 #[v, lv] h (fun m q => ∃ cv, q = .tuple #[cv, vi 0] ∧ IsInts m cv [0, 1, 2]) := by
  have := bringsT_any hv (threeE_sm _ _) hl
  rwa [exE_comes.1, if_pos rfl, exE_brings] at this
theorem late_ex {h : Mem} {v lv : Value} (hv : IsErrand h v (threeE 5 621)) (hl : IsInts h lv [1, 0, 1, 2]) : FnV Try.prog 43 #[v, lv] h (.tuple #[vi 2, vi 0]) := by
  have := lateT_any hv (threeE_sm _ _) hl
  rwa [exE_late] at this
theorem best_ex {h : Mem} {v : Value} (hv : IsErrand h v (threeE 5 640)) : FnR Try.prog 19 #[v] h (fun m q => ∃ lv, q = .tuple #[lv, vi 622, vi 0] ∧ IsInts m lv [0, 1, 2, 0]) := by
  have := bestT_any hv (threeE_sm _ _)
  rwa [exE_best.1, if_pos rfl, if_pos rfl, exE_best.2.1, show foundC (threeE 5 640) (some [0, 1, 2, 0]) = (_, endingE (threeE 5 640) [0, 1, 2, 0]) from rfl, exE_best.2.2] at this
theorem fewest_ex {h : Mem} {v : Value} (hv : IsErrand h v (threeE 3 640)) : FnV Try.prog 25 #[v] h (.tuple #[vi 4, vi 0]) := by
  have := fewestT11_any hv (threeE_sm _ _)
  rwa [exE_fewest.1, if_pos rfl, show (threeE 3 640).n = 3 from rfl, exE_fewest.2] at this
theorem wait_ex {h : Mem} {v : Value} (hv : IsErrand h v (threeE 3 640)) : FnR Try.prog 39 #[v] h (fun m q => ∃ lv, q = .tuple #[lv, vi 0] ∧ IsInts m lv [0]) := by
  have := waitT_any hv (threeE_sm _ _)
  rwa [exE_fewest.1, if_pos rfl, exE_wait] at this

/-- awake -/
theorem awake11_any {h : Mem} : FnV Try.prog 51 #[] h (.bool true) := by
  refine FnR.val ?_
  refine FnR.of_W (n := 134) Try.func51 rfl rfl (Nat.le_of_ble_eq_true rfl) fun c hr hD hF => ?_
  refine W.seq ?_; refine W.region ?_; refine .o rfl ?_; refine WL.nil ?_
  refine Kseq.go (W.seq ?_)
  refine W.region ?_; refine WL.abs (OpAbs.call rfl (fun m hm => three11_any _ _)) rfl rfl rfl ?_
  rintro m17 v17 h17
  refine WL.abs (show OpAbs _ _ _ _ _ (fun m r => IsInts m r [5, 7, 4, 4, 7, 9]) from OpAbs.mono (OpAbs.lit [vi 5, vi 7, vi 4, vi 4, vi 7, vi 9] rfl (Nat.le_of_ble_eq_true rfl) rfl rfl (by simp [Value.cells]) (Nat.le_of_ble_eq_true rfl) rfl (by simp [Value.oneCell'])) (fun m' v' h' => ints_lit (xs := [5, 7, 4, 4, 7, 9]) h'.1)) rfl rfl rfl ?_
  rintro m18 v18 h18
  refine WL.abs (show OpAbs _ _ _ _ _ (fun m r => IsInts m r [0, 1, 2]) from OpAbs.mono (OpAbs.lit [vi 0, vi 1, vi 2] rfl (Nat.le_of_ble_eq_true rfl) rfl rfl (by simp [Value.cells]) (Nat.le_of_ble_eq_true rfl) rfl (by simp [Value.oneCell'])) (fun m' v' h' => ints_lit (xs := [0, 1, 2]) h'.1)) rfl rfl rfl ?_
  rintro m19 v19 h19
  refine WL.abs (OpAbs.call rfl (fun m hm => play_ex (h17.le (by repeat first | exact hm.1 | replace hm := hm.2)) (h18.le (by repeat first | exact hm.1 | replace hm := hm.2)) (h19.le (by repeat first | exact hm.1 | replace hm := hm.2)))) rfl rfl rfl ?_
  rintro m20 _ ⟨w1, rfl, hw1⟩
  iterate 5 refine .o rfl ?_
  refine WL.nil ?_
  refine Kseq.go (W.seq ?_)
  refine W.region ?_; refine WL.abs (OpAbs.call rfl (fun m hm => three11_any _ _)) rfl rfl rfl ?_
  rintro m24 v24 h24
  refine WL.abs (OpAbs.call rfl (fun m hm => way_any)) rfl rfl rfl ?_
  rintro m25 v25 h25
  refine WL.abs (OpAbs.call rfl (fun m hm => comes_ex (h24.le (by repeat first | exact hm.1 | replace hm := hm.2)) (h25.le (by repeat first | exact hm.1 | replace hm := hm.2)))) rfl rfl rfl ?_
  rintro m26 _ ⟨w3, rfl, hw3⟩
  iterate 5 refine .o rfl ?_
  refine WL.nil ?_
  refine Kseq.go (W.seq ?_)
  refine W.region ?_; refine WL.abs (OpAbs.call rfl (fun m hm => three11_any _ _)) rfl rfl rfl ?_
  rintro m30 v30 h30
  refine WL.abs (OpAbs.call rfl (fun m hm => way_any)) rfl rfl rfl ?_
  rintro m31 v31 h31
  refine WL.abs (OpAbs.call rfl (fun m hm => brings_ex (h30.le (by repeat first | exact hm.1 | replace hm := hm.2)) (h31.le (by repeat first | exact hm.1 | replace hm := hm.2)))) rfl rfl rfl ?_
  rintro m32 _ ⟨w5, rfl, hw5⟩
  iterate 5 refine .o rfl ?_
  refine WL.nil ?_
  refine Kseq.go (W.seq ?_)
  refine W.region ?_; refine WL.abs (OpAbs.call rfl (fun m hm => three11_any _ _)) rfl rfl rfl ?_
  rintro m36 v36 h36
  refine WL.abs (show OpAbs _ _ _ _ _ (fun m r => IsInts m r [1, 0, 1, 2]) from OpAbs.mono (OpAbs.lit [vi 1, vi 0, vi 1, vi 2] rfl (Nat.le_of_ble_eq_true rfl) rfl rfl (by simp [Value.cells]) (Nat.le_of_ble_eq_true rfl) rfl (by simp [Value.oneCell'])) (fun m' v' h' => ints_lit (xs := [1, 0, 1, 2]) h'.1)) rfl rfl rfl ?_
  rintro m37 v37 h37
  refine .val (.call rfl (fun m hm => late_ex (h36.le (by repeat first | exact hm.1 | replace hm := hm.2)) (h37.le (by repeat first | exact hm.1 | replace hm := hm.2)))) rfl rfl rfl ?_
  iterate 5 refine .o rfl ?_
  refine WL.nil ?_
  refine Kseq.go (W.seq ?_)
  refine W.region ?_; refine WL.abs (OpAbs.call rfl (fun m hm => three11_any _ _)) rfl rfl rfl ?_
  rintro m42 v42 h42
  refine WL.abs (OpAbs.call rfl (fun m hm => best_ex (h42.le (by repeat first | exact hm.1 | replace hm := hm.2)))) rfl rfl rfl ?_
  rintro m43 _ ⟨w9, rfl, hw9⟩
  iterate 7 refine .o rfl ?_
  refine WL.nil ?_
  refine Kseq.go (W.seq ?_)
  refine W.region ?_; refine WL.abs (OpAbs.call rfl (fun m hm => three11_any _ _)) rfl rfl rfl ?_
  rintro m48 v48 h48
  refine .val (.call rfl (fun m hm => fewest_ex (h48.le (by repeat first | exact hm.1 | replace hm := hm.2)))) rfl rfl rfl ?_
  iterate 5 refine .o rfl ?_
  refine WL.nil ?_
  refine Kseq.go (W.seq ?_)
  refine W.region ?_; refine WL.abs (OpAbs.call rfl (fun m hm => three11_any _ _)) rfl rfl rfl ?_
  rintro m53 v53 h53
  refine WL.abs (OpAbs.call rfl (fun m hm => wait_ex (h53.le (by repeat first | exact hm.1 | replace hm := hm.2)))) rfl rfl rfl ?_
  rintro m54 _ ⟨w14, rfl, hw14⟩
  iterate 5 refine .o rfl ?_
  refine WL.nil ?_
  refine Kseq.go (W.seq ?_)
  refine W.join fun mj hj => ?_
  have hw1' := hw1.le (hj _ (by simp))
  have hw3' := IsArr.le hw3 (hj _ (by simp))
  have hw5' := hw5.le (hj _ (by simp))
  have hw9' := hw9.le (hj _ (by simp))
  have hw14' := hw14.le (hj _ (by simp))
  refine W.weaken [(1, w1), (2, vi 0), (3, w3), (4, vi 0), (5, w5), (6, vi 0), (7, vi 2), (8, vi 0), (9, w9), (10, vi 622), (11, vi 0), (12, vi 4), (13, vi 0), (14, w14), (15, vi 0)] [mj] [] (by repeat (first | exact trivial | refine ⟨rfl, ?_⟩)) (by simp) (by simp) ?_
  clear hw1 hw3 hw5 hw9 hw14
  refine W.draw 75 (by kernel_rfl) (by kernel_rfl) (by kernel_rfl) rfl ?_; refine .val [] (.opv rfl) rfl rfl rfl rfl ?_; refine .val [] (.opv rfl) rfl rfl rfl rfl ?_; refine .val [] (.opv rfl) rfl rfl rfl rfl ?_; refine .val [] (.opv rfl) rfl rfl rfl rfl ?_; refine DJ.abs (A := fun m r => IsInts m r [604, 610, 614]) [] (OpAbs.mono (OpAbs.lit [vi 604, vi 610, vi 614] rfl (Nat.le_of_ble_eq_true rfl) rfl rfl (by simp [Value.cells]) (Nat.le_of_ble_eq_true rfl) rfl (by simp [Value.oneCell'])) (fun m' v' h' => ints_lit (xs := [604, 610, 614]) h'.1)) rfl rfl rfl rfl ?_
  refine DJ.val [(61, fun m r => IsInts m r [604, 610, 614])] (fun m61 v61 h61 => OpVal.call rfl (fun m hm => ints11_same (hw1'.le (by repeat first | exact hm.1 | replace hm := hm.2)) (h61.le (by repeat first | exact hm.1 | replace hm := hm.2)))) rfl rfl rfl rfl ?_ (hG := ⟨(by repeat constructor), rfl, trivial⟩)
  refine .val [] (.opv rfl) rfl rfl rfl rfl ?_; refine .val [] (.opv rfl) rfl rfl rfl rfl ?_; refine .val [] (.opv rfl) rfl rfl rfl rfl ?_; refine .val [] (.opv rfl) rfl rfl rfl rfl ?_; refine .val [] (.opv rfl) rfl rfl rfl rfl ?_; refine .val [] (.opv rfl) rfl rfl rfl rfl ?_; refine .val [] (.opv rfl) rfl rfl rfl rfl ?_; refine .val [] (.len rfl hw3') rfl rfl rfl rfl ?_; refine .val [] (.opv rfl) rfl rfl rfl rfl ?_; refine .val [] (.opv rfl) rfl rfl rfl rfl ?_; refine .val [] (.opv rfl) rfl rfl rfl rfl ?_; refine .val [] (.opv rfl) rfl rfl rfl rfl ?_; refine .val [] (.indexAddr rfl rfl hw3' (by decide) (by decide)) rfl rfl rfl rfl ?_; refine .val [] (.cast (.loadEA rfl hw3' (by repeat constructor) (by decide)) (show _ = vq [610, 610] from rfl)) rfl rfl rfl rfl ?_; refine .val [] (.call rfl (fun m hm => between11_any _ _)) rfl rfl rfl rfl ?_; refine .val [] (.cast (.eqQ (N := 2) (enc := vi) (xs := [610, 610]) (ys := [610, 610]) rfl rfl rfl rfl) (show _ = Value.bool true from rfl)) rfl rfl rfl rfl ?_
  refine .val [] (.opv rfl) rfl rfl rfl rfl ?_; refine .val [] (.opv rfl) rfl rfl rfl rfl ?_; refine .val [] (.opv rfl) rfl rfl rfl rfl ?_; refine .val [] (.indexAddr rfl rfl hw3' (by decide) (by decide)) rfl rfl rfl rfl ?_; refine .val [] (.cast (.loadEA rfl hw3' (by repeat constructor) (by decide)) (show _ = vq [620, 622] from rfl)) rfl rfl rfl rfl ?_; refine .val [] (.call rfl (fun m hm => between11_any _ _)) rfl rfl rfl rfl ?_; refine .val [] (.cast (.eqQ (N := 2) (enc := vi) (xs := [620, 622]) (ys := [620, 622]) rfl rfl rfl rfl) (show _ = Value.bool true from rfl)) rfl rfl rfl rfl ?_; refine .val [] (.opv rfl) rfl rfl rfl rfl ?_; refine .val [] (.opv rfl) rfl rfl rfl rfl ?_; refine .val [] (.opv rfl) rfl rfl rfl rfl ?_; refine .val [] (.opv rfl) rfl rfl rfl rfl ?_; refine .val [] (.opv rfl) rfl rfl rfl rfl ?_; refine .val [] (.opv rfl) rfl rfl rfl rfl ?_; refine .val [] (.opv rfl) rfl rfl rfl rfl ?_
  refine DJ.abs (A := fun m r => IsInts m r [0, 1, 2]) [] (OpAbs.mono (OpAbs.lit [vi 0, vi 1, vi 2] rfl (Nat.le_of_ble_eq_true rfl) rfl rfl (by simp [Value.cells]) (Nat.le_of_ble_eq_true rfl) rfl (by simp [Value.oneCell'])) (fun m' v' h' => ints_lit (xs := [0, 1, 2]) h'.1)) rfl rfl rfl rfl ?_
  refine DJ.val [(93, fun m r => IsInts m r [0, 1, 2])] (fun m93 v93 h93 => OpVal.call rfl (fun m hm => ints11_same (hw5'.le (by repeat first | exact hm.1 | replace hm := hm.2)) (h93.le (by repeat first | exact hm.1 | replace hm := hm.2)))) rfl rfl rfl rfl ?_ (hG := ⟨(by repeat constructor), rfl, trivial⟩)
  refine .val [] (.opv rfl) rfl rfl rfl rfl ?_; refine .val [] (.opv rfl) rfl rfl rfl rfl ?_; refine .val [] (.opv rfl) rfl rfl rfl rfl ?_; refine .val [] (.opv rfl) rfl rfl rfl rfl ?_; refine .val [] (.opv rfl) rfl rfl rfl rfl ?_; refine .val [] (.opv rfl) rfl rfl rfl rfl ?_; refine .val [] (.opv rfl) rfl rfl rfl rfl ?_; refine .val [] (.opv rfl) rfl rfl rfl rfl ?_; refine .val [] (.opv rfl) rfl rfl rfl rfl ?_; refine .val [] (.opv rfl) rfl rfl rfl rfl ?_; refine .val [] (.opv rfl) rfl rfl rfl rfl ?_; refine .val [] (.opv rfl) rfl rfl rfl rfl ?_; refine .val [] (.opv rfl) rfl rfl rfl rfl ?_; refine .val [] (.opv rfl) rfl rfl rfl rfl ?_; refine .val [] (.opv rfl) rfl rfl rfl rfl ?_; refine DJ.abs (A := fun m r => IsInts m r [0, 1, 2, 0]) [] (OpAbs.call rfl (fun m hm => way_any)) rfl rfl rfl rfl ?_
  refine DJ.val [(110, fun m r => IsInts m r [0, 1, 2, 0])] (fun m110 v110 h110 => OpVal.call rfl (fun m hm => ints11_same (hw9'.le (by repeat first | exact hm.1 | replace hm := hm.2)) (h110.le (by repeat first | exact hm.1 | replace hm := hm.2)))) rfl rfl rfl rfl ?_ (hG := ⟨(by repeat constructor), rfl, trivial⟩)
  refine .val [] (.opv rfl) rfl rfl rfl rfl ?_; refine .val [] (.opv rfl) rfl rfl rfl rfl ?_; refine .val [] (.opv rfl) rfl rfl rfl rfl ?_; refine .val [] (.opv rfl) rfl rfl rfl rfl ?_; refine .val [] (.opv rfl) rfl rfl rfl rfl ?_; refine .val [] (.opv rfl) rfl rfl rfl rfl ?_; refine .val [] (.opv rfl) rfl rfl rfl rfl ?_; refine .val [] (.opv rfl) rfl rfl rfl rfl ?_; refine .val [] (.opv rfl) rfl rfl rfl rfl ?_; refine .val [] (.opv rfl) rfl rfl rfl rfl ?_; refine .val [] (.opv rfl) rfl rfl rfl rfl ?_; refine .val [] (.opv rfl) rfl rfl rfl rfl ?_; refine .val [] (.opv rfl) rfl rfl rfl rfl ?_; refine .val [] (.opv rfl) rfl rfl rfl rfl ?_; refine .val [] (.opv rfl) rfl rfl rfl rfl ?_; refine .val [] (.opv rfl) rfl rfl rfl rfl ?_; refine .val [] (.opv rfl) rfl rfl rfl rfl ?_; refine .val [] (.opv rfl) rfl rfl rfl rfl ?_; refine .val [] (.opv rfl) rfl rfl rfl rfl ?_; refine DJ.abs (A := fun m r => IsInts m r [0]) [] (OpAbs.mono (OpAbs.lit [vi 0] rfl (Nat.le_of_ble_eq_true rfl) rfl rfl (by simp [Value.cells]) (Nat.le_of_ble_eq_true rfl) rfl (by simp [Value.oneCell'])) (fun m' v' h' => ints_lit (xs := [0]) h'.1)) rfl rfl rfl rfl ?_
  refine DJ.nil ?_
  rintro m131 v131 h131
  rintro m110 v110 h110
  rintro m93 v93 h93
  rintro m61 v61 h61
  refine .val (.call rfl (fun m hm => ints11_same (hw14'.le (by repeat first | exact hm.1 | replace hm := hm.2)) (h131.le (by repeat first | exact hm.1 | replace hm := hm.2)))) rfl rfl rfl ?_
  iterate 2 refine .o rfl ?_
  refine WL.nil ?_; refine Kseq.go ?_
  refine W.ret ?_; refine ⟨.inl rfl, [_], mj, ⟨.tmp rfl, trivial⟩, (by repeat constructor), ?_⟩
  rfl
end Go.Proofs.Ytppkhehbkoeinaa
