/- The statement ErrandNames: its contract. -/
import Derived.Test.YtppkhehbkoeinaaP45
import Derived.Test.YtppkhehbkoeinaaT158
namespace Go.Proofs.Ytppkhehbkoeinaa
open Go Go.Eng Go.RowKit

theorem bringsN11_any {h : Mem} {v lv : Value} {r : Errand} {l xs : List Int} {e : Int} (hv : IsErrand h v r) (hs : SmE r) (hl : IsInts h lv l) (he : walkedE r l = e) (hx : (if walkedE r l = 0 then piecesB (movesR r) (fun i => brought l ((movesR r).getD i default)) else []) = xs) : FnR Try.prog 41 #[v, lv] h (fun m q => ∃ cv, q = .tuple #[cv, vi e] ∧ IsInts m cv xs) := by
  have := bringsT_any hv hs hl
  rwa [hx, he] at this
theorem bestN11_any {h : Mem} {v : Value} {r : Errand} {e : Int} (hv : IsErrand h v r) (hs : SmE r) (he : bestErr r = e) : FnR Try.prog 19 #[v] h (fun _ q => ∃ lv z, q = .tuple #[lv, z, vi e]) :=
  (bestT_any hv hs).mono fun m q hq => by
    obtain ⟨lv, e2, _⟩ := hq
    rw [he] at e2
    exact ⟨lv, _, e2⟩
theorem waitN11_any {h : Mem} {v : Value} {r : Errand} {xs : List Int} (hv : IsErrand h v r) (hs : SmE r) (he : faultT r = 0) (hx : waitV r = xs) : FnR Try.prog 39 #[v] h (fun m q => ∃ lv, q = .tuple #[lv, vi 0] ∧ IsInts m lv xs) := by
  have := waitT_any hv hs
  rwa [if_pos he, he, hx] at this
theorem lateN11_any {h : Mem} {v lv : Value} {r : Errand} {l : List Int} {a e : Int} (hv : IsErrand h v r) (hs : SmE r) (hl : IsInts h lv l) (he : lateV r l = (a, e)) : FnV Try.prog 43 #[v, lv] h (.tuple #[vi a, vi e]) := by
  have := lateT_any hv hs hl
  rwa [he] at this
theorem comesN11_any {h : Mem} {v lv : Value} {r : Errand} {l : List Int} {e : Int} (hv : IsErrand h v r) (hs : SmE r) (hl : IsInts h lv l) (he : walkedE r l = e) : FnR Try.prog 45 #[v, lv] h (fun m q => ∃ cv, q = .tuple #[cv, vi e] ∧ IsRgs m cv (if walkedE r l = 0 then comesTo r l l.length else [])) := by
  exact (comesT_any hv hs hl).mono fun m q hq => by rw [← he]; exact hq
theorem proveN11_any {h : Mem} {v lv : Value} {r : Errand} {l : List Int} {c : Int} {b : Bool} (hv : IsErrand h v r) (hs : SmE r) (hl : IsInts h lv l) (he : proveB r l c = b) : FnV Try.prog 47 #[v, lv, vi c] h (.bool b) := by
  have := proveWalk_any c hv hs hl
  rwa [he] at this
theorem playN11_any {h : Mem} {v tv lv : Value} {r : Errand} {tr l : List Int} {e : Int} (hv : IsErrand h v r) (hs : SmE r) (ht : IsInts h tv tr) (hl : IsInts h lv l) (he : playE11 r tr l = e) : FnR Try.prog 48 #[v, tv, lv] h (fun _ q => ∃ cv, q = .tuple #[cv, vi e]) :=
  (playT11_any hv hs ht hl).mono fun m q hq => by
    obtain ⟨cv, e2, _⟩ := hq
    rw [he] at e2
    exact ⟨cv, e2⟩
theorem checkN11_any {h : Mem} {v : Value} {r : Errand} {e : Int} (hv : IsErrand h v r) (hs : SmE r) (he : faultT r = e) : FnV Try.prog 50 #[v] h (vi e) := by
  have := checkE_any hv hs
  rwa [he] at this
theorem made15 : (madeCells (Value.agg #[vi 0, vi 0, vi 0]).cells (5 * 3)).toList = List.replicate 15 (vi 0) := by
  have hc : (Value.agg #[vi 0, vi 0, vi 0]).cells = #[vi 0, vi 0, vi 0] := by simp [Value.cells]
  rw [hc]
  unfold madeCells
  rw [Array.toList_map, Array.toList_range]
  refine List.eq_replicate_iff.2 ⟨by simp, fun b hb => ?_⟩
  obtain ⟨i, _, rfl⟩ := List.mem_map.1 hb
  have h3 : i % 3 = 0 ∨ i % 3 = 1 ∨ i % 3 = 2 := by omega
  show #[vi 0, vi 0, vi 0][i % 3]! = _
  rcases h3 with e | e | e <;> rw [e] <;> rfl
/-- ErrandNames -/
theorem errandNames_any {h : Mem} : FnV Try.prog 7 #[] h (.bool true) := by
  refine FnR.val ?_
  refine FnR.of_W (n := 286) Try.func7 rfl rfl (Nat.le_of_ble_eq_true rfl) fun c hr hD hF => ?_
  refine W.seq ?_; refine W.region ?_; refine .o rfl ?_; refine WL.nil ?_
  refine Kseq.go (W.seq ?_)
  refine W.region ?_; refine WL.abs (OpAbs.call rfl (fun m hm => three11_any 5 640)) rfl rfl rfl ?_
  rintro m26 v26 h26
  refine WL.abs (OpAbs.lit [_, _] rfl (Nat.le_of_ble_eq_true rfl) rfl rfl (by simp [Value.cells]) (Nat.le_of_ble_eq_true rfl) rfl (by first | (simp [Value.oneCell']; done) | exact List.all_eq_true.1 rfl)) rfl rfl rfl ?_
  rintro m27 _ ⟨hc27, a27, rfl⟩
  (refine WL.abs (OpAbs.call rfl (fun m hm => bringsN11_any (h26.le (by repeat first | exact hm.1 | replace hm := hm.2)) (threeE_sm _ _) ((ints_lit (xs := [1, 0]) hc27).le (by repeat first | exact hm.1 | replace hm := hm.2)) ee_brings1.1 ((if_pos ee_brings1.1).trans ee_brings1.2))) rfl rfl rfl ?_; rintro m28 _ ⟨lv1, rfl, hl1⟩)
  iterate 5 refine .o rfl ?_
  refine WL.nil ?_
  refine Kseq.go (W.seq ?_)
  refine W.region ?_; refine WL.abs (OpAbs.call rfl (fun m hm => three11_any 5 640)) rfl rfl rfl ?_
  rintro m32 v32 h32
  refine WL.abs (OpAbs.lit [_, _] rfl (Nat.le_of_ble_eq_true rfl) rfl rfl (by simp [Value.cells]) (Nat.le_of_ble_eq_true rfl) rfl (by first | (simp [Value.oneCell']; done) | exact List.all_eq_true.1 rfl)) rfl rfl rfl ?_
  rintro m33 _ ⟨hc33, a33, rfl⟩
  (refine WL.abs (OpAbs.call rfl (fun m hm => bringsN11_any (h32.le (by repeat first | exact hm.1 | replace hm := hm.2)) (threeE_sm _ _) ((ints_lit (xs := [0, 2]) hc33).le (by repeat first | exact hm.1 | replace hm := hm.2)) ee_brings2.1 ((if_pos ee_brings2.1).trans ee_brings2.2))) rfl rfl rfl ?_; rintro m34 _ ⟨lv3, rfl, hl3⟩)
  iterate 5 refine .o rfl ?_
  refine WL.nil ?_
  refine Kseq.go (W.seq ?_)
  refine W.region ?_; refine WL.abs (OpAbs.call rfl (fun m hm => three11_any 3 640)) rfl rfl rfl ?_
  rintro m38 v38 h38
  (refine WL.abs (OpAbs.call rfl (fun m hm => bestN11_any (h38.le (by repeat first | exact hm.1 | replace hm := hm.2)) (threeE_sm _ _) ee_best)) rfl rfl rfl ?_; rintro m39 _ ⟨lx5, lx6, rfl⟩)
  iterate 7 refine .o rfl ?_
  refine WL.nil ?_
  refine Kseq.go (W.seq ?_)
  refine W.region ?_; refine WL.abs (OpAbs.call rfl (fun m hm => three11_any 1 640)) rfl rfl rfl ?_
  rintro m44 v44 h44
  (refine WL.abs (OpAbs.call rfl (fun m hm => waitN11_any (h44.le (by repeat first | exact hm.1 | replace hm := hm.2)) (threeE_sm _ _) ee_wait1.1 ee_wait1.2)) rfl rfl rfl ?_; rintro m45 _ ⟨lv8, rfl, hl8⟩)
  iterate 5 refine .o rfl ?_
  refine WL.nil ?_
  refine Kseq.go (W.seq ?_)
  refine W.region ?_; refine WL.abs (OpAbs.call rfl (fun m hm => three11_any 5 640)) rfl rfl rfl ?_
  rintro m49 v49 h49
  (refine WL.abs (OpAbs.call rfl (fun m hm => waitN11_any (h49.le (by repeat first | exact hm.1 | replace hm := hm.2)) (threeE_sm _ _) ee_wait2.1 ee_wait2.2)) rfl rfl rfl ?_; rintro m50 _ ⟨lv10, rfl, hl10⟩)
  iterate 5 refine .o rfl ?_
  refine WL.nil ?_
  refine Kseq.go (W.seq ?_)
  refine W.region ?_; refine WL.abs (OpAbs.call rfl (fun m hm => three11_any 5 640)) rfl rfl rfl ?_
  rintro m54 v54 h54
  refine WL.abs (OpAbs.call rfl (fun m hm => way_any)) rfl rfl rfl ?_
  rintro m55 v55 h55
  refine .val (.call rfl (fun m hm => lateN11_any (h54.le (by repeat first | exact hm.1 | replace hm := hm.2)) (threeE_sm _ _) (h55.le (by repeat first | exact hm.1 | replace hm := hm.2)) ee_late)) rfl rfl rfl ?_
  iterate 5 refine .o rfl ?_
  refine WL.nil ?_
  refine Kseq.go (W.seq ?_)
  refine W.region ?_; refine WL.abs (OpAbs.call rfl (fun m hm => three11_any 5 640)) rfl rfl rfl ?_
  rintro m60 v60 h60
  (refine WL.abs (OpAbs.call rfl (fun m hm => comesN11_any (l := []) (h60.le (by repeat first | exact hm.1 | replace hm := hm.2)) (threeE_sm _ _) (IsArr.nil m 1 _) ee_comes.1)) rfl rfl rfl ?_; rintro m61 _ ⟨lv14, rfl, hl14⟩)
  iterate 5 refine .o rfl ?_
  refine WL.nil ?_
  refine Kseq.go (W.seq (W.seq ?_))
  rw [if_pos ee_comes.1, show ([] : List Int).length = 0 from rfl, ee_comes.2] at hl14
  refine W.join fun mj hj => ?_
  have g1 := IsInts.le hl1 (hj _ (by simp))
  have g3 := IsInts.le hl3 (hj _ (by simp))
  have g8 := IsInts.le hl8 (hj _ (by simp))
  have g10 := IsInts.le hl10 (hj _ (by simp))
  have g14 := IsArr.le hl14 (hj _ (by simp))
  clear hl1 hl3 hl8 hl10 hl14
  refine W.weaken [(1, lv1), (2, vi 0), (3, lv3), (4, vi 0), (7, vi 10), (8, lv8), (9, vi 0), (10, lv10), (11, vi 0), (13, vi 7), (14, lv14), (15, vi 0)] [mj] [] (by repeat (first | exact trivial | refine ⟨rfl, ?_⟩)) (by simp) (List.nil_sublist _) ?_; refine W.region ?_
  iterate 4 refine .o rfl ?_
  refine WL.abs (OpAbs.lit [_] rfl (Nat.le_of_ble_eq_true rfl) rfl rfl (by simp [Value.cells]) (Nat.le_of_ble_eq_true rfl) rfl (by first | (simp [Value.oneCell']; done) | exact List.all_eq_true.1 rfl)) rfl rfl rfl ?_
  rintro m68 _ ⟨hc68, a68, rfl⟩
  refine .val (.call rfl (fun m hm => ints11_same (g1.le (by repeat first | exact hm.1 | replace hm := hm.2)) ((ints_lit (xs := [0]) hc68).le (by repeat first | exact hm.1 | replace hm := hm.2)))) rfl rfl rfl ?_
  iterate 8 refine .o rfl ?_
  refine WL.abs (OpAbs.lit [_] rfl (Nat.le_of_ble_eq_true rfl) rfl rfl (by simp [Value.cells]) (Nat.le_of_ble_eq_true rfl) rfl (by first | (simp [Value.oneCell']; done) | exact List.all_eq_true.1 rfl)) rfl rfl rfl ?_
  rintro m78 _ ⟨hc78, a78, rfl⟩
  refine .val (.call rfl (fun m hm => ints11_same (g3.le (by repeat first | exact hm.1 | replace hm := hm.2)) ((ints_lit (xs := [2]) hc78).le (by repeat first | exact hm.1 | replace hm := hm.2)))) rfl rfl rfl ?_
  iterate 12 refine .o rfl ?_
  refine WL.abs (OpAbs.lit [_, _, _] rfl (Nat.le_of_ble_eq_true rfl) rfl rfl (by simp [Value.cells]) (Nat.le_of_ble_eq_true rfl) rfl (by first | (simp [Value.oneCell']; done) | exact List.all_eq_true.1 rfl)) rfl rfl rfl ?_
  rintro m92 _ ⟨hc92, a92, rfl⟩
  refine .val (.call rfl (fun m hm => ints11_same (g8.le (by repeat first | exact hm.1 | replace hm := hm.2)) ((ints_lit (xs := [0, 1, 2]) hc92).le (by repeat first | exact hm.1 | replace hm := hm.2)))) rfl rfl rfl ?_
  iterate 8 refine .o rfl ?_
  refine .val (.cast (.len rfl g10) (show _ = vi 0 from rfl)) rfl rfl rfl ?_
  iterate 12 refine .o rfl ?_
  refine .val (.cast (.len rfl g14) (show _ = vi 0 from rfl)) rfl rfl rfl ?_
  iterate 2 refine .o rfl ?_
  refine WL.nil ?_; refine Kseq.go ?_; refine W.condF rfl rfl ?_
  refine W.skip (Kseq.go (W.seq (W.seq ?_)))
  refine W.weaken [] [mj] [] trivial (by simp) (List.nil_sublist _) ?_; refine W.region ?_; refine WL.abs (OpAbs.call rfl (fun m hm => three11_any 5 640)) rfl rfl rfl ?_
  rintro m118 v118 h118
  refine WL.abs (OpAbs.call rfl (fun m hm => way_any)) rfl rfl rfl ?_
  rintro m119 v119 h119
  refine .val (.call rfl (fun m hm => proveN11_any (h118.le (by repeat first | exact hm.1 | replace hm := hm.2)) (threeE_sm _ _) (h119.le (by repeat first | exact hm.1 | replace hm := hm.2)) ee_pw1)) rfl rfl rfl ?_
  iterate 2 refine .o rfl ?_
  refine WL.abs (OpAbs.call rfl (fun m hm => three11_any 5 640)) rfl rfl rfl ?_
  rintro m123 v123 h123
  refine WL.abs (OpAbs.call rfl (fun m hm => way_any)) rfl rfl rfl ?_
  rintro m124 v124 h124
  refine .val (.call rfl (fun m hm => proveN11_any (h123.le (by repeat first | exact hm.1 | replace hm := hm.2)) (threeE_sm _ _) (h124.le (by repeat first | exact hm.1 | replace hm := hm.2)) ee_pw2)) rfl rfl rfl ?_
  iterate 2 refine .o rfl ?_
  refine WL.abs (OpAbs.call rfl (fun m hm => three11_any 3 640)) rfl rfl rfl ?_
  rintro m128 v128 h128
  refine WL.abs (OpAbs.call rfl (fun m hm => way_any)) rfl rfl rfl ?_
  rintro m129 v129 h129
  refine .val (.call rfl (fun m hm => proveN11_any (h128.le (by repeat first | exact hm.1 | replace hm := hm.2)) (threeE_sm _ _) (h129.le (by repeat first | exact hm.1 | replace hm := hm.2)) ee_pw3)) rfl rfl rfl ?_
  iterate 2 refine .o rfl ?_
  refine WL.abs (OpAbs.call rfl (fun m hm => three11_any 5 640)) rfl rfl rfl ?_
  rintro m133 v133 h133
  refine WL.abs (OpAbs.lit [_, _, _] rfl (Nat.le_of_ble_eq_true rfl) rfl rfl (by simp [Value.cells]) (Nat.le_of_ble_eq_true rfl) rfl (by first | (simp [Value.oneCell']; done) | exact List.all_eq_true.1 rfl)) rfl rfl rfl ?_
  rintro m134 _ ⟨hc134, a134, rfl⟩
  refine .val (.call rfl (fun m hm => proveN11_any (h133.le (by repeat first | exact hm.1 | replace hm := hm.2)) (threeE_sm _ _) ((ints_lit (xs := [0, 1, 2]) hc134).le (by repeat first | exact hm.1 | replace hm := hm.2)) ee_pw4)) rfl rfl rfl ?_
  iterate 2 refine .o rfl ?_
  refine WL.abs (OpAbs.call rfl (fun m hm => three11_any 5 621)) rfl rfl rfl ?_
  rintro m138 v138 h138
  refine WL.abs (OpAbs.lit [_, _, _, _] rfl (Nat.le_of_ble_eq_true rfl) rfl rfl (by simp [Value.cells]) (Nat.le_of_ble_eq_true rfl) rfl (by first | (simp [Value.oneCell']; done) | exact List.all_eq_true.1 rfl)) rfl rfl rfl ?_
  rintro m139 _ ⟨hc139, a139, rfl⟩
  refine .val (.call rfl (fun m hm => proveN11_any (h138.le (by repeat first | exact hm.1 | replace hm := hm.2)) (threeE_sm _ _) ((ints_lit (xs := [1, 0, 1, 2]) hc139).le (by repeat first | exact hm.1 | replace hm := hm.2)) ee_pw5)) rfl rfl rfl ?_
  iterate 2 refine .o rfl ?_
  refine WL.abs (OpAbs.call rfl (fun m hm => three11_any 5 640)) rfl rfl rfl ?_
  rintro m143 v143 h143
  refine WL.abs (OpAbs.lit [_, _, _, _, _] rfl (Nat.le_of_ble_eq_true rfl) rfl rfl (by simp [Value.cells]) (Nat.le_of_ble_eq_true rfl) rfl (by first | (simp [Value.oneCell']; done) | exact List.all_eq_true.1 rfl)) rfl rfl rfl ?_
  rintro m144 _ ⟨hc144, a144, rfl⟩
  refine .val (.call rfl (fun m hm => proveN11_any (h143.le (by repeat first | exact hm.1 | replace hm := hm.2)) (threeE_sm _ _) ((ints_lit (xs := [0, 0, 1, 2, 0]) hc144).le (by repeat first | exact hm.1 | replace hm := hm.2)) ee_pw6)) rfl rfl rfl ?_
  iterate 2 refine .o rfl ?_
  refine WL.abs (OpAbs.call rfl (fun m hm => three11_any 5 640)) rfl rfl rfl ?_
  rintro m148 v148 h148
  refine WL.abs (OpAbs.lit [_, _, _, _] rfl (Nat.le_of_ble_eq_true rfl) rfl rfl (by simp [Value.cells]) (Nat.le_of_ble_eq_true rfl) rfl (by first | (simp [Value.oneCell']; done) | exact List.all_eq_true.1 rfl)) rfl rfl rfl ?_
  rintro m149 _ ⟨hc149, a149, rfl⟩
  refine .val (.call rfl (fun m hm => proveN11_any (h148.le (by repeat first | exact hm.1 | replace hm := hm.2)) (threeE_sm _ _) ((ints_lit (xs := [0, 2, 1, 0]) hc149).le (by repeat first | exact hm.1 | replace hm := hm.2)) ee_pw7)) rfl rfl rfl ?_
  iterate 2 refine .o rfl ?_
  refine WL.nil ?_; refine Kseq.go ?_; refine W.condF rfl rfl ?_
  refine W.skip (Kseq.go (W.seq ?_))
  refine W.weaken [] [mj] [] trivial (by simp) (List.nil_sublist _) ?_; refine W.region ?_; refine WL.abs (OpAbs.call rfl (fun m hm => three11_any 5 640)) rfl rfl rfl ?_
  rintro m154 v154 h154
  refine WL.abs (OpAbs.lit [_, _, _, _, _, _] rfl (Nat.le_of_ble_eq_true rfl) rfl rfl (by simp [Value.cells]) (Nat.le_of_ble_eq_true rfl) rfl (by first | (simp [Value.oneCell']; done) | exact List.all_eq_true.1 rfl)) rfl rfl rfl ?_
  rintro m155 _ ⟨hc155, a155, rfl⟩
  (refine WL.abs (OpAbs.call rfl (fun m hm => playN11_any (l := []) (h154.le (by repeat first | exact hm.1 | replace hm := hm.2)) (threeE_sm _ _) ((ints_lit (xs := [5, 7, 4, 4, 7, 8]) hc155).le (by repeat first | exact hm.1 | replace hm := hm.2)) (IsArr.nil m 1 _) ee_play1)) rfl rfl rfl ?_; rintro m156 _ ⟨lx, rfl⟩)
  iterate 4 refine .o rfl ?_
  refine WL.nil ?_
  refine Kseq.go (W.seq ?_)
  refine W.region ?_; refine WL.abs (OpAbs.call rfl (fun m hm => three11_any 5 640)) rfl rfl rfl ?_
  rintro m160 v160 h160
  refine WL.abs (OpAbs.lit [_, _, _, _, _, _] rfl (Nat.le_of_ble_eq_true rfl) rfl rfl (by simp [Value.cells]) (Nat.le_of_ble_eq_true rfl) rfl (by first | (simp [Value.oneCell']; done) | exact List.all_eq_true.1 rfl)) rfl rfl rfl ?_
  rintro m161 _ ⟨hc161, a161, rfl⟩
  refine WL.abs (OpAbs.lit [_] rfl (Nat.le_of_ble_eq_true rfl) rfl rfl (by simp [Value.cells]) (Nat.le_of_ble_eq_true rfl) rfl (by first | (simp [Value.oneCell']; done) | exact List.all_eq_true.1 rfl)) rfl rfl rfl ?_
  rintro m162 _ ⟨hc162, a162, rfl⟩
  (refine WL.abs (OpAbs.call rfl (fun m hm => playN11_any (h160.le (by repeat first | exact hm.1 | replace hm := hm.2)) (threeE_sm _ _) ((ints_lit (xs := [5, 7, 4, 4, 7, 9]) hc161).le (by repeat first | exact hm.1 | replace hm := hm.2)) ((ints_lit (xs := [3]) hc162).le (by repeat first | exact hm.1 | replace hm := hm.2)) ee_play2)) rfl rfl rfl ?_; rintro m163 _ ⟨lx, rfl⟩)
  iterate 4 refine .o rfl ?_
  refine WL.nil ?_
  refine Kseq.go (W.seq ?_)
  refine W.region ?_; refine WL.abs (OpAbs.call rfl (fun m hm => three11_any 5 640)) rfl rfl rfl ?_
  rintro m167 v167 h167
  refine WL.abs (OpAbs.lit [_, _] rfl (Nat.le_of_ble_eq_true rfl) rfl rfl (by simp [Value.cells]) (Nat.le_of_ble_eq_true rfl) rfl (by first | (simp [Value.oneCell']; done) | exact List.all_eq_true.1 rfl)) rfl rfl rfl ?_
  rintro m168 _ ⟨hc168, a168, rfl⟩
  (refine WL.abs (OpAbs.call rfl (fun m hm => comesN11_any (h167.le (by repeat first | exact hm.1 | replace hm := hm.2)) (threeE_sm _ _) ((ints_lit (xs := [1, 1]) hc168).le (by repeat first | exact hm.1 | replace hm := hm.2)) ee_comes2)) rfl rfl rfl ?_; rintro m169 _ ⟨lx, rfl, _⟩)
  iterate 4 refine .o rfl ?_
  refine WL.nil ?_
  refine Kseq.go (W.seq ?_)
  refine W.region ?_; refine WL.abs (OpAbs.call rfl (fun m hm => three11_any 5 640)) rfl rfl rfl ?_
  rintro m173 v173 h173
  refine WL.abs (OpAbs.lit [_, _, _, _, _, _, _, _] rfl (Nat.le_of_ble_eq_true rfl) rfl rfl (by simp [Value.cells]) (Nat.le_of_ble_eq_true rfl) rfl (by first | (simp [Value.oneCell']; done) | exact List.all_eq_true.1 rfl)) rfl rfl rfl ?_
  rintro m174 _ ⟨hc174, a174, rfl⟩
  (refine WL.abs (OpAbs.call rfl (fun m hm => bringsN11_any (h173.le (by repeat first | exact hm.1 | replace hm := hm.2)) (threeE_sm _ _) ((ints_lit (xs := [0, 1, 0, 1, 0, 1, 0, 1]) hc174).le (by repeat first | exact hm.1 | replace hm := hm.2)) ee_brings3 rfl)) rfl rfl rfl ?_; rintro m175 _ ⟨lx, rfl, _⟩)
  iterate 4 refine .o rfl ?_
  refine WL.nil ?_
  refine Kseq.go (W.seq ?_)
  refine W.region ?_; refine WL.abs (OpAbs.call rfl (fun m hm => three11_any 5 640)) rfl rfl rfl ?_
  rintro m179 v179 h179
  refine WL.abs (OpAbs.lit [_] rfl (Nat.le_of_ble_eq_true rfl) rfl rfl (by simp [Value.cells]) (Nat.le_of_ble_eq_true rfl) rfl (by first | (simp [Value.oneCell']; done) | exact List.all_eq_true.1 rfl)) rfl rfl rfl ?_
  rintro m180 _ ⟨hc180, a180, rfl⟩
  refine .val (.call rfl (fun m hm => lateN11_any (h179.le (by repeat first | exact hm.1 | replace hm := hm.2)) (threeE_sm _ _) ((ints_lit (xs := [-1]) hc180).le (by repeat first | exact hm.1 | replace hm := hm.2)) ee_late2)) rfl rfl rfl ?_
  iterate 4 refine .o rfl ?_
  refine WL.nil ?_
  refine Kseq.go (W.seq ?_)
  refine W.weaken [(2, vi 2), (4, vi 2), (7, vi 2), (9, vi 2), (11, vi 2)] [mj] [] (by repeat (first | exact trivial | refine ⟨rfl, ?_⟩)) (by simp) (List.nil_sublist _) ?_; refine W.region ?_; refine WL.abs (OpAbs.call rfl (fun m hm => three11_any 5 640)) rfl rfl rfl ?_
  rintro m184 v184 h184
  (refine WL.callM rfl rfl (M0 := []) (by simp) (Split.none _) rfl three11W_any rfl rfl rfl ?_; rintro v185 M1 a1 ⟨mW, yW, pW, hW, sW, fW, rfl, rfl, rfl, hPW, hMW, hHW, hSW⟩)
  refine WL.abs (OpAbs.call rfl (fun m hm => three11_any 8 640)) rfl rfl rfl ?_
  rintro m186 v186 h186
  refine WL.abs (OpAbs.call rfl (fun m hm => three11_any (-1) 640)) rfl rfl rfl ?_
  rintro m187 v187 h187
  refine WL.abs (OpAbs.call rfl (fun m hm => three11_any 5 640)) rfl rfl rfl ?_
  rintro m188 v188 h188
  refine WL.abs (OpAbs.call rfl (fun m hm => three11_any 5 1440)) rfl rfl rfl ?_
  rintro m189 v189 h189
  (refine WL.callM rfl rfl (M0 := []) (by simp) (Split.none _) rfl three11S_any rfl rfl rfl ?_; rintro v190 M1 a1 ⟨mS, yS, wS, pS, hS, fS, rfl, rfl, rfl, hPS, hMS, hHS, hWS⟩)
  refine WL.abs (OpAbs.call rfl (fun m hm => three11_any 5 640)) rfl rfl rfl ?_
  rintro m191 v191 h191
  refine WL.abs (OpAbs.call rfl (fun m hm => three11_any 5 640)) rfl rfl rfl ?_
  rintro m192 v192 h192
  obtain ⟨wa, pa, ha, sa, fa, rfl, hWa, hPa, hMa, hHa, hSa⟩ := h184
  obtain ⟨wc, pc, hc, sc, fc, rfl, hWc, hPc, hMc, hHc, hSc⟩ := h186
  obtain ⟨wd, pd, hd, sd, fd, rfl, hWd, hPd, hMd, hHd, hSd⟩ := h187
  obtain ⟨we, pe, he, se, fe, rfl, hWe, hPe, hMe, hHe, hSe⟩ := h188
  obtain ⟨wg, pg, hg, sg, fg, rfl, hWg, hPg, hMg, hHg, hSg⟩ := h189
  obtain ⟨wj, pj, hj, sj, fj, rfl, hWj, hPj, hMj, hHj, hSj⟩ := h191
  obtain ⟨wk, pk, hk, sk, fk, rfl, hWk, hPk, hMk, hHk, hSk⟩ := h192
  obtain ⟨qa, qc, rfl⟩ := (show ∃ a cap, sk = .slice a 6 cap from IsArr.form hSk)
  refine WL.alloc rfl rfl rfl (fun b16 => ?_)
  refine WL.alloc rfl rfl rfl (fun b17 => ?_)
  refine WL.alloc rfl rfl rfl (fun b18 => ?_)
  refine WL.alloc rfl rfl rfl (fun b19 => ?_)
  refine WL.alloc rfl rfl rfl (fun b20 => ?_)
  refine WL.alloc rfl rfl rfl (fun b21 => ?_)
  refine WL.alloc rfl rfl rfl (fun b22 => ?_)
  refine WL.alloc rfl rfl rfl (fun b23 => ?_)
  refine WL.alloc rfl rfl rfl (fun b24 => ?_)
  (refine WL.store [wa, pa, vi (threeE 5 640).table.wrong, ha, sa, vi (threeE 5 640).start, vi (threeE 5 640).calls] rfl (.tail _ (.tail _ (.tail _ (.tail _ (.tail _ (.tail _ (.tail _ (.tail _ (.head _))))))))) rfl rfl rfl (Nat.le_of_ble_eq_true rfl) (by simp [Value.cells]; exact ⟨IsArr.one hWa, IsArr.one hPa, rfl, IsArr.one hHa, IsArr.one hSa, rfl, rfl⟩) rfl ?_)
  (refine WL.store [_, _, _, _, _, _, _] rfl (.tail _ (.tail _ (.tail _ (.tail _ (.tail _ (.tail _ (.tail _ (.head _)))))))) rfl rfl rfl (Nat.le_of_ble_eq_true rfl) (by simp [Value.cells, Value.oneCell']; exact ⟨IsArr.one hPW, IsArr.one hHW, IsArr.one hSW⟩) rfl ?_)
  (refine WL.store [wc, pc, vi (threeE 8 640).table.wrong, hc, sc, vi (threeE 8 640).start, vi (threeE 8 640).calls] rfl (.tail _ (.tail _ (.tail _ (.tail _ (.tail _ (.tail _ (.head _))))))) rfl rfl rfl (Nat.le_of_ble_eq_true rfl) (by simp [Value.cells]; exact ⟨IsArr.one hWc, IsArr.one hPc, rfl, IsArr.one hHc, IsArr.one hSc, rfl, rfl⟩) rfl ?_)
  (refine WL.store [wd, pd, vi (threeE (-1) 640).table.wrong, hd, sd, vi (threeE (-1) 640).start, vi (threeE (-1) 640).calls] rfl (.tail _ (.tail _ (.tail _ (.tail _ (.tail _ (.head _)))))) rfl rfl rfl (Nat.le_of_ble_eq_true rfl) (by simp [Value.cells]; exact ⟨IsArr.one hWd, IsArr.one hPd, rfl, IsArr.one hHd, IsArr.one hSd, rfl, rfl⟩) rfl ?_)
  (refine WL.store [we, pe, vi (threeE 5 640).table.wrong, he, se, vi (threeE 5 640).start, vi (threeE 5 640).calls] rfl (.tail _ (.tail _ (.tail _ (.tail _ (.head _))))) rfl rfl rfl (Nat.le_of_ble_eq_true rfl) (by simp [Value.cells]; exact ⟨IsArr.one hWe, IsArr.one hPe, rfl, IsArr.one hHe, IsArr.one hSe, rfl, rfl⟩) rfl ?_)
  (refine WL.store [wg, pg, vi (threeE 5 1440).table.wrong, hg, sg, vi (threeE 5 1440).start, vi (threeE 5 1440).calls] rfl (.tail _ (.tail _ (.tail _ (.head _)))) rfl rfl rfl (Nat.le_of_ble_eq_true rfl) (by simp [Value.cells]; exact ⟨IsArr.one hWg, IsArr.one hPg, rfl, IsArr.one hHg, IsArr.one hSg, rfl, rfl⟩) rfl ?_)
  (refine WL.store [_, _, _, _, _, _, _] rfl (.tail _ (.tail _ (.head _))) rfl rfl rfl (Nat.le_of_ble_eq_true rfl) (by simp [Value.cells, Value.oneCell']; exact ⟨IsArr.one hWS, IsArr.one hPS, IsArr.one hHS⟩) rfl ?_)
  (refine WL.store [wj, pj, vi (threeE 5 640).table.wrong, hj, sj, vi (threeE 5 640).start, vi (threeE 5 640).calls] rfl (.tail _ (.head _)) rfl rfl rfl (Nat.le_of_ble_eq_true rfl) (by simp [Value.cells]; exact ⟨IsArr.one hWj, IsArr.one hPj, rfl, IsArr.one hHj, IsArr.one hSj, rfl, rfl⟩) rfl ?_)
  (refine WL.store [wk, pk, vi (threeE 5 640).table.wrong, hk, .slice qa 6 qc, vi (threeE 5 640).start, vi (threeE 5 640).calls] rfl (.head _) rfl rfl rfl (Nat.le_of_ble_eq_true rfl) (by simp [Value.cells]; exact ⟨IsArr.one hWk, IsArr.one hPk, rfl, IsArr.one hHk, rfl, rfl, rfl⟩) rfl ?_)
  refine WL.nil ?_
  refine Kseq.go (W.seq ?_)
  refine W.region ?_; refine .val (.fieldAddrB rfl) rfl rfl rfl ?_; refine .val (.fieldAddrB rfl) rfl rfl rfl ?_
  (refine WL.store [_, _, _, _, _, _, _] rfl (.tail _ (.tail _ (.tail _ (.tail _ (.tail _ (.tail _ (.tail _ (.tail _ (.head _))))))))) rfl rfl rfl (Nat.le_of_ble_eq_true rfl) (by simp [Value.cells, Value.oneCell']) rfl ?_)
  refine WL.nil ?_
  refine Kseq.go (W.seq ?_)
  refine W.region ?_; refine .val (.fieldAddrB rfl) rfl rfl rfl ?_; refine .val (.fieldAddrB rfl) rfl rfl rfl ?_; refine .val (.loadB rfl (.tail _ (.tail _ (.tail _ (.tail _ (.tail _ (.tail _ (.tail _ (.head _)))))))) rfl) rfl rfl rfl ?_; refine .val (.build2 rfl rfl) rfl rfl rfl ?_; refine .val (.indexAddrR rfl rfl (.tail _ (.tail _ (.tail _ (.tail _ (.tail _ (.tail _ (.tail _ (.tail _ (.tail _ (.head _)))))))))) (by decide)) rfl rfl rfl ?_; refine .val (.fieldAddrR rfl (.tail _ (.tail _ (.tail _ (.tail _ (.tail _ (.tail _ (.tail _ (.tail _ (.tail _ (.head _)))))))))) (by decide)) rfl rfl rfl ?_
  (refine WL.storeR (T := 77) (k := 3) rfl (.tail _ (.tail _ (.tail _ (.tail _ (.tail _ (.tail _ (.tail _ (.tail _ (.tail _ (.head _)))))))))) rfl rfl rfl (by decide) (Nat.le_of_ble_eq_true rfl) (by simp [Value.cells, Value.oneCell']) ?_)
  refine WL.nil ?_
  refine Kseq.go (W.seq ?_)
  refine W.region ?_
  (refine WL.make rfl rfl (by decide) (by decide) rfl rfl rfl (fun b201 => ?_))
  refine .val (.fieldAddrB rfl) rfl rfl rfl ?_; refine .val (.fieldAddrB rfl) rfl rfl rfl ?_
  (refine WL.store [_, _, _, _, _, _, _] rfl (.tail _ (.tail _ (.tail _ (.tail _ (.tail _ (.head _)))))) rfl rfl rfl (Nat.le_of_ble_eq_true rfl) (by simp [Value.cells, Value.oneCell']) rfl ?_)
  refine WL.nil ?_
  refine Kseq.go (W.seq ?_)
  refine W.region ?_; refine .val (.fieldAddrB rfl) rfl rfl rfl ?_; refine .val (.fieldAddrB rfl) rfl rfl rfl ?_
  (refine WL.store [_, _, _, _, _, _, _] rfl (.tail _ (.tail _ (.tail _ (.tail _ (.tail _ (.head _)))))) rfl rfl rfl (Nat.le_of_ble_eq_true rfl) (by simp [Value.cells, Value.oneCell']) rfl ?_)
  refine WL.nil ?_
  refine Kseq.go (W.seq ?_)
  refine W.draw 3 (by kernel_rfl) (by kernel_rfl) (by kernel_rfl) rfl ?_; refine .val [] (.fieldAddrB rfl) rfl rfl rfl rfl ?_; refine .val [] (.loadB rfl (.tail _ (.tail _ (.tail _ (.head _)))) rfl) rfl rfl rfl rfl ?_; refine .val [] (.call rfl (fun m hm => between11_any _ _)) rfl rfl rfl rfl ?_; refine DJ.nil ?_; refine .val (.indexAddrR rfl rfl (.tail _ (.tail _ (.tail _ (.tail _ (.tail _ (.tail _ (.tail _ (.tail _ (.tail _ (.tail _ (.tail _ (.head _)))))))))))) (by decide)) rfl rfl rfl ?_
  (refine WL.storeR (T := 98) (k := 2) rfl (.tail _ (.tail _ (.tail _ (.tail _ (.tail _ (.tail _ (.tail _ (.tail _ (.tail _ (.tail _ (.tail _ (.head _)))))))))))) rfl rfl rfl (by decide) (Nat.le_of_ble_eq_true rfl) (by simp [Value.cells, Value.oneCell']) ?_)
  refine WL.nil ?_
  refine Kseq.go (W.seq ?_)
  refine W.region ?_; refine .val (.fieldAddrB rfl) rfl rfl rfl ?_
  (refine WL.store [_, _, _, _, _, _, _] rfl (.tail _ (.tail _ (.head _))) rfl rfl rfl (Nat.le_of_ble_eq_true rfl) (by simp [Value.cells, Value.oneCell']) rfl ?_)
  refine WL.nil ?_
  refine Kseq.go (W.seq ?_)
  refine W.region ?_; refine .val (.fieldAddrB rfl) rfl rfl rfl ?_; refine .val (.loadB rfl (.tail _ (.head _)) rfl) rfl rfl rfl ?_; refine .val (.sliceH (hi' := 5) rfl rfl hSk (by decide)) rfl rfl rfl ?_; refine .val (.fieldAddrB rfl) rfl rfl rfl ?_
  (refine WL.store [_, _, _, _, _, _, _] rfl (.tail _ (.head _)) rfl rfl rfl (Nat.le_of_ble_eq_true rfl) (by simp [subV, Value.cells, Value.oneCell']) rfl ?_)
  refine WL.nil ?_
  refine Kseq.go (W.seq ?_)
  refine W.freezeRow (.head _) (fun b hb => (hF b hb).elim) (fun u hu => by have hu' := made15 ▸ hu; rw [List.eq_of_mem_replicate hu']; rfl) fun mM hM => ?_
  refine W.freezeBox (.head _) (fun b hb => (hF b hb).elim) fun n24 hb24 => ?_
  refine W.freezeBox (.head _) (fun b hb => (hF b hb).elim) fun n23 hb23 => ?_
  refine W.freezeBox (.head _) (fun b hb => (hF b hb).elim) fun n22 hb22 => ?_
  refine W.freezeBox (.head _) (fun b hb => (hF b hb).elim) fun n21 hb21 => ?_
  refine W.freezeBox (.head _) (fun b hb => (hF b hb).elim) fun n20 hb20 => ?_
  refine W.freezeBox (.head _) (fun b hb => (hF b hb).elim) fun n19 hb19 => ?_
  refine W.freezeBox (.head _) (fun b hb => (hF b hb).elim) fun n18 hb18 => ?_
  refine W.freezeBox (.head _) (fun b hb => (hF b hb).elim) fun n17 hb17 => ?_
  refine W.freezeBox (.head _) (fun b hb => (hF b hb).elim) fun n16 hb16 => ?_
  refine W.freezeRow (.head _) (fun b hb => (hF b hb).elim) (List.all_eq_true.1 rfl) fun rW hrW => ?_
  refine W.freezeRow (.head _) (fun b hb => (hF b hb).elim) (List.all_eq_true.1 rfl) fun rS hrS => ?_
  refine W.join fun mz hz => ?_
  have hz24 := hb24.le (hz n24 (by simp))
  have hz23 := hb23.le (hz n23 (by simp))
  have hz22 := hb22.le (hz n22 (by simp))
  have hz21 := hb21.le (hz n21 (by simp))
  have hz20 := hb20.le (hz n20 (by simp))
  have hz19 := hb19.le (hz n19 (by simp))
  have hz18 := hb18.le (hz n18 (by simp))
  have hz17 := hb17.le (hz n17 (by simp))
  have hz16 := hb16.le (hz n16 (by simp))
  have hWz : IsWomen mz (.slice (some ⟨yW, 0, none⟩) 3 3) eFalse.table.women := by
    refine IsArr.le (m := rW) ?_ (hz _ (by simp))
    refine (hrW).congr fun i j hi hj' => ?_
    have h0 : i < 3 := hi
    have h1 : i = 0 ∨ i = 1 ∨ i = 2 := by omega
    have h2 : j = 0 ∨ j = 1 ∨ j = 2 := by omega
    rcases h1 with rfl | rfl | rfl <;> rcases h2 with rfl | rfl | rfl <;> rfl
  have hSz : IsRgs mz (.slice (some ⟨yS, 0, none⟩) 6 6) eStreet.streets := by
    refine IsArr.le (m := rS) ?_ (hz _ (by simp))
    refine (hrS).congr fun i j hi hj' => ?_
    have h0 : i < 6 := hi
    have h1 : i = 0 ∨ i = 1 ∨ i = 2 ∨ i = 3 ∨ i = 4 ∨ i = 5 := by omega
    have h2 : j = 0 ∨ j = 1 := by omega
    rcases h1 with rfl | rfl | rfl | rfl | rfl | rfl <;> rcases h2 with rfl | rfl <;> rfl
  have hM2 : IsArr mM 3 (.slice (some ⟨b201, 0, none⟩) 5 5) 5 (fun i j => (List.replicate 15 (vi 0)).getD (i * 3 + j) undef) := made15 ▸ hM
  have hMz : IsWomen mz (.slice (some ⟨b201, 0, none⟩) 5 5) eWomen.table.women := by
    refine IsArr.le (m := mM) ?_ (hz _ (by simp))
    refine (hM2).congr fun i j hi hj' => ?_
    have h0 : i < 5 := hi
    have h1 : i = 0 ∨ i = 1 ∨ i = 2 ∨ i = 3 ∨ i = 4 := by omega
    have h2 : j = 0 ∨ j = 1 ∨ j = 2 := by omega
    rcases h1 with rfl | rfl | rfl | rfl | rfl <;> rcases h2 with rfl | rfl | rfl <;> rfl
  have hKz : IsRgs mz (subV 2 0 5 (.slice qa 6 qc)) eStreets.streets := by
    refine IsArr.le (m := m192) ?_ (hz _ (by simp))
    refine (IsArr.sub hSk (lo := 0) (hi := 5) (by decide) (by decide)).congr fun i j hi hj' => ?_
    have h0 : i < 5 := hi
    have h1 : i = 0 ∨ i = 1 ∨ i = 2 ∨ i = 3 ∨ i = 4 := by omega
    have h2 : j = 0 ∨ j = 1 := by omega
    rcases h1 with rfl | rfl | rfl | rfl | rfl <;> rcases h2 with rfl | rfl <;> rfl
  have hX16 : IsErrand mz (.agg #[wa, pa, vi (-1), ha, sa, vi (threeE 5 640).start, vi (threeE 5 640).calls]) eBad := ⟨wa, pa, ha, sa, fa, rfl, hWa.le (hz m184 (by simp)), hPa.le (hz m184 (by simp)), hMa.le (hz m184 (by simp)), hHa.le (hz m184 (by simp)), hSa.le (hz m184 (by simp))⟩
  have hX17 : IsErrand mz (.agg #[.slice (some ⟨yW, 0, none⟩) 3 3, pW, vi 0, hW, sW, vi 600, vi 5]) eFalse := ⟨_, pW, hW, sW, fW, rfl, hWz, hPW.le (hz mW (by simp)), hMW.le (hz mW (by simp)), hHW.le (hz mW (by simp)), hSW.le (hz mW (by simp))⟩
  have hX18 : IsErrand mz (.agg #[wc, pc, vi (threeE 8 640).table.wrong, hc, sc, vi (threeE 8 640).start, vi (threeE 8 640).calls]) (threeE 8 640) := ⟨wc, pc, hc, sc, fc, rfl, hWc.le (hz m186 (by simp)), hPc.le (hz m186 (by simp)), hMc.le (hz m186 (by simp)), hHc.le (hz m186 (by simp)), hSc.le (hz m186 (by simp))⟩
  have hX19 : IsErrand mz (.agg #[wd, pd, vi (threeE (-1) 640).table.wrong, hd, sd, vi (threeE (-1) 640).start, vi (threeE (-1) 640).calls]) (threeE (-1) 640) := ⟨wd, pd, hd, sd, fd, rfl, hWd.le (hz m187 (by simp)), hPd.le (hz m187 (by simp)), hMd.le (hz m187 (by simp)), hHd.le (hz m187 (by simp)), hSd.le (hz m187 (by simp))⟩
  have hX20 : IsErrand mz (.agg #[.slice (some ⟨b201, 0, none⟩) 5 5, .slice none 0 0, vi (threeE 5 640).table.wrong, he, se, vi (threeE 5 640).start, vi (threeE 5 640).calls]) eWomen := ⟨_, _, he, se, fe, rfl, hMz, IsArr.nil mz 2 _, fun i hi => absurd hi (Nat.not_lt_zero _), hHe.le (hz m188 (by simp)), hSe.le (hz m188 (by simp))⟩
  have hX21 : IsErrand mz (.agg #[wg, pg, vi (threeE 5 1440).table.wrong, hg, sg, vi (threeE 5 1440).start, vi (threeE 5 1440).calls]) (threeE 5 1440) := ⟨wg, pg, hg, sg, fg, rfl, hWg.le (hz m189 (by simp)), hPg.le (hz m189 (by simp)), hMg.le (hz m189 (by simp)), hHg.le (hz m189 (by simp)), hSg.le (hz m189 (by simp))⟩
  have hX22 : IsErrand mz (.agg #[wS, pS, vi 0, hS, .slice (some ⟨yS, 0, none⟩) 6 6, vi 600, vi 5]) eStreet := ⟨wS, pS, hS, _, fS, rfl, hWS.le (hz mS (by simp)), hPS.le (hz mS (by simp)), hMS.le (hz mS (by simp)), hHS.le (hz mS (by simp)), hSz⟩
  have hX23 : IsErrand mz (.agg #[wj, pj, vi (threeE 5 640).table.wrong, hj, sj, vi 1440, vi (threeE 5 640).calls]) eStart := ⟨wj, pj, hj, sj, fj, rfl, hWj.le (hz m191 (by simp)), hPj.le (hz m191 (by simp)), hMj.le (hz m191 (by simp)), hHj.le (hz m191 (by simp)), hSj.le (hz m191 (by simp))⟩
  have hX24 : IsErrand mz (.agg #[wk, pk, vi (threeE 5 640).table.wrong, hk, subV 2 0 5 (.slice qa 6 qc), vi (threeE 5 640).start, vi (threeE 5 640).calls]) eStreets := ⟨wk, pk, hk, _, fk, rfl, hWk.le (hz m192 (by simp)), hPk.le (hz m192 (by simp)), hMk.le (hz m192 (by simp)), hHk.le (hz m192 (by simp)), hKz⟩
  have hX0 : ∀ m, IsErrand m (.agg #[.slice none 0 0, .slice none 0 0, vi 0, .slice none 0 0, .slice none 0 0, vi 0, vi 0]) eNone := fun m => ⟨_, _, _, _, fun _ => undef, rfl, IsArr.nil m 3 _, IsArr.nil m 2 _, fun i hi => absurd hi (Nat.not_lt_zero _), IsArr.nil m 2 _, IsArr.nil m 2 _⟩
  have sm16 : SmE eBad := ee_sm rfl (by simp [eBad, threeE]) (by simp [eBad, threeE]) (by simp [eBad, threeE])
  have sm17 : SmE eFalse := ee_sm rfl (by simp [eFalse, threeE]) (by simp [eFalse, threeE]) (by simp [eFalse, threeE])
  have sm22 : SmE eStreet := ee_sm rfl (by simp [eStreet, threeE]) (by simp [eStreet, threeE]) (by simp [eStreet, threeE])
  have sm23 : SmE eStart := ee_sm rfl (by simp [eStart, threeE]) (by simp [eStart, threeE]) (by simp [eStart, threeE])
  have sm24 : SmE eStreets := ee_sm rfl (by simp [eStreets, threeE]) (by simp [eStreets, threeE]) (by simp [eStreets, threeE])
  have sm18 := threeE_sm 8 640
  have sm19 := threeE_sm (-1) 640
  have sm21 := threeE_sm 5 1440
  have sm20 : SmE eWomen := ⟨⟨by simp [eWomen], by simp [eWomen], fun i hi => absurd hi (Nat.not_lt_zero _)⟩, by simp [eWomen, threeE], by simp [eWomen, threeE]⟩
  have sm0 : SmE eNone := ⟨⟨by simp [eNone], by simp [eNone], fun i hi => absurd hi (Nat.not_lt_zero _)⟩, by simp [eNone], by simp [eNone]⟩
  obtain ⟨e16, e17, e18, e19, e20, e21, e22, e23, e24, e0⟩ := ee_faults
  clear hz
  refine W.weaken [(2, vi 2), (4, vi 2), (7, vi 2), (9, vi 2), (11, vi 2), (16, .pointer (some ⟨b16, 0, none⟩)), (17, .pointer (some ⟨b17, 0, none⟩)), (18, .pointer (some ⟨b18, 0, none⟩)), (19, .pointer (some ⟨b19, 0, none⟩)), (20, .pointer (some ⟨b20, 0, none⟩)), (21, .pointer (some ⟨b21, 0, none⟩)), (22, .pointer (some ⟨b22, 0, none⟩)), (23, .pointer (some ⟨b23, 0, none⟩)), (24, .pointer (some ⟨b24, 0, none⟩))] [mz] [] (by repeat (first | exact trivial | refine ⟨rfl, ?_⟩)) (by simp) (List.nil_sublist _) ?_; refine W.region ?_
  iterate 19 refine .o rfl ?_
  refine .val (.loadPW rfl hz16 (by repeat constructor) rfl) rfl rfl rfl ?_; refine .val (.call rfl (fun m hm => checkN11_any (hX16.le (by repeat first | exact hm.1 | replace hm := hm.2)) sm16 e16)) rfl rfl rfl ?_
  iterate 3 refine .o rfl ?_
  refine .val (.loadPW rfl hz17 (by repeat constructor) rfl) rfl rfl rfl ?_; refine .val (.call rfl (fun m hm => checkN11_any (hX17.le (by repeat first | exact hm.1 | replace hm := hm.2)) sm17 e17)) rfl rfl rfl ?_
  iterate 3 refine .o rfl ?_
  refine .val (.loadPW rfl hz18 (by repeat constructor) rfl) rfl rfl rfl ?_; refine .val (.call rfl (fun m hm => checkN11_any (hX18.le (by repeat first | exact hm.1 | replace hm := hm.2)) sm18 e18)) rfl rfl rfl ?_
  iterate 3 refine .o rfl ?_
  refine .val (.loadPW rfl hz19 (by repeat constructor) rfl) rfl rfl rfl ?_; refine .val (.call rfl (fun m hm => checkN11_any (hX19.le (by repeat first | exact hm.1 | replace hm := hm.2)) sm19 e19)) rfl rfl rfl ?_
  iterate 3 refine .o rfl ?_
  refine .val (.loadPW rfl hz20 (by repeat constructor) rfl) rfl rfl rfl ?_; refine .val (.call rfl (fun m hm => checkN11_any (hX20.le (by repeat first | exact hm.1 | replace hm := hm.2)) sm20 e20)) rfl rfl rfl ?_
  iterate 3 refine .o rfl ?_
  refine .val (.loadPW rfl hz21 (by repeat constructor) rfl) rfl rfl rfl ?_; refine .val (.call rfl (fun m hm => checkN11_any (hX21.le (by repeat first | exact hm.1 | replace hm := hm.2)) sm21 e21)) rfl rfl rfl ?_
  iterate 3 refine .o rfl ?_
  refine .val (.loadPW rfl hz22 (by repeat constructor) rfl) rfl rfl rfl ?_; refine .val (.call rfl (fun m hm => checkN11_any (hX22.le (by repeat first | exact hm.1 | replace hm := hm.2)) sm22 e22)) rfl rfl rfl ?_
  iterate 3 refine .o rfl ?_
  refine .val (.loadPW rfl hz23 (by repeat constructor) rfl) rfl rfl rfl ?_; refine .val (.call rfl (fun m hm => checkN11_any (hX23.le (by repeat first | exact hm.1 | replace hm := hm.2)) sm23 e23)) rfl rfl rfl ?_
  iterate 3 refine .o rfl ?_
  refine .val (.loadPW rfl hz24 (by repeat constructor) rfl) rfl rfl rfl ?_; refine .val (.call rfl (fun m hm => checkN11_any (hX24.le (by repeat first | exact hm.1 | replace hm := hm.2)) sm24 e24)) rfl rfl rfl ?_
  iterate 3 refine .o rfl ?_
  refine .val (.build #[.slice none 0 0, .slice none 0 0, vi 0, .slice none 0 0, .slice none 0 0, vi 0, vi 0] rfl (by kernel_rfl)) rfl rfl rfl ?_; refine .val (.call rfl (fun m hm => checkN11_any (hX0 m) sm0 e0)) rfl rfl rfl ?_
  iterate 3 refine .o rfl ?_
  refine .val (.call rfl (fun m hm => awake11_any)) rfl rfl rfl ?_
  iterate 2 refine .o rfl ?_
  refine WL.nil ?_; refine Kseq.go ?_
  refine W.ret ?_; refine ⟨.inl rfl, [_], mz, ⟨.tmp rfl, trivial⟩, (by repeat constructor), ?_⟩
  rfl
end Go.Proofs.Ytppkhehbkoeinaa
