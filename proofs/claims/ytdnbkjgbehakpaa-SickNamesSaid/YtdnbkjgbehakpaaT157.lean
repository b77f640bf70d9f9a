/- The statement SickNames: its contract. -/
import Derived.Test.YtdnbkjgbehakpaaP44
import Derived.Test.YtdnbkjgbehakpaaT156
import Derived.Test.YtdnbkjgbehakpaaT132
import Derived.Test.YtdnbkjgbehakpaaT113
namespace Go.Proofs.Ytdnbkjgbehakpaa
open Go Go.Eng Go.RowKit

theorem playN_any {h : Mem} {v cv : Value} {r : House} {q : Course} {e : Int} {xs : List Int} (hv : IsHouse h v r) (hs : SmH r) (hq : IsCourseV h cv q) (he : play6E r q = e) (hx : (if play6E r q = 0 then bits (lastN r q []) else []) = xs) : FnR Try.prog 4 #[v, cv] h (fun m x => ∃ lv, x = .tuple #[lv, vi e] ∧ IsInts m lv xs) := by
  have := play6_any hv hs hq
  rwa [hx, he] at this
theorem boilN_any {h : Mem} {v : Value} {r : House} {hour : Int} {xs : List Int} (hv : IsHouse h v r) (hs : SmH r) (hE : ask6E r (isHour r hour) = 0) (hb : boil6 r hour = some xs) : FnR Try.prog 7 #[v, vi hour] h (fun m x => ∃ lv, x = .tuple #[lv, vi 0] ∧ IsInts m lv xs) :=
  (boil6_any hour hv hs).mono fun m x hx => by
    obtain ⟨lv, e, _, h2⟩ := hx
    rw [hE] at e h2
    exact ⟨lv, e, h2 rfl _ hb⟩
theorem boilE_any {h : Mem} {v : Value} {r : House} {hour e : Int} (hv : IsHouse h v r) (hs : SmH r) (hE : ask6E r (isHour r hour) = e) : FnR Try.prog 7 #[v, vi hour] h (fun _ x => ∃ lv, x = .tuple #[lv, vi e]) :=
  (boil6_any hour hv hs).mono fun m x hx => by
    obtain ⟨lv, e2, _⟩ := hx
    rw [hE] at e2
    exact ⟨lv, e2⟩
theorem orderN_any {h : Mem} {v : Value} {r : House} {hour : Int} {xs : List Int} (hv : IsHouse h v r) (hs : SmH r) (hE : ordE r hour = 0) (hb : order6 r hour = some xs) : FnR Try.prog 8 #[v, vi hour] h (fun m x => ∃ lv, x = .tuple #[lv, vi 0] ∧ IsInts m lv xs) :=
  (order6_any hour hv hs).mono fun m x hx => by
    obtain ⟨lv, e, _, h2⟩ := hx
    rw [hE] at e h2
    exact ⟨lv, e, h2 rfl _ hb⟩
theorem orderE_any {h : Mem} {v : Value} {r : House} {hour e : Int} (hv : IsHouse h v r) (hs : SmH r) (hE : ordE r hour = e) : FnR Try.prog 8 #[v, vi hour] h (fun _ x => ∃ lv, x = .tuple #[lv, vi e]) :=
  (order6_any hour hv hs).mono fun m x hx => by
    obtain ⟨lv, e2, _⟩ := hx
    rw [hE] at e2
    exact ⟨lv, e2⟩
theorem carryN_any {h : Mem} {v : Value} {r : House} {e : Int} {xs : List Int} (hv : IsHouse h v r) (hs : SmH r) (hE : ask6E r true = e) (hx : (if ask6E r true = 0 then carry6 r else []) = xs) : FnR Try.prog 9 #[v] h (fun m x => ∃ lv, x = .tuple #[lv, vi e] ∧ IsInts m lv xs) := by
  have := carry6_any hv hs
  rwa [hx, hE] at this
theorem whoseN_any {h : Mem} {v : Value} {r : House} {e : Int} {xs : List Int} (hv : IsHouse h v r) (hs : SmH r) (hE : ask6E r true = e) (hx : (if ask6E r true = 0 then whose6 r else []) = xs) : FnR Try.prog 10 #[v] h (fun m x => ∃ lv, x = .tuple #[lv, vi e] ∧ IsInts m lv xs) := by
  have := whose6_any hv hs
  rwa [hx, hE] at this
theorem firstN_any {h : Mem} {v : Value} (hv : IsHouse h v (tubH 1)) : FnV Try.prog 11 #[v] h (.tuple #[vi 0, vi 7]) := by
  have := first6_any hv (tubH_sm 1 (by omega))
  rwa [nf_first] at this
theorem truthN_any {h : Mem} {v cv : Value} {r : House} {q : Course} {b : Bool} (hv : IsHouse h v r) (hs : SmH r) (hq : IsCourseV h cv q) (he : truth6B r q = b) : FnV Try.prog 13 #[v, cv] h (.bool b) := by
  have := proveTruth6_any hv hs hq
  rwa [he] at this
theorem pBoilN_any {h : Mem} {v lv : Value} {r : House} {hour m : Int} {x : List Int} {b : Bool} (hv : IsHouse h v r) (hs : SmH r) (hl : IsInts h lv x) (hx : x.length ≤ 1000) (he : proveBoilB r hour x m = b) : FnV Try.prog 14 #[v, vi hour, lv, vi m] h (.bool b) := by
  have := proveBoil_any (hour := hour) m hv hs hl hx
  rwa [he] at this
theorem pOrdN_any {h : Mem} {v lv : Value} {r : House} {hour m : Int} {x : List Int} {b : Bool} (hv : IsHouse h v r) (hs : SmH r) (hl : IsInts h lv x) (hx : x.length ≤ 1000) (he : proveOrdB r hour x m = b) : FnV Try.prog 15 #[v, vi hour, lv, vi m] h (.bool b) := by
  have := proveOrder_any (hour := hour) m hv hs hl hx
  rwa [he] at this
theorem checkN_any {h : Mem} {v : Value} {r : House} {e : Int} (hv : IsHouse h v r) (hs : SmH r) (he : fault6 r = e) : FnV Try.prog 17 #[v] h (vi e) := by
  have := checkHouse_any hv hs
  rwa [he] at this
theorem made28 : (madeCells (Value.agg #[vi 0, vi 0, vi 0, vi 0]).cells (7 * 4)).toList = List.replicate 28 (vi 0) := by
  have hc : (Value.agg #[vi 0, vi 0, vi 0, vi 0]).cells = #[vi 0, vi 0, vi 0, vi 0] := by simp [Value.cells]
  rw [hc]
  unfold madeCells
  rw [Array.toList_map, Array.toList_range]
  refine List.eq_replicate_iff.2 ⟨by simp, fun b hb => ?_⟩
  obtain ⟨i, _, rfl⟩ := List.mem_map.1 hb
  have h4 : i % 4 = 0 ∨ i % 4 = 1 ∨ i % 4 = 2 ∨ i % 4 = 3 := by omega
  show #[vi 0, vi 0, vi 0, vi 0][i % 4]! = _
  rcases h4 with e | e | e | e <;> rw [e] <;> rfl
/-- SickNames -/
theorem sickNames_any {h : Mem} : FnV Try.prog 3 #[] h (.bool true) := by
  refine FnR.val ?_
  refine FnR.of_W (n := 414) Try.func3 rfl rfl (Nat.le_of_ble_eq_true rfl) fun c hr hD hF => ?_
  refine W.seq ?_; refine W.region ?_; refine .o rfl ?_; refine WL.nil ?_
  refine Kseq.go (W.seq ?_)
  refine W.region ?_; refine WL.abs (OpAbs.call rfl (fun m hm => tub6_any (n := 0) (by omega))) rfl rfl rfl ?_
  rintro m34 v34 h34
  refine WL.abs (OpAbs.call rfl (fun m hm => passed6_any 0 1)) rfl rfl rfl ?_
  rintro m35 v35 h35
  (refine WL.abs (OpAbs.call rfl (fun m hm => playN_any (h34.le (by repeat first | exact hm.1 | replace hm := hm.2)) (tubH_sm 0 (by omega)) (h35.le (by repeat first | exact hm.1 | replace hm := hm.2)) nf_play1.1 ((if_pos nf_play1.1).trans nf_play1.2))) rfl rfl rfl ?_; rintro m36 _ ⟨lv1, rfl, hl1⟩)
  iterate 5 refine .o rfl ?_
  refine WL.nil ?_
  refine Kseq.go (W.seq ?_)
  refine W.region ?_; refine WL.abs (OpAbs.call rfl (fun m hm => tub6_any (n := 0) (by omega))) rfl rfl rfl ?_
  rintro m40 v40 h40
  refine WL.abs (OpAbs.call rfl (fun m hm => passed6_any 1 1)) rfl rfl rfl ?_
  rintro m41 v41 h41
  (refine WL.abs (OpAbs.call rfl (fun m hm => playN_any (h40.le (by repeat first | exact hm.1 | replace hm := hm.2)) (tubH_sm 0 (by omega)) (h41.le (by repeat first | exact hm.1 | replace hm := hm.2)) nf_play2.1 ((if_pos nf_play2.1).trans nf_play2.2))) rfl rfl rfl ?_; rintro m42 _ ⟨lv2, rfl, hl2⟩)
  iterate 5 refine .o rfl ?_
  refine WL.nil ?_
  refine Kseq.go (W.seq ?_)
  refine W.region ?_; refine WL.abs (OpAbs.call rfl (fun m hm => tub6_any (n := 0) (by omega))) rfl rfl rfl ?_
  rintro m46 v46 h46
  (refine WL.abs (OpAbs.call rfl (fun m hm => boilN_any (h46.le (by repeat first | exact hm.1 | replace hm := hm.2)) (tubH_sm 0 (by omega)) nf_boilE0 nf_boil0)) rfl rfl rfl ?_; rintro m47 _ ⟨lv3, rfl, hl3⟩)
  iterate 5 refine .o rfl ?_
  refine WL.nil ?_
  refine Kseq.go (W.seq ?_)
  refine W.region ?_; refine WL.abs (OpAbs.call rfl (fun m hm => tub6_any (n := 0) (by omega))) rfl rfl rfl ?_
  rintro m51 v51 h51
  (refine WL.abs (OpAbs.call rfl (fun m hm => boilN_any (h51.le (by repeat first | exact hm.1 | replace hm := hm.2)) (tubH_sm 0 (by omega)) nf_boilE2 nf_boil2)) rfl rfl rfl ?_; rintro m52 _ ⟨lv4, rfl, hl4⟩)
  iterate 5 refine .o rfl ?_
  refine WL.nil ?_
  refine Kseq.go (W.seq ?_)
  refine W.region ?_; refine WL.abs (OpAbs.call rfl (fun m hm => tub6_any (n := 0) (by omega))) rfl rfl rfl ?_
  rintro m56 v56 h56
  (refine WL.abs (OpAbs.call rfl (fun m hm => orderN_any (h56.le (by repeat first | exact hm.1 | replace hm := hm.2)) (tubH_sm 0 (by omega)) nf_ordE0 nf_ord0)) rfl rfl rfl ?_; rintro m57 _ ⟨lv5, rfl, hl5⟩)
  iterate 5 refine .o rfl ?_
  refine WL.nil ?_
  refine Kseq.go (W.seq ?_)
  refine W.region ?_; refine WL.abs (OpAbs.call rfl (fun m hm => tub6_any (n := 0) (by omega))) rfl rfl rfl ?_
  rintro m61 v61 h61
  (refine WL.abs (OpAbs.call rfl (fun m hm => orderN_any (h61.le (by repeat first | exact hm.1 | replace hm := hm.2)) (tubH_sm 0 (by omega)) nf_ordE2 nf_ord2)) rfl rfl rfl ?_; rintro m62 _ ⟨lv6, rfl, hl6⟩)
  iterate 5 refine .o rfl ?_
  refine WL.nil ?_
  refine Kseq.go (W.seq ?_)
  refine W.region ?_; refine WL.abs (OpAbs.call rfl (fun m hm => tub6_any (n := 1) (by omega))) rfl rfl rfl ?_
  rintro m66 v66 h66
  (refine WL.abs (OpAbs.call rfl (fun m hm => carryN_any (h66.le (by repeat first | exact hm.1 | replace hm := hm.2)) (tubH_sm 1 (by omega)) nf_carry.1 ((if_pos nf_carry.1).trans nf_carry.2))) rfl rfl rfl ?_; rintro m67 _ ⟨lv7, rfl, hl7⟩)
  iterate 5 refine .o rfl ?_
  refine WL.nil ?_
  refine Kseq.go (W.seq ?_)
  refine W.join fun mj hj => ?_
  have g1 := IsInts.le hl1 (hj _ (by simp))
  have g2 := IsInts.le hl2 (hj _ (by simp))
  have g3 := IsInts.le hl3 (hj _ (by simp))
  have g4 := IsInts.le hl4 (hj _ (by simp))
  have g5 := IsInts.le hl5 (hj _ (by simp))
  have g6 := IsInts.le hl6 (hj _ (by simp))
  have g7 := IsInts.le hl7 (hj _ (by simp))
  clear hl1 hl2 hl3 hl4 hl5 hl6 hl7
  refine W.weaken [(1, lv1), (2, vi 0), (3, lv2), (4, vi 0), (5, lv3), (6, vi 0), (7, lv4), (8, vi 0), (9, lv5), (10, vi 0), (11, lv6), (12, vi 0), (13, lv7), (14, vi 0)] [mj] [] (by repeat (first | exact trivial | refine ⟨rfl, ?_⟩)) (by simp) (List.nil_sublist _) ?_; refine W.region ?_; refine WL.abs (OpAbs.call rfl (fun m hm => tub6_any (n := 0) (by omega))) rfl rfl rfl ?_
  rintro m70 v70 h70
  refine WL.abs (OpAbs.call rfl (fun m hm => tub6_any (n := 0) (by omega))) rfl rfl rfl ?_
  rintro m71 v71 h71
  have hV1 := h70
  obtain ⟨w1, p1, k1, t1, b1, s1, f1, rfl, hA1⟩ := h70
  have hV2 := h71
  obtain ⟨w2, p2, k2, t2, b2, s2, f2, rfl, hA2⟩ := h71
  refine WL.alloc rfl rfl rfl (fun b15 => ?_)
  refine WL.alloc rfl rfl rfl (fun b16 => ?_)
  (refine WL.store [w1, p1, vi (tubH 0).table.wrong, k1, vi (tubH 0).others, vi (tubH 0).last, t1, b1, s1] rfl (.tail _ (.head _)) rfl rfl rfl (Nat.le_of_ble_eq_true rfl) (by simp [Value.cells]; exact ⟨IsArr.one hA1.W, IsArr.one hA1.P, rfl, IsArr.one hA1.K, rfl, rfl, IsArr.one hA1.T, IsArr.one hA1.B, IsArr.one hA1.S⟩) rfl ?_)
  (refine WL.store [w2, p2, vi (tubH 0).table.wrong, k2, vi (tubH 0).others, vi (tubH 0).last, t2, b2, s2] rfl (.head _) rfl rfl rfl (Nat.le_of_ble_eq_true rfl) (by simp [Value.cells]; exact ⟨IsArr.one hA2.W, IsArr.one hA2.P, rfl, IsArr.one hA2.K, rfl, rfl, IsArr.one hA2.T, IsArr.one hA2.B, IsArr.one hA2.S⟩) rfl ?_)
  refine WL.nil ?_
  refine Kseq.go (W.seq ?_)
  refine W.region ?_; refine .val (.build2 rfl rfl) rfl rfl rfl ?_
  refine WL.abs (OpAbs.lit [_, _] rfl (Nat.le_of_ble_eq_true rfl) rfl rfl (by simp [Value.cells]) (Nat.le_of_ble_eq_true rfl) rfl (by first | (simp [Value.oneCell']; done) | exact List.all_eq_true.1 rfl)) rfl rfl rfl ?_
  rintro m73 _ ⟨hc73, a73, rfl⟩
  refine .val (.fieldAddrB rfl) rfl rfl rfl ?_
  (refine WL.store [_, _, _, _, _, _, _, _, _] rfl (.tail _ (.head _)) rfl rfl rfl (Nat.le_of_ble_eq_true rfl) (by simp [Value.cells, Value.oneCell']) rfl ?_)
  refine WL.nil ?_
  refine Kseq.go (W.seq ?_)
  refine W.region ?_; refine .val (.fieldAddrB rfl) rfl rfl rfl ?_; refine .val (.loadB rfl (.tail _ (.head _)) rfl) rfl rfl rfl ?_
  refine WL.abs (OpAbs.lit [_, _] rfl (Nat.le_of_ble_eq_true rfl) rfl rfl (by simp [Value.cells]) (Nat.le_of_ble_eq_true rfl) rfl (by first | (simp [Value.oneCell']; done) | exact List.all_eq_true.1 rfl)) rfl rfl rfl ?_
  rintro m77 _ ⟨hc77, a77, rfl⟩
  refine .val (.fieldAddrB rfl) rfl rfl rfl ?_
  (refine WL.store [_, _, _, _, _, _, _, _, _] rfl (.head _) rfl rfl rfl (Nat.le_of_ble_eq_true rfl) (by simp [Value.cells, Value.oneCell']) rfl ?_)
  refine .val (.fieldAddrB rfl) rfl rfl rfl ?_
  (refine WL.store [_, _, _, _, _, _, _, _, _] rfl (.head _) rfl rfl rfl (Nat.le_of_ble_eq_true rfl) (by simp [Value.cells, Value.oneCell']) rfl ?_)
  refine WL.nil ?_
  refine Kseq.go (W.seq ?_)
  refine W.freezeBox (.head _) (fun b hb => (hF b hb).elim) fun m16 h16 => ?_
  refine W.freezeBox (.head _) (fun b hb => (hF b hb).elim) fun m15 h15 => ?_
  refine W.join fun mk hk => ?_
  have g1k := IsInts.le g1 (hk mj (by simp))
  have g2k := IsInts.le g2 (hk mj (by simp))
  have g3k := IsInts.le g3 (hk mj (by simp))
  have g4k := IsInts.le g4 (hk mj (by simp))
  have g5k := IsInts.le g5 (hk mj (by simp))
  have g6k := IsInts.le g6 (hk mj (by simp))
  have g7k := IsInts.le g7 (hk mj (by simp))
  have h16k := h16.le (hk m16 (by simp))
  have h15k := h15.le (hk m15 (by simp))
  have hA1k := hA1.le (hk _ (by simp))
  have hA2k := hA2.le (hk _ (by simp))
  have hB73 : IsBoils mk (.slice (some ⟨a73, 0, none⟩) 1 1) [⟨3, 0⟩] := by
    refine IsBoils.le (m := m73) ?_ (hk _ (by simp))
    refine (hc73.2).congr fun i j hi hj' => ?_
    have h0 : i < 1 := hi
    have h1 : i = 0 := by omega
    have h2 : j = 0 ∨ j = 1 := by omega
    rcases h1 with rfl; rcases h2 with rfl | rfl <;> rfl
  have hK77 : IsInts mk (.slice (some ⟨a77, 0, none⟩) 2 2) [1, 2] := (ints_lit (xs := [1, 2]) hc77).le (hk _ (by simp))
  have hX1 : IsHouse mk (.agg #[w1, p1, vi (tubH 0).table.wrong, k1, vi (tubH 0).others, vi (tubH 0).last, t1, .slice (some ⟨a73, 0, none⟩) 1 1, s1]) nBoiled := ⟨w1, p1, k1, t1, _, s1, f1, rfl, ⟨hA1k.W, hA1k.P, hA1k.M, hA1k.K, hA1k.T, hB73, hA1k.S⟩⟩
  have hX2 : IsHouse mk (.agg #[w2, p2, vi (tubH 0).table.wrong, .slice (some ⟨a77, 0, none⟩) 2 2, vi (tubH 0).others, vi (tubH 0).last, t2, .slice (some ⟨a73, 0, none⟩) 1 1, s2]) nBoth := ⟨w2, p2, _, t2, _, s2, f2, rfl, ⟨hA2k.W, hA2k.P, hA2k.M, hK77, hA2k.T, hB73, hA2k.S⟩⟩
  clear h16 h15 hA1 hA2 hV1 hV2 hA1k hA2k
  have sm1 : SmH nBoiled := n_sm rfl (by simp [nBoiled, tubH]) (by simp [nBoiled, tubH]) (by simp [nBoiled, tubH]) (by simp [nBoiled, tubH])
  have sm2 : SmH nBoth := n_sm rfl (by simp [nBoth, tubH]) (by simp [nBoth, tubH]) (by simp [nBoth, tubH]) (by simp [nBoth, tubH])
  refine W.weaken [(1, lv1), (2, vi 0), (3, lv2), (4, vi 0), (5, lv3), (6, vi 0), (7, lv4), (8, vi 0), (9, lv5), (10, vi 0), (11, lv6), (12, vi 0), (13, lv7), (14, vi 0), (15, .pointer (some ⟨b15, 0, none⟩)), (16, .pointer (some ⟨b16, 0, none⟩))] [mk] [] (by repeat (first | exact trivial | refine ⟨rfl, ?_⟩)) (by simp) (List.nil_sublist _) ?_; refine W.region ?_; refine .val (.loadPW rfl h15k (by repeat constructor) rfl) rfl rfl rfl ?_
  (refine WL.abs (OpAbs.call rfl (fun m hm => whoseN_any (hX1.le (by repeat first | exact hm.1 | replace hm := hm.2)) sm1 nf_boiled.1 ((if_pos nf_boiled.1).trans nf_boiled.2))) rfl rfl rfl ?_; rintro m82 _ ⟨lv8, rfl, hl8⟩)
  iterate 5 refine .o rfl ?_
  refine WL.nil ?_
  refine Kseq.go (W.seq ?_)
  refine W.region ?_; refine .val (.loadPW rfl h16k (by repeat constructor) rfl) rfl rfl rfl ?_
  (refine WL.abs (OpAbs.call rfl (fun m hm => whoseN_any (hX2.le (by repeat first | exact hm.1 | replace hm := hm.2)) sm2 nf_both.1 ((if_pos nf_both.1).trans nf_both.2))) rfl rfl rfl ?_; rintro m87 _ ⟨lv9, rfl, hl9⟩)
  iterate 5 refine .o rfl ?_
  refine WL.nil ?_
  refine Kseq.go (W.seq ?_)
  refine W.region ?_; refine WL.abs (OpAbs.call rfl (fun m hm => tub6_any (n := 1) (by omega))) rfl rfl rfl ?_
  rintro m91 v91 h91
  refine .val (.call rfl (fun m hm => firstN_any (h91.le (by repeat first | exact hm.1 | replace hm := hm.2)))) rfl rfl rfl ?_
  iterate 5 refine .o rfl ?_
  refine WL.nil ?_
  refine Kseq.go (W.seq (W.seq ?_))
  refine W.join fun ml hl => ?_
  have q1 := IsInts.le g1k (hl mk (by simp))
  have q2 := IsInts.le g2k (hl mk (by simp))
  have q3 := IsInts.le g3k (hl mk (by simp))
  have q4 := IsInts.le g4k (hl mk (by simp))
  have q5 := IsInts.le g5k (hl mk (by simp))
  have q6 := IsInts.le g6k (hl mk (by simp))
  have q7 := IsInts.le g7k (hl mk (by simp))
  have q8 := IsInts.le hl8 (hl _ (by simp))
  have q9 := IsInts.le hl9 (hl _ (by simp))
  clear hl8 hl9
  refine W.weaken [(1, lv1), (2, vi 0), (3, lv2), (4, vi 0), (5, lv3), (6, vi 0), (7, lv4), (8, vi 0), (9, lv5), (10, vi 0), (11, lv6), (12, vi 0), (13, lv7), (14, vi 0), (17, lv8), (18, vi 0), (19, lv9), (20, vi 0), (22, vi 7)] [ml] [] (by repeat (first | exact trivial | refine ⟨rfl, ?_⟩)) (by simp) (List.nil_sublist _) ?_; refine W.region ?_
  iterate 4 refine .o rfl ?_
  refine WL.abs (OpAbs.lit [_, _, _, _] rfl (Nat.le_of_ble_eq_true rfl) rfl rfl (by simp [Value.cells]) (Nat.le_of_ble_eq_true rfl) rfl (by first | (simp [Value.oneCell']; done) | exact List.all_eq_true.1 rfl)) rfl rfl rfl ?_
  rintro m99 _ ⟨hc99, a99, rfl⟩
  refine .val (.call rfl (fun m hm => same6_eq (q1.le (by repeat first | exact hm.1 | replace hm := hm.2)) ((ints_lit (xs := [0, 1, 3, 4]) hc99).le (by repeat first | exact hm.1 | replace hm := hm.2)))) rfl rfl rfl ?_
  iterate 9 refine .o rfl ?_
  refine .val (.call rfl (fun m hm => same6_eq (q2.le (by repeat first | exact hm.1 | replace hm := hm.2)) (q1.le (by repeat first | exact hm.1 | replace hm := hm.2)))) rfl rfl rfl ?_
  iterate 8 refine .o rfl ?_
  refine WL.abs (OpAbs.lit [_] rfl (Nat.le_of_ble_eq_true rfl) rfl rfl (by simp [Value.cells]) (Nat.le_of_ble_eq_true rfl) rfl (by first | (simp [Value.oneCell']; done) | exact List.all_eq_true.1 rfl)) rfl rfl rfl ?_
  rintro m119 _ ⟨hc119, a119, rfl⟩
  refine .val (.call rfl (fun m hm => same6_eq (q3.le (by repeat first | exact hm.1 | replace hm := hm.2)) ((ints_lit (xs := [3]) hc119).le (by repeat first | exact hm.1 | replace hm := hm.2)))) rfl rfl rfl ?_
  iterate 8 refine .o rfl ?_
  refine WL.abs (OpAbs.lit [_] rfl (Nat.le_of_ble_eq_true rfl) rfl rfl (by simp [Value.cells]) (Nat.le_of_ble_eq_true rfl) rfl (by first | (simp [Value.oneCell']; done) | exact List.all_eq_true.1 rfl)) rfl rfl rfl ?_
  rintro m129 _ ⟨hc129, a129, rfl⟩
  refine .val (.call rfl (fun m hm => same6_eq (q4.le (by repeat first | exact hm.1 | replace hm := hm.2)) ((ints_lit (xs := [0]) hc129).le (by repeat first | exact hm.1 | replace hm := hm.2)))) rfl rfl rfl ?_
  iterate 9 refine .o rfl ?_
  refine .val (.call rfl (fun m hm => same6_eq (q5.le (by repeat first | exact hm.1 | replace hm := hm.2)) (q3.le (by repeat first | exact hm.1 | replace hm := hm.2)))) rfl rfl rfl ?_
  iterate 9 refine .o rfl ?_
  refine .val (.call rfl (fun m hm => same6_eq (q6.le (by repeat first | exact hm.1 | replace hm := hm.2)) (q4.le (by repeat first | exact hm.1 | replace hm := hm.2)))) rfl rfl rfl ?_
  iterate 8 refine .o rfl ?_
  refine WL.abs (OpAbs.lit [_, _, _, _, _] rfl (Nat.le_of_ble_eq_true rfl) rfl rfl (by simp [Value.cells]) (Nat.le_of_ble_eq_true rfl) rfl (by first | (simp [Value.oneCell']; done) | exact List.all_eq_true.1 rfl)) rfl rfl rfl ?_
  rintro m159 _ ⟨hc159, a159, rfl⟩
  refine .val (.call rfl (fun m hm => same6_eq (q7.le (by repeat first | exact hm.1 | replace hm := hm.2)) ((ints_lit (xs := [2, 2, 2, 1, 1]) hc159).le (by repeat first | exact hm.1 | replace hm := hm.2)))) rfl rfl rfl ?_
  iterate 8 refine .o rfl ?_
  refine .val (.cast (.len rfl q8) (show _ = vi 0 from rfl)) rfl rfl rfl ?_
  iterate 8 refine .o rfl ?_
  refine WL.abs (OpAbs.lit [_] rfl (Nat.le_of_ble_eq_true rfl) rfl rfl (by simp [Value.cells]) (Nat.le_of_ble_eq_true rfl) rfl (by first | (simp [Value.oneCell']; done) | exact List.all_eq_true.1 rfl)) rfl rfl rfl ?_
  rintro m178 _ ⟨hc178, a178, rfl⟩
  refine .val (.call rfl (fun m hm => same6_eq (q9.le (by repeat first | exact hm.1 | replace hm := hm.2)) ((ints_lit (xs := [0]) hc178).le (by repeat first | exact hm.1 | replace hm := hm.2)))) rfl rfl rfl ?_
  iterate 6 refine .o rfl ?_
  refine WL.nil ?_; refine Kseq.go ?_; refine W.condF rfl rfl ?_
  refine W.skip (Kseq.go (W.seq (W.seq ?_)))
  refine W.weaken [] [ml] [] trivial (by simp) (List.nil_sublist _) ?_; refine W.region ?_; refine WL.abs (OpAbs.call rfl (fun m hm => tub6_any (n := 1) (by omega))) rfl rfl rfl ?_
  rintro m186 v186 h186
  refine WL.abs (OpAbs.call rfl (fun m hm => passed6_any 1 0)) rfl rfl rfl ?_
  rintro m187 v187 h187
  refine .val (.call rfl (fun m hm => truthN_any (h186.le (by repeat first | exact hm.1 | replace hm := hm.2)) (tubH_sm 1 (by omega)) (h187.le (by repeat first | exact hm.1 | replace hm := hm.2)) nf_true1)) rfl rfl rfl ?_
  iterate 2 refine .o rfl ?_
  refine WL.abs (OpAbs.call rfl (fun m hm => tub6_any (n := 1) (by omega))) rfl rfl rfl ?_
  rintro m191 v191 h191
  refine WL.abs (OpAbs.call rfl (fun m hm => passed6_any 0 0)) rfl rfl rfl ?_
  rintro m192 v192 h192
  refine .val (.call rfl (fun m hm => truthN_any (h191.le (by repeat first | exact hm.1 | replace hm := hm.2)) (tubH_sm 1 (by omega)) (h192.le (by repeat first | exact hm.1 | replace hm := hm.2)) nf_true2)) rfl rfl rfl ?_
  iterate 2 refine .o rfl ?_
  refine WL.abs (OpAbs.call rfl (fun m hm => tub6_any (n := 0) (by omega))) rfl rfl rfl ?_
  rintro m196 v196 h196
  refine WL.abs (OpAbs.call rfl (fun m hm => passed6_any 0 2)) rfl rfl rfl ?_
  rintro m197 v197 h197
  refine .val (.call rfl (fun m hm => truthN_any (h196.le (by repeat first | exact hm.1 | replace hm := hm.2)) (tubH_sm 0 (by omega)) (h197.le (by repeat first | exact hm.1 | replace hm := hm.2)) nf_true3)) rfl rfl rfl ?_
  iterate 2 refine .o rfl ?_
  refine WL.abs (OpAbs.call rfl (fun m hm => tub6_any (n := 0) (by omega))) rfl rfl rfl ?_
  rintro m201 v201 h201
  refine WL.abs (OpAbs.lit [_, _, _] rfl (Nat.le_of_ble_eq_true rfl) rfl rfl (by simp [Value.cells]) (Nat.le_of_ble_eq_true rfl) rfl (by first | (simp [Value.oneCell']; done) | exact List.all_eq_true.1 rfl)) rfl rfl rfl ?_
  rintro m202 _ ⟨hc202, a202, rfl⟩
  refine .val (.call rfl (fun m hm => pBoilN_any (h201.le (by repeat first | exact hm.1 | replace hm := hm.2)) (tubH_sm 0 (by omega)) ((ints_lit (xs := [0, 3, 4]) hc202).le (by repeat first | exact hm.1 | replace hm := hm.2)) (by simp) nf_pb1)) rfl rfl rfl ?_
  iterate 3 refine .o rfl ?_
  refine WL.abs (OpAbs.call rfl (fun m hm => tub6_any (n := 0) (by omega))) rfl rfl rfl ?_
  rintro m207 v207 h207
  refine WL.abs (OpAbs.lit [_, _, _] rfl (Nat.le_of_ble_eq_true rfl) rfl rfl (by simp [Value.cells]) (Nat.le_of_ble_eq_true rfl) rfl (by first | (simp [Value.oneCell']; done) | exact List.all_eq_true.1 rfl)) rfl rfl rfl ?_
  rintro m208 _ ⟨hc208, a208, rfl⟩
  refine .val (.call rfl (fun m hm => pBoilN_any (h207.le (by repeat first | exact hm.1 | replace hm := hm.2)) (tubH_sm 0 (by omega)) ((ints_lit (xs := [0, 3, 4]) hc208).le (by repeat first | exact hm.1 | replace hm := hm.2)) (by simp) nf_pb2)) rfl rfl rfl ?_
  iterate 2 refine .o rfl ?_
  refine WL.abs (OpAbs.call rfl (fun m hm => tub6_any (n := 0) (by omega))) rfl rfl rfl ?_
  rintro m212 v212 h212
  refine WL.abs (OpAbs.lit [_, _] rfl (Nat.le_of_ble_eq_true rfl) rfl rfl (by simp [Value.cells]) (Nat.le_of_ble_eq_true rfl) rfl (by first | (simp [Value.oneCell']; done) | exact List.all_eq_true.1 rfl)) rfl rfl rfl ?_
  rintro m213 _ ⟨hc213, a213, rfl⟩
  refine .val (.call rfl (fun m hm => pBoilN_any (h212.le (by repeat first | exact hm.1 | replace hm := hm.2)) (tubH_sm 0 (by omega)) ((ints_lit (xs := [3, 4]) hc213).le (by repeat first | exact hm.1 | replace hm := hm.2)) (by simp) nf_pb3)) rfl rfl rfl ?_
  iterate 2 refine .o rfl ?_
  refine WL.abs (OpAbs.call rfl (fun m hm => tub6_any (n := 0) (by omega))) rfl rfl rfl ?_
  rintro m217 v217 h217
  refine WL.abs (OpAbs.lit [_, _, _] rfl (Nat.le_of_ble_eq_true rfl) rfl rfl (by simp [Value.cells]) (Nat.le_of_ble_eq_true rfl) rfl (by first | (simp [Value.oneCell']; done) | exact List.all_eq_true.1 rfl)) rfl rfl rfl ?_
  rintro m218 _ ⟨hc218, a218, rfl⟩
  refine .val (.call rfl (fun m hm => pBoilN_any (h217.le (by repeat first | exact hm.1 | replace hm := hm.2)) (tubH_sm 0 (by omega)) ((ints_lit (xs := [4, 3, 0]) hc218).le (by repeat first | exact hm.1 | replace hm := hm.2)) (by simp) nf_pb4)) rfl rfl rfl ?_
  iterate 2 refine .o rfl ?_
  refine WL.abs (OpAbs.call rfl (fun m hm => tub6_any (n := 0) (by omega))) rfl rfl rfl ?_
  rintro m222 v222 h222
  refine WL.abs (OpAbs.lit [_, _, _, _, _] rfl (Nat.le_of_ble_eq_true rfl) rfl rfl (by simp [Value.cells]) (Nat.le_of_ble_eq_true rfl) rfl (by first | (simp [Value.oneCell']; done) | exact List.all_eq_true.1 rfl)) rfl rfl rfl ?_
  rintro m223 _ ⟨hc223, a223, rfl⟩
  refine .val (.call rfl (fun m hm => pBoilN_any (h222.le (by repeat first | exact hm.1 | replace hm := hm.2)) (tubH_sm 0 (by omega)) ((ints_lit (xs := [0, 1, 2, 3, 4]) hc223).le (by repeat first | exact hm.1 | replace hm := hm.2)) (by simp) nf_pb5)) rfl rfl rfl ?_
  iterate 2 refine .o rfl ?_
  refine WL.abs (OpAbs.call rfl (fun m hm => tub6_any (n := 0) (by omega))) rfl rfl rfl ?_
  rintro m227 v227 h227
  refine WL.abs (OpAbs.lit [_, _] rfl (Nat.le_of_ble_eq_true rfl) rfl rfl (by simp [Value.cells]) (Nat.le_of_ble_eq_true rfl) rfl (by first | (simp [Value.oneCell']; done) | exact List.all_eq_true.1 rfl)) rfl rfl rfl ?_
  rintro m228 _ ⟨hc228, a228, rfl⟩
  refine .val (.call rfl (fun m hm => pOrdN_any (h227.le (by repeat first | exact hm.1 | replace hm := hm.2)) (tubH_sm 0 (by omega)) ((ints_lit (xs := [0, 0]) hc228).le (by repeat first | exact hm.1 | replace hm := hm.2)) (by simp) nf_po1)) rfl rfl rfl ?_
  iterate 3 refine .o rfl ?_
  refine WL.abs (OpAbs.call rfl (fun m hm => tub6_any (n := 0) (by omega))) rfl rfl rfl ?_
  rintro m233 v233 h233
  refine WL.abs (OpAbs.lit [_, _] rfl (Nat.le_of_ble_eq_true rfl) rfl rfl (by simp [Value.cells]) (Nat.le_of_ble_eq_true rfl) rfl (by first | (simp [Value.oneCell']; done) | exact List.all_eq_true.1 rfl)) rfl rfl rfl ?_
  rintro m234 _ ⟨hc234, a234, rfl⟩
  refine .val (.call rfl (fun m hm => pOrdN_any (h233.le (by repeat first | exact hm.1 | replace hm := hm.2)) (tubH_sm 0 (by omega)) ((ints_lit (xs := [0, 0]) hc234).le (by repeat first | exact hm.1 | replace hm := hm.2)) (by simp) nf_po2)) rfl rfl rfl ?_
  iterate 2 refine .o rfl ?_
  refine WL.abs (OpAbs.call rfl (fun m hm => tub6_any (n := 0) (by omega))) rfl rfl rfl ?_
  rintro m238 v238 h238
  refine WL.abs (OpAbs.lit [_, _, _] rfl (Nat.le_of_ble_eq_true rfl) rfl rfl (by simp [Value.cells]) (Nat.le_of_ble_eq_true rfl) rfl (by first | (simp [Value.oneCell']; done) | exact List.all_eq_true.1 rfl)) rfl rfl rfl ?_
  rintro m239 _ ⟨hc239, a239, rfl⟩
  refine .val (.call rfl (fun m hm => pOrdN_any (h238.le (by repeat first | exact hm.1 | replace hm := hm.2)) (tubH_sm 0 (by omega)) ((ints_lit (xs := [0, 0, 0]) hc239).le (by repeat first | exact hm.1 | replace hm := hm.2)) (by simp) nf_po3)) rfl rfl rfl ?_
  iterate 2 refine .o rfl ?_
  refine WL.abs (OpAbs.call rfl (fun m hm => tub6_any (n := 0) (by omega))) rfl rfl rfl ?_
  rintro m243 v243 h243
  refine WL.abs (OpAbs.lit [_, _] rfl (Nat.le_of_ble_eq_true rfl) rfl rfl (by simp [Value.cells]) (Nat.le_of_ble_eq_true rfl) rfl (by first | (simp [Value.oneCell']; done) | exact List.all_eq_true.1 rfl)) rfl rfl rfl ?_
  rintro m244 _ ⟨hc244, a244, rfl⟩
  refine .val (.call rfl (fun m hm => pOrdN_any (h243.le (by repeat first | exact hm.1 | replace hm := hm.2)) (tubH_sm 0 (by omega)) ((ints_lit (xs := [3, 4]) hc244).le (by repeat first | exact hm.1 | replace hm := hm.2)) (by simp) nf_po4)) rfl rfl rfl ?_
  iterate 2 refine .o rfl ?_
  refine WL.abs (OpAbs.call rfl (fun m hm => tub6_any (n := 2) (by omega))) rfl rfl rfl ?_
  rintro m248 v248 h248
  refine WL.abs (OpAbs.lit [_] rfl (Nat.le_of_ble_eq_true rfl) rfl rfl (by simp [Value.cells]) (Nat.le_of_ble_eq_true rfl) rfl (by first | (simp [Value.oneCell']; done) | exact List.all_eq_true.1 rfl)) rfl rfl rfl ?_
  rintro m249 _ ⟨hc249, a249, rfl⟩
  refine .val (.call rfl (fun m hm => pOrdN_any (h248.le (by repeat first | exact hm.1 | replace hm := hm.2)) (tubH_sm 2 (by omega)) ((ints_lit (xs := [3]) hc249).le (by repeat first | exact hm.1 | replace hm := hm.2)) (by simp) nf_po5)) rfl rfl rfl ?_; refine .o rfl ?_; refine WL.nil ?_; refine Kseq.go ?_; refine W.condF rfl rfl ?_
  refine W.skip (Kseq.go (W.seq ?_))
  refine W.weaken [] [ml] [] trivial (by simp) (List.nil_sublist _) ?_; refine W.region ?_; refine WL.abs (OpAbs.call rfl (fun m hm => tub6_any (n := 0) (by omega))) rfl rfl rfl ?_
  rintro m253 v253 h253
  refine WL.abs (OpAbs.call rfl (fun m hm => passed6_any 0 2)) rfl rfl rfl ?_
  rintro m254 v254 h254
  (refine WL.abs (OpAbs.call rfl (fun m hm => playN_any (h253.le (by repeat first | exact hm.1 | replace hm := hm.2)) (tubH_sm 0 (by omega)) (h254.le (by repeat first | exact hm.1 | replace hm := hm.2)) nf_play3 rfl)) rfl rfl rfl ?_; rintro m255 _ ⟨lx255, rfl, _⟩)
  iterate 4 refine .o rfl ?_
  refine WL.nil ?_
  refine Kseq.go (W.seq ?_)
  refine W.region ?_; refine WL.abs (OpAbs.call rfl (fun m hm => tub6_any (n := 2) (by omega))) rfl rfl rfl ?_
  rintro m259 v259 h259
  (refine WL.abs (OpAbs.call rfl (fun m hm => boilE_any (h259.le (by repeat first | exact hm.1 | replace hm := hm.2)) (tubH_sm 2 (by omega)) nf_e1)) rfl rfl rfl ?_; rintro m260 _ ⟨lx260, rfl⟩)
  iterate 4 refine .o rfl ?_
  refine WL.nil ?_
  refine Kseq.go (W.seq ?_)
  refine W.region ?_; refine WL.abs (OpAbs.call rfl (fun m hm => tub6_any (n := 2) (by omega))) rfl rfl rfl ?_
  rintro m264 v264 h264
  (refine WL.abs (OpAbs.call rfl (fun m hm => boilE_any (h264.le (by repeat first | exact hm.1 | replace hm := hm.2)) (tubH_sm 2 (by omega)) nf_e2)) rfl rfl rfl ?_; rintro m265 _ ⟨lx265, rfl⟩)
  iterate 4 refine .o rfl ?_
  refine WL.nil ?_
  refine Kseq.go (W.seq ?_)
  refine W.region ?_; refine WL.abs (OpAbs.call rfl (fun m hm => tub6_any (n := 2) (by omega))) rfl rfl rfl ?_
  rintro m269 v269 h269
  (refine WL.abs (OpAbs.call rfl (fun m hm => orderE_any (h269.le (by repeat first | exact hm.1 | replace hm := hm.2)) (tubH_sm 2 (by omega)) nf_e3)) rfl rfl rfl ?_; rintro m270 _ ⟨lx270, rfl⟩)
  iterate 4 refine .o rfl ?_
  refine WL.nil ?_
  refine Kseq.go (W.seq ?_)
  refine W.region ?_; refine WL.abs (OpAbs.call rfl (fun m hm => tub6_any (n := 2) (by omega))) rfl rfl rfl ?_
  rintro m274 v274 h274
  (refine WL.abs (OpAbs.call rfl (fun m hm => carryN_any (h274.le (by repeat first | exact hm.1 | replace hm := hm.2)) (tubH_sm 2 (by omega)) nf_e4 rfl)) rfl rfl rfl ?_; rintro m275 _ ⟨lx275, rfl, _⟩)
  iterate 4 refine .o rfl ?_
  refine WL.nil ?_
  refine Kseq.go (W.seq ?_)
  refine W.region ?_; refine WL.abs (OpAbs.call rfl (fun m hm => tub6_any (n := 2) (by omega))) rfl rfl rfl ?_
  rintro m279 v279 h279
  (refine WL.abs (OpAbs.call rfl (fun m hm => whoseN_any (h279.le (by repeat first | exact hm.1 | replace hm := hm.2)) (tubH_sm 2 (by omega)) nf_e4 rfl)) rfl rfl rfl ?_; rintro m280 _ ⟨lx280, rfl, _⟩)
  iterate 4 refine .o rfl ?_
  refine WL.nil ?_
  refine Kseq.go (W.seq ?_)
  refine W.weaken [(2, vi 2), (4, vi 2), (6, vi 11), (8, vi 2), (10, vi 11), (12, vi 11)] [ml] [] (by repeat (first | exact trivial | refine ⟨rfl, ?_⟩)) (by simp) (List.nil_sublist _) ?_; refine W.region ?_
  (refine WL.callM rfl rfl (M0 := []) (by simp) (Split.none _) rfl tubT_any rfl rfl rfl ?_; rintro v283 M1 a1 ⟨m3, y3, w3, p3, k3, s3, f3, rfl, rfl, rfl, hP3, hW3, hS3⟩)
  refine WL.alloc rfl rfl rfl (fun b23 => ?_)
  (refine WL.store [_, _, _, _, _, _, _, _, _] rfl (.head _) rfl rfl rfl (Nat.le_of_ble_eq_true rfl) (by simp [Value.cells, Value.oneCell']; exact ⟨IsArr.one hW3, IsArr.one hP3.P, IsArr.one hP3.K, IsArr.one hS3⟩) rfl ?_)
  refine WL.nil ?_
  refine Kseq.go (W.seq ?_)
  refine W.freezeRow (.tail _ (.head _)) (fun b hb => (hF b hb).elim) (by simp [Value.oneCell']) fun mt ht => ?_
  have htc : IsCells mt 4 (.slice (some ⟨y3, 0, none⟩) 3 3) 3 [vi 3, vi 4, vi 0, vi 1, vi 4, vi 0, vi 0, vi 1, vi 0, vi 1, vi 2, vi 2] := ⟨rfl, ht⟩
  clear ht
  refine W.draw 7 (by kernel_rfl) (by kernel_rfl) (by kernel_rfl) rfl ?_; refine .val [] (.fieldAddrB rfl) rfl rfl rfl rfl ?_; refine .val [] (.loadB rfl (.head _) rfl) rfl rfl rfl rfl ?_; refine .val [] (.call rfl (fun m hm => between6_any _ _)) rfl rfl rfl rfl ?_; refine .val [] (.build #[vi 3, vi 2, vi 2, vi 2] rfl (by kernel_rfl)) rfl rfl rfl rfl ?_; refine .val [] (.call rfl (fun m hm => between6_any _ _)) rfl rfl rfl rfl ?_; refine .val [] (.build #[vi 3, vi 1, vi 2, vi 2] rfl (by kernel_rfl)) rfl rfl rfl rfl ?_; refine DJ.abs (A := fun m q => IsCells m 4 q 2 [vi 3, vi 2, vi 2, vi 2, vi 3, vi 1, vi 2, vi 2]) [] (OpAbs.mono (OpAbs.lit [vi 3, vi 2, vi 2, vi 2, vi 3, vi 1, vi 2, vi 2] rfl (Nat.le_of_ble_eq_true rfl) rfl rfl (by simp [Value.cells]) (Nat.le_of_ble_eq_true rfl) rfl (by simp [Value.oneCell'])) (fun m' v' h' => h'.1)) rfl rfl rfl rfl ?_; refine DJ.nil ?_
  rintro m290 v290 h290
  refine WL.abs (OpAbs.appendP rfl htc (by repeat constructor) rfl h290 (by repeat constructor) rfl (by omega) (by omega) (by unfold maxLen; omega) (by omega)) rfl rfl rfl ?_
  rintro m291 v291 h291
  obtain ⟨aL, cL, rfl⟩ := IsArr.form h291.2
  refine .val (.fieldAddrB rfl) rfl rfl rfl ?_
  (refine WL.store [_, _, _, _, _, _, _, _, _] rfl (.head _) rfl rfl rfl (Nat.le_of_ble_eq_true rfl) (by simp [Value.cells, Value.oneCell']) rfl ?_)
  refine WL.nil ?_
  refine Kseq.go (W.seq ?_)
  refine W.freezeBox (.head _) (fun b hb => (hF b hb).elim) fun m23 h23 => ?_
  refine W.join fun mn hn => ?_
  have h23n := h23.le (hn m23 (by simp))
  have hTL : IsTouches mn (.slice aL (3 + 2) cL) nLate.touches := by
    refine IsTouches.le (m := m291) ?_ (hn _ (by simp))
    refine (h291.2).congr fun i j hi hj' => ?_
    have h0 : i < 5 := hi
    have h1 : i = 0 ∨ i = 1 ∨ i = 2 ∨ i = 3 ∨ i = 4 := by omega
    have h2 : j = 0 ∨ j = 1 ∨ j = 2 ∨ j = 3 := by omega
    rcases h1 with rfl | rfl | rfl | rfl | rfl <;> rcases h2 with rfl | rfl | rfl | rfl <;> rfl
  have hX3 : IsHouse mn (.agg #[w3, p3, vi 0, k3, vi 1, vi 2, .slice aL (3 + 2) cL, .slice none 0 0, s3]) nLate := ⟨w3, p3, k3, _, _, s3, f3, rfl, ⟨hW3.le (hn m3 (by simp)), hP3.P.le (hn m3 (by simp)), hP3.M.le (hn m3 (by simp)), hP3.K.le (hn m3 (by simp)), hTL, IsBoils.nil _, hS3.le (hn m3 (by simp))⟩⟩
  have sm3 : SmH nLate := n_sm rfl (by simp [nLate, tubH]) (by simp [nLate, tubH]) (by simp [nLate, tubH]) (by simp [nLate, tubH])
  clear h23 hTL hW3 hP3 hS3
  refine W.weaken [(2, vi 2), (4, vi 2), (6, vi 11), (8, vi 2), (10, vi 11), (12, vi 11), (23, .pointer (some ⟨b23, 0, none⟩))] [mn] [] (by repeat (first | exact trivial | refine ⟨rfl, ?_⟩)) (by simp) (List.nil_sublist _) ?_; refine W.region ?_; refine .val (.loadPW rfl h23n (by repeat constructor) rfl) rfl rfl rfl ?_
  (refine WL.abs (OpAbs.call rfl (fun m hm => orderE_any (hX3.le (by repeat first | exact hm.1 | replace hm := hm.2)) sm3 nf_late)) rfl rfl rfl ?_; rintro m295 _ ⟨lx295, rfl⟩)
  iterate 4 refine .o rfl ?_
  refine WL.nil ?_
  refine Kseq.go (W.seq ?_)
  refine W.weaken [(2, vi 2), (4, vi 2), (6, vi 11), (8, vi 2), (10, vi 11), (12, vi 11), (14, vi 10)] [mn] [] (by repeat (first | exact trivial | refine ⟨rfl, ?_⟩)) (by simp) (List.nil_sublist _) ?_; refine W.region ?_; refine WL.abs (OpAbs.call rfl (fun m hm => tub6_any (n := 0) (by omega))) rfl rfl rfl ?_
  rintro m298 v298 h298
  refine WL.abs (OpAbs.call rfl (fun m hm => tub6_any (n := 0) (by omega))) rfl rfl rfl ?_
  rintro m299 v299 h299
  (refine WL.callM rfl rfl (M0 := []) (by simp) (Split.none _) rfl tubW_any rfl rfl rfl ?_; rintro v300 M1 a1 ⟨mW, yW, pW, kW, tW, sW, fW, rfl, rfl, rfl, hPW, hTW, hSW⟩)
  refine WL.abs (OpAbs.call rfl (fun m hm => tub6_any (n := 0) (by omega))) rfl rfl rfl ?_
  rintro m301 v301 h301
  (refine WL.callM rfl rfl (M0 := []) (by simp) (Split.none _) rfl tubT_any rfl rfl rfl ?_; rintro v302 M1 a1 ⟨m5, y5, w5, p5, k5, s5, f5, rfl, rfl, rfl, hP5, hW5, hS5⟩)
  (refine WL.callM rfl rfl (M0 := []) (by simp) (Split.none _) rfl tubT_any rfl rfl rfl ?_; rintro v303 M1 a1 ⟨m6, y6, w6, p6, k6, s6, f6, rfl, rfl, rfl, hP6, hW6, hS6⟩)
  refine WL.abs (OpAbs.call rfl (fun m hm => tub6_any (n := 0) (by omega))) rfl rfl rfl ?_
  rintro m304 v304 h304
  (refine WL.callM rfl rfl (M0 := []) (by simp) (Split.none _) rfl tubS_any rfl rfl rfl ?_; rintro v305 M1 a1 ⟨mS, yS, wS, pS, kS, tS, fS, rfl, rfl, rfl, hPS, hWS, hTS⟩)
  refine WL.abs (OpAbs.call rfl (fun m hm => tub6_any (n := 0) (by omega))) rfl rfl rfl ?_
  rintro m306 v306 h306
  have hVa := h298
  obtain ⟨wa, pa, ka, ta, ba, sa, fa, rfl, hAa⟩ := h298
  have hVb := h299
  obtain ⟨wb, pb, kb, tb, bb, sb, fb, rfl, hAb⟩ := h299
  have hVd := h301
  obtain ⟨wd, pd, kd, td, bd, sd, fd, rfl, hAd⟩ := h301
  have hVg := h304
  obtain ⟨wg, pg, kg, tg, bg, sg, fg, rfl, hAg⟩ := h304
  have hVi := h306
  obtain ⟨wi, pi, ki, ti, bi, si, fi, rfl, hAi⟩ := h306
  refine WL.alloc rfl rfl rfl (fun b24 => ?_)
  refine WL.alloc rfl rfl rfl (fun b25 => ?_)
  refine WL.alloc rfl rfl rfl (fun b26 => ?_)
  refine WL.alloc rfl rfl rfl (fun b27 => ?_)
  refine WL.alloc rfl rfl rfl (fun b28 => ?_)
  refine WL.alloc rfl rfl rfl (fun b29 => ?_)
  refine WL.alloc rfl rfl rfl (fun b30 => ?_)
  refine WL.alloc rfl rfl rfl (fun b31 => ?_)
  refine WL.alloc rfl rfl rfl (fun b32 => ?_)
  (refine WL.store [wa, pa, vi (tubH 0).table.wrong, ka, vi (tubH 0).others, vi (tubH 0).last, ta, ba, sa] rfl (.tail _ (.tail _ (.tail _ (.tail _ (.tail _ (.tail _ (.tail _ (.tail _ (.head _))))))))) rfl rfl rfl (Nat.le_of_ble_eq_true rfl) (by simp [Value.cells]; exact ⟨IsArr.one hAa.W, IsArr.one hAa.P, rfl, IsArr.one hAa.K, rfl, rfl, IsArr.one hAa.T, IsArr.one hAa.B, IsArr.one hAa.S⟩) rfl ?_)
  (refine WL.store [wb, pb, vi (tubH 0).table.wrong, kb, vi (tubH 0).others, vi (tubH 0).last, tb, bb, sb] rfl (.tail _ (.tail _ (.tail _ (.tail _ (.tail _ (.tail _ (.tail _ (.head _)))))))) rfl rfl rfl (Nat.le_of_ble_eq_true rfl) (by simp [Value.cells]; exact ⟨IsArr.one hAb.W, IsArr.one hAb.P, rfl, IsArr.one hAb.K, rfl, rfl, IsArr.one hAb.T, IsArr.one hAb.B, IsArr.one hAb.S⟩) rfl ?_)
  (refine WL.store [_, _, _, _, _, _, _, _, _] rfl (.tail _ (.tail _ (.tail _ (.tail _ (.tail _ (.tail _ (.head _))))))) rfl rfl rfl (Nat.le_of_ble_eq_true rfl) (by simp [Value.cells, Value.oneCell']; exact ⟨IsArr.one hPW.P, IsArr.one hPW.K, IsArr.one hTW, IsArr.one hSW⟩) rfl ?_)
  (refine WL.store [wd, pd, vi (tubH 0).table.wrong, kd, vi (tubH 0).others, vi (tubH 0).last, td, bd, sd] rfl (.tail _ (.tail _ (.tail _ (.tail _ (.tail _ (.head _)))))) rfl rfl rfl (Nat.le_of_ble_eq_true rfl) (by simp [Value.cells]; exact ⟨IsArr.one hAd.W, IsArr.one hAd.P, rfl, IsArr.one hAd.K, rfl, rfl, IsArr.one hAd.T, IsArr.one hAd.B, IsArr.one hAd.S⟩) rfl ?_)
  (refine WL.store [_, _, _, _, _, _, _, _, _] rfl (.tail _ (.tail _ (.tail _ (.tail _ (.head _))))) rfl rfl rfl (Nat.le_of_ble_eq_true rfl) (by simp [Value.cells, Value.oneCell']; exact ⟨IsArr.one hW5, IsArr.one hP5.P, IsArr.one hP5.K, IsArr.one hS5⟩) rfl ?_)
  (refine WL.store [_, _, _, _, _, _, _, _, _] rfl (.tail _ (.tail _ (.tail _ (.head _)))) rfl rfl rfl (Nat.le_of_ble_eq_true rfl) (by simp [Value.cells, Value.oneCell']; exact ⟨IsArr.one hW6, IsArr.one hP6.P, IsArr.one hP6.K, IsArr.one hS6⟩) rfl ?_)
  (refine WL.store [wg, pg, vi (tubH 0).table.wrong, kg, vi (tubH 0).others, vi (tubH 0).last, tg, bg, sg] rfl (.tail _ (.tail _ (.head _))) rfl rfl rfl (Nat.le_of_ble_eq_true rfl) (by simp [Value.cells]; exact ⟨IsArr.one hAg.W, IsArr.one hAg.P, rfl, IsArr.one hAg.K, rfl, rfl, IsArr.one hAg.T, IsArr.one hAg.B, IsArr.one hAg.S⟩) rfl ?_)
  (refine WL.store [_, _, _, _, _, _, _, _, _] rfl (.tail _ (.head _)) rfl rfl rfl (Nat.le_of_ble_eq_true rfl) (by simp [Value.cells, Value.oneCell']; exact ⟨IsArr.one hWS, IsArr.one hPS.P, IsArr.one hPS.K, IsArr.one hTS⟩) rfl ?_)
  (refine WL.store [wi, pi, vi (tubH 0).table.wrong, ki, vi (tubH 0).others, vi (tubH 0).last, ti, bi, si] rfl (.head _) rfl rfl rfl (Nat.le_of_ble_eq_true rfl) (by simp [Value.cells]; exact ⟨IsArr.one hAi.W, IsArr.one hAi.P, rfl, IsArr.one hAi.K, rfl, rfl, IsArr.one hAi.T, IsArr.one hAi.B, IsArr.one hAi.S⟩) rfl ?_)
  refine WL.nil ?_
  refine Kseq.go (W.seq ?_)
  refine W.region ?_; refine .val (.fieldAddrB rfl) rfl rfl rfl ?_
  (refine WL.store [_, _, _, _, _, _, _, _, _] rfl (.tail _ (.tail _ (.tail _ (.tail _ (.tail _ (.tail _ (.tail _ (.tail _ (.head _))))))))) rfl rfl rfl (Nat.le_of_ble_eq_true rfl) (by simp [Value.cells, Value.oneCell']) rfl ?_)
  refine WL.nil ?_
  refine Kseq.go (W.seq ?_)
  refine W.region ?_; refine .val (.fieldAddrB rfl) rfl rfl rfl ?_
  (refine WL.store [_, _, _, _, _, _, _, _, _] rfl (.tail _ (.tail _ (.tail _ (.tail _ (.tail _ (.tail _ (.tail _ (.head _)))))))) rfl rfl rfl (Nat.le_of_ble_eq_true rfl) (by simp [Value.cells, Value.oneCell']) rfl ?_)
  refine WL.nil ?_
  refine Kseq.go (W.seq ?_)
  refine W.region ?_; refine .val (.fieldAddrB rfl) rfl rfl rfl ?_; refine .val (.fieldAddrB rfl) rfl rfl rfl ?_; refine .val (.loadB rfl (.tail _ (.tail _ (.tail _ (.tail _ (.tail _ (.tail _ (.head _))))))) rfl) rfl rfl rfl ?_; refine .val (.build2 rfl rfl) rfl rfl rfl ?_; refine .val (.indexAddrR rfl rfl (.tail _ (.tail _ (.tail _ (.tail _ (.tail _ (.tail _ (.tail _ (.tail _ (.tail _ (.head _)))))))))) (by decide)) rfl rfl rfl ?_; refine .val (.fieldAddrR rfl (.tail _ (.tail _ (.tail _ (.tail _ (.tail _ (.tail _ (.tail _ (.tail _ (.tail _ (.head _)))))))))) (by decide)) rfl rfl rfl ?_
  (refine WL.storeR (T := 55) (k := 3) rfl (.tail _ (.tail _ (.tail _ (.tail _ (.tail _ (.tail _ (.tail _ (.tail _ (.tail _ (.head _)))))))))) rfl rfl rfl (by decide) (Nat.le_of_ble_eq_true rfl) (by simp [Value.cells, Value.oneCell']) ?_)
  refine WL.nil ?_
  refine Kseq.go (W.seq ?_)
  refine W.region ?_
  refine WL.abs (OpAbs.lit [_] rfl (Nat.le_of_ble_eq_true rfl) rfl rfl (by simp [Value.cells]) (Nat.le_of_ble_eq_true rfl) rfl (by first | (simp [Value.oneCell']; done) | exact List.all_eq_true.1 rfl)) rfl rfl rfl ?_
  rintro m315 _ ⟨hc315, a315, rfl⟩
  refine .val (.fieldAddrB rfl) rfl rfl rfl ?_
  (refine WL.store [_, _, _, _, _, _, _, _, _] rfl (.tail _ (.tail _ (.tail _ (.tail _ (.tail _ (.head _)))))) rfl rfl rfl (Nat.le_of_ble_eq_true rfl) (by simp [Value.cells, Value.oneCell']) rfl ?_)
  refine WL.nil ?_
  refine Kseq.go (W.seq ?_)
  refine W.draw 3 (by kernel_rfl) (by kernel_rfl) (by kernel_rfl) rfl ?_; refine .val [] (.fieldAddrB rfl) rfl rfl rfl rfl ?_; refine .val [] (.loadB rfl (.tail _ (.tail _ (.tail _ (.tail _ (.head _))))) rfl) rfl rfl rfl rfl ?_; refine .val [] (.call rfl (fun m hm => between6_any _ _)) rfl rfl rfl rfl ?_; refine DJ.nil ?_; refine .val (.indexAddrR rfl rfl (.tail _ (.tail _ (.tail _ (.tail _ (.tail _ (.tail _ (.tail _ (.tail _ (.tail _ (.tail _ (.head _))))))))))) (by decide)) rfl rfl rfl ?_; refine .val (.fieldAddrR rfl (.tail _ (.tail _ (.tail _ (.tail _ (.tail _ (.tail _ (.tail _ (.tail _ (.tail _ (.tail _ (.head _))))))))))) (by decide)) rfl rfl rfl ?_
  (refine WL.storeR (T := 52) (k := 4) rfl (.tail _ (.tail _ (.tail _ (.tail _ (.tail _ (.tail _ (.tail _ (.tail _ (.tail _ (.tail _ (.head _))))))))))) rfl rfl rfl (by decide) (Nat.le_of_ble_eq_true rfl) (by simp [Value.cells, Value.oneCell']) ?_)
  refine WL.nil ?_
  refine Kseq.go (W.seq ?_)
  refine W.region ?_; refine .val (.fieldAddrB rfl) rfl rfl rfl ?_; refine .val (.loadB rfl (.tail _ (.tail _ (.tail _ (.head _)))) rfl) rfl rfl rfl ?_; refine .val (.indexAddrR rfl rfl (.tail _ (.tail _ (.tail _ (.tail _ (.tail _ (.tail _ (.tail _ (.tail _ (.tail _ (.tail _ (.tail _ (.head _)))))))))))) (by decide)) rfl rfl rfl ?_; refine .val (.fieldAddrR rfl (.tail _ (.tail _ (.tail _ (.tail _ (.tail _ (.tail _ (.tail _ (.tail _ (.tail _ (.tail _ (.tail _ (.head _)))))))))))) (by decide)) rfl rfl rfl ?_
  (refine WL.storeR (T := 52) (k := 4) rfl (.tail _ (.tail _ (.tail _ (.tail _ (.tail _ (.tail _ (.tail _ (.tail _ (.tail _ (.tail _ (.tail _ (.head _)))))))))))) rfl rfl rfl (by decide) (Nat.le_of_ble_eq_true rfl) (by simp [Value.cells, Value.oneCell']) ?_)
  refine WL.nil ?_
  refine Kseq.go (W.seq ?_)
  refine W.region ?_; refine .val (.build2 rfl rfl) rfl rfl rfl ?_
  refine WL.abs (OpAbs.lit [_, _] rfl (Nat.le_of_ble_eq_true rfl) rfl rfl (by simp [Value.cells]) (Nat.le_of_ble_eq_true rfl) rfl (by first | (simp [Value.oneCell']; done) | exact List.all_eq_true.1 rfl)) rfl rfl rfl ?_
  rintro m327 _ ⟨hc327, a327, rfl⟩
  refine .val (.fieldAddrB rfl) rfl rfl rfl ?_
  (refine WL.store [_, _, _, _, _, _, _, _, _] rfl (.tail _ (.tail _ (.head _))) rfl rfl rfl (Nat.le_of_ble_eq_true rfl) (by simp [Value.cells, Value.oneCell']) rfl ?_)
  refine WL.nil ?_
  refine Kseq.go (W.seq ?_)
  refine W.region ?_; refine .val (.fieldAddrB rfl) rfl rfl rfl ?_; refine .val (.loadB rfl (.tail _ (.head _)) rfl) rfl rfl rfl ?_; refine .val (.indexAddrR rfl rfl (.tail _ (.tail _ (.tail _ (.tail _ (.tail _ (.tail _ (.tail _ (.tail _ (.tail _ (.tail _ (.tail _ (.tail _ (.head _))))))))))))) (by decide)) rfl rfl rfl ?_; refine .val (.fieldAddrR rfl (.tail _ (.tail _ (.tail _ (.tail _ (.tail _ (.tail _ (.tail _ (.tail _ (.tail _ (.tail _ (.tail _ (.tail _ (.head _))))))))))))) (by decide)) rfl rfl rfl ?_
  (refine WL.storeR (T := 57) (k := 2) rfl (.tail _ (.tail _ (.tail _ (.tail _ (.tail _ (.tail _ (.tail _ (.tail _ (.tail _ (.tail _ (.tail _ (.tail _ (.head _))))))))))))) rfl rfl rfl (by decide) (Nat.le_of_ble_eq_true rfl) (by simp [Value.cells, Value.oneCell']) ?_)
  refine WL.nil ?_
  refine Kseq.go (W.seq ?_)
  refine W.region ?_
  (refine WL.make rfl rfl (by decide) (by decide) rfl rfl rfl (fun b333 => ?_))
  refine .val (.fieldAddrB rfl) rfl rfl rfl ?_
  (refine WL.store [_, _, _, _, _, _, _, _, _] rfl (.tail _ (.head _)) rfl rfl rfl (Nat.le_of_ble_eq_true rfl) (by simp [Value.cells, Value.oneCell']) rfl ?_)
  refine WL.nil ?_
  refine Kseq.go (W.seq ?_)
  refine W.freezeRow (.head _) (fun b hb => (hF b hb).elim) (fun u hu => by have hu' := made28 ▸ hu; rw [List.eq_of_mem_replicate hu']; rfl) fun mM hM => ?_
  refine W.freezeBox (.head _) (fun b hb => (hF b hb).elim) fun n32 hb32 => ?_
  refine W.freezeBox (.head _) (fun b hb => (hF b hb).elim) fun n31 hb31 => ?_
  refine W.freezeBox (.head _) (fun b hb => (hF b hb).elim) fun n30 hb30 => ?_
  refine W.freezeBox (.head _) (fun b hb => (hF b hb).elim) fun n29 hb29 => ?_
  refine W.freezeBox (.head _) (fun b hb => (hF b hb).elim) fun n28 hb28 => ?_
  refine W.freezeBox (.head _) (fun b hb => (hF b hb).elim) fun n27 hb27 => ?_
  refine W.freezeBox (.head _) (fun b hb => (hF b hb).elim) fun n26 hb26 => ?_
  refine W.freezeBox (.head _) (fun b hb => (hF b hb).elim) fun n25 hb25 => ?_
  refine W.freezeBox (.head _) (fun b hb => (hF b hb).elim) fun n24 hb24 => ?_
  refine W.freezeRow (.head _) (fun b hb => (hF b hb).elim) (List.all_eq_true.1 rfl) fun rW hrW => ?_
  refine W.freezeRow (.head _) (fun b hb => (hF b hb).elim) (List.all_eq_true.1 rfl) fun r5 hr5 => ?_
  refine W.freezeRow (.head _) (fun b hb => (hF b hb).elim) (List.all_eq_true.1 rfl) fun r6 hr6 => ?_
  refine W.freezeRow (.head _) (fun b hb => (hF b hb).elim) (List.all_eq_true.1 rfl) fun rS hrS => ?_
  refine W.join fun mz hz => ?_
  have hz32 := hb32.le (hz n32 (by simp))
  have hz31 := hb31.le (hz n31 (by simp))
  have hz30 := hb30.le (hz n30 (by simp))
  have hz29 := hb29.le (hz n29 (by simp))
  have hz28 := hb28.le (hz n28 (by simp))
  have hz27 := hb27.le (hz n27 (by simp))
  have hz26 := hb26.le (hz n26 (by simp))
  have hz25 := hb25.le (hz n25 (by simp))
  have hz24 := hb24.le (hz n24 (by simp))
  have hWz : IsWomen mz (.slice (some ⟨yW, 0, none⟩) 3 3) nTable.table.women := by
    refine IsWomen.le (m := rW) ?_ (hz _ (by simp))
    refine (hrW).congr fun i j hi hj' => ?_
    have h0 : i < 3 := hi
    have h1 : i = 0 ∨ i = 1 ∨ i = 2 := by omega
    have h2 : j = 0 ∨ j = 1 ∨ j = 2 := by omega
    rcases h1 with rfl | rfl | rfl <;> rcases h2 with rfl | rfl | rfl <;> rfl
  have hTz5 : IsTouches mz (.slice (some ⟨y5, 0, none⟩) 3 3) nTouch.touches := by
    refine IsTouches.le (m := r5) ?_ (hz _ (by simp))
    refine (hr5).congr fun i j hi hj' => ?_
    have h0 : i < 3 := hi
    have h1 : i = 0 ∨ i = 1 ∨ i = 2 := by omega
    have h2 : j = 0 ∨ j = 1 ∨ j = 2 ∨ j = 3 := by omega
    rcases h1 with rfl | rfl | rfl <;> rcases h2 with rfl | rfl | rfl | rfl <;> rfl
  have hTz6 : IsTouches mz (.slice (some ⟨y6, 0, none⟩) 3 3) nSelf.touches := by
    refine IsTouches.le (m := r6) ?_ (hz _ (by simp))
    refine (hr6).congr fun i j hi hj' => ?_
    have h0 : i < 3 := hi
    have h1 : i = 0 ∨ i = 1 ∨ i = 2 := by omega
    have h2 : j = 0 ∨ j = 1 ∨ j = 2 ∨ j = 3 := by omega
    rcases h1 with rfl | rfl | rfl <;> rcases h2 with rfl | rfl | rfl | rfl <;> rfl
  have hSz : IsSigns mz (.slice (some ⟨yS, 0, none⟩) 1 2) nSign.signs := by
    refine IsSigns.le (m := rS) ?_ (hz _ (by simp))
    refine (hrS).congr fun i j hi hj' => ?_
    have h0 : i < 1 := hi
    have h1 : i = 0 := by omega
    have h2 : j = 0 ∨ j = 1 := by omega
    rcases h1 with rfl <;> rcases h2 with rfl | rfl <;> rfl
  have hM2 : IsArr mM 4 (.slice (some ⟨b333, 0, none⟩) 7 7) 7 (fun i j => (List.replicate 28 (vi 0)).getD (i * 4 + j) undef) := made28 ▸ hM
  have hMz : IsTouches mz (.slice (some ⟨b333, 0, none⟩) 7 7) nMany.touches := by
    refine IsTouches.le (m := mM) ?_ (hz _ (by simp))
    refine (hM2).congr fun i j hi hj' => ?_
    have h0 : i < 7 := hi
    have h1 : i = 0 ∨ i = 1 ∨ i = 2 ∨ i = 3 ∨ i = 4 ∨ i = 5 ∨ i = 6 := by omega
    have h2 : j = 0 ∨ j = 1 ∨ j = 2 ∨ j = 3 := by omega
    rcases h1 with rfl | rfl | rfl | rfl | rfl | rfl | rfl <;> rcases h2 with rfl | rfl | rfl | rfl <;> rfl
  have hBz : IsBoils mz (.slice (some ⟨a327, 0, none⟩) 1 1) nBoil.boiled := by
    refine IsBoils.le (m := m327) ?_ (hz _ (by simp))
    refine (hc327.2).congr fun i j hi hj' => ?_
    have h0 : i < 1 := hi
    have h1 : i = 0 := by omega
    have h2 : j = 0 ∨ j = 1 := by omega
    rcases h1 with rfl <;> rcases h2 with rfl | rfl <;> rfl
  have hKz : IsInts mz (.slice (some ⟨a315, 0, none⟩) 1 1) nWomen.sick := (ints_lit (xs := [3]) hc315).le (hz _ (by simp))
  have hAaz := hAa.le (hz _ (by simp))
  have hAbz := hAb.le (hz _ (by simp))
  have hAdz := hAd.le (hz _ (by simp))
  have hAgz := hAg.le (hz _ (by simp))
  have hAiz := hAi.le (hz _ (by simp))
  have hX24 : IsHouse mz (.agg #[wa, pa, vi (tubH 0).table.wrong, ka, vi (tubH 0).others, vi 6, ta, ba, sa]) nLast := ⟨wa, pa, ka, ta, ba, sa, fa, rfl, ⟨hAaz.W, hAaz.P, hAaz.M, hAaz.K, hAaz.T, hAaz.B, hAaz.S⟩⟩
  have hX25 : IsHouse mz (.agg #[wb, pb, vi (tubH 0).table.wrong, kb, vi 7, vi (tubH 0).last, tb, bb, sb]) nOthers := ⟨wb, pb, kb, tb, bb, sb, fb, rfl, ⟨hAbz.W, hAbz.P, hAbz.M, hAbz.K, hAbz.T, hAbz.B, hAbz.S⟩⟩
  have hX27 : IsHouse mz (.agg #[wd, pd, vi (tubH 0).table.wrong, .slice (some ⟨a315, 0, none⟩) 1 1, vi (tubH 0).others, vi (tubH 0).last, td, bd, sd]) nWomen := ⟨wd, pd, _, td, bd, sd, fd, rfl, ⟨hAdz.W, hAdz.P, hAdz.M, hKz, hAdz.T, hAdz.B, hAdz.S⟩⟩
  have hX30 : IsHouse mz (.agg #[wg, pg, vi (tubH 0).table.wrong, kg, vi (tubH 0).others, vi (tubH 0).last, tg, .slice (some ⟨a327, 0, none⟩) 1 1, sg]) nBoil := ⟨wg, pg, kg, tg, _, sg, fg, rfl, ⟨hAgz.W, hAgz.P, hAgz.M, hAgz.K, hAgz.T, hBz, hAgz.S⟩⟩
  have hX32 : IsHouse mz (.agg #[wi, pi, vi (tubH 0).table.wrong, ki, vi (tubH 0).others, vi (tubH 0).last, .slice (some ⟨b333, 0, none⟩) 7 7, bi, si]) nMany := ⟨wi, pi, ki, _, bi, si, fi, rfl, ⟨hAiz.W, hAiz.P, hAiz.M, hAiz.K, hMz, hAiz.B, hAiz.S⟩⟩
  have hX26 : IsHouse mz (.agg #[.slice (some ⟨yW, 0, none⟩) 3 3, pW, vi 0, kW, vi 1, vi 2, tW, .slice none 0 0, sW]) nTable := ⟨_, pW, kW, tW, _, sW, fW, rfl, ⟨hWz, hPW.P.le (hz mW (by simp)), hPW.M.le (hz mW (by simp)), hPW.K.le (hz mW (by simp)), hTW.le (hz mW (by simp)), IsBoils.nil _, hSW.le (hz mW (by simp))⟩⟩
  have hX28 : IsHouse mz (.agg #[w5, p5, vi 0, k5, vi 1, vi 2, .slice (some ⟨y5, 0, none⟩) 3 3, .slice none 0 0, s5]) nTouch := ⟨w5, p5, k5, _, _, s5, f5, rfl, ⟨hW5.le (hz m5 (by simp)), hP5.P.le (hz m5 (by simp)), hP5.M.le (hz m5 (by simp)), hP5.K.le (hz m5 (by simp)), hTz5, IsBoils.nil _, hS5.le (hz m5 (by simp))⟩⟩
  have hX29 : IsHouse mz (.agg #[w6, p6, vi 0, k6, vi 1, vi 2, .slice (some ⟨y6, 0, none⟩) 3 3, .slice none 0 0, s6]) nSelf := ⟨w6, p6, k6, _, _, s6, f6, rfl, ⟨hW6.le (hz m6 (by simp)), hP6.P.le (hz m6 (by simp)), hP6.M.le (hz m6 (by simp)), hP6.K.le (hz m6 (by simp)), hTz6, IsBoils.nil _, hS6.le (hz m6 (by simp))⟩⟩
  have hX31 : IsHouse mz (.agg #[wS, pS, vi 0, kS, vi 1, vi 2, tS, .slice none 0 0, .slice (some ⟨yS, 0, none⟩) 1 2]) nSign := ⟨wS, pS, kS, tS, _, _, fS, rfl, ⟨hWS.le (hz mS (by simp)), hPS.P.le (hz mS (by simp)), hPS.M.le (hz mS (by simp)), hPS.K.le (hz mS (by simp)), hTS.le (hz mS (by simp)), IsBoils.nil _, hSz⟩⟩
  have hX0 : ∀ m, IsHouse m (.agg #[.slice none 0 0, .slice none 0 0, vi 0, .slice none 0 0, vi 0, vi 0, .slice none 0 0, .slice none 0 0, .slice none 0 0]) nNone := fun m => ⟨_, _, _, _, _, _, fun _ => undef, rfl, ⟨IsArr.nil m 3 _, IsArr.nil m 2 _, fun i hi => absurd hi (Nat.not_lt_zero _), IsArr.nil m 1 _, IsArr.nil m 4 _, IsBoils.nil _, IsSigns.nil _⟩⟩
  have sm24 : SmH nLast := n_sm rfl (by simp [nLast, tubH]) (by simp [nLast, tubH]) (by simp [nLast, tubH]) (by simp [nLast, tubH])
  have sm25 : SmH nOthers := n_sm rfl (by simp [nOthers, tubH]) (by simp [nOthers, tubH]) (by simp [nOthers, tubH]) (by simp [nOthers, tubH])
  have sm27 : SmH nWomen := n_sm rfl (by simp [nWomen, tubH]) (by simp [nWomen, tubH]) (by simp [nWomen, tubH]) (by simp [nWomen, tubH])
  have sm28 : SmH nTouch := n_sm rfl (by simp [nTouch, tubH]) (by simp [nTouch, tubH]) (by simp [nTouch, tubH]) (by simp [nTouch, tubH])
  have sm29 : SmH nSelf := n_sm rfl (by simp [nSelf, tubH]) (by simp [nSelf, tubH]) (by simp [nSelf, tubH]) (by simp [nSelf, tubH])
  have sm30 : SmH nBoil := n_sm rfl (by simp [nBoil, tubH]) (by simp [nBoil, tubH]) (by simp [nBoil, tubH]) (by simp [nBoil, tubH])
  have sm31 : SmH nSign := n_sm rfl (by simp [nSign, tubH]) (by simp [nSign, tubH]) (by simp [nSign, tubH]) (by simp [nSign, tubH])
  have sm32 : SmH nMany := n_sm rfl (by simp [nMany, tubH]) (by simp [nMany, tubH]) (by simp [nMany, tubH]) (by simp [nMany, tubH])
  have sm26 := nTable_sm
  obtain ⟨e24, e25, e26, e27, e28, e29, e30, e31, e32, e33⟩ := nf_faults
  clear hz
  refine W.weaken [(2, vi 2), (4, vi 2), (6, vi 11), (8, vi 2), (10, vi 11), (12, vi 11), (14, vi 10), (24, .pointer (some ⟨b24, 0, none⟩)), (25, .pointer (some ⟨b25, 0, none⟩)), (26, .pointer (some ⟨b26, 0, none⟩)), (27, .pointer (some ⟨b27, 0, none⟩)), (28, .pointer (some ⟨b28, 0, none⟩)), (29, .pointer (some ⟨b29, 0, none⟩)), (30, .pointer (some ⟨b30, 0, none⟩)), (31, .pointer (some ⟨b31, 0, none⟩)), (32, .pointer (some ⟨b32, 0, none⟩))] [mz] [] (by repeat (first | exact trivial | refine ⟨rfl, ?_⟩)) (by simp) (List.nil_sublist _) ?_; refine W.region ?_
  iterate 27 refine .o rfl ?_
  refine .val (.loadPW rfl hz24 (by repeat constructor) rfl) rfl rfl rfl ?_; refine .val (.call rfl (fun m hm => checkN_any (hX24.le (by repeat first | exact hm.1 | replace hm := hm.2)) sm24 e24)) rfl rfl rfl ?_
  iterate 3 refine .o rfl ?_
  refine .val (.loadPW rfl hz25 (by repeat constructor) rfl) rfl rfl rfl ?_; refine .val (.call rfl (fun m hm => checkN_any (hX25.le (by repeat first | exact hm.1 | replace hm := hm.2)) sm25 e25)) rfl rfl rfl ?_
  iterate 3 refine .o rfl ?_
  refine .val (.loadPW rfl hz26 (by repeat constructor) rfl) rfl rfl rfl ?_; refine .val (.call rfl (fun m hm => checkN_any (hX26.le (by repeat first | exact hm.1 | replace hm := hm.2)) sm26 e26)) rfl rfl rfl ?_
  iterate 3 refine .o rfl ?_
  refine .val (.loadPW rfl hz27 (by repeat constructor) rfl) rfl rfl rfl ?_; refine .val (.call rfl (fun m hm => checkN_any (hX27.le (by repeat first | exact hm.1 | replace hm := hm.2)) sm27 e27)) rfl rfl rfl ?_
  iterate 3 refine .o rfl ?_
  refine .val (.loadPW rfl hz28 (by repeat constructor) rfl) rfl rfl rfl ?_; refine .val (.call rfl (fun m hm => checkN_any (hX28.le (by repeat first | exact hm.1 | replace hm := hm.2)) sm28 e28)) rfl rfl rfl ?_
  iterate 3 refine .o rfl ?_
  refine .val (.loadPW rfl hz29 (by repeat constructor) rfl) rfl rfl rfl ?_; refine .val (.call rfl (fun m hm => checkN_any (hX29.le (by repeat first | exact hm.1 | replace hm := hm.2)) sm29 e29)) rfl rfl rfl ?_
  iterate 3 refine .o rfl ?_
  refine .val (.loadPW rfl hz30 (by repeat constructor) rfl) rfl rfl rfl ?_; refine .val (.call rfl (fun m hm => checkN_any (hX30.le (by repeat first | exact hm.1 | replace hm := hm.2)) sm30 e30)) rfl rfl rfl ?_
  iterate 3 refine .o rfl ?_
  refine .val (.loadPW rfl hz31 (by repeat constructor) rfl) rfl rfl rfl ?_; refine .val (.call rfl (fun m hm => checkN_any (hX31.le (by repeat first | exact hm.1 | replace hm := hm.2)) sm31 e31)) rfl rfl rfl ?_
  iterate 3 refine .o rfl ?_
  refine .val (.loadPW rfl hz32 (by repeat constructor) rfl) rfl rfl rfl ?_; refine .val (.call rfl (fun m hm => checkN_any (hX32.le (by repeat first | exact hm.1 | replace hm := hm.2)) sm32 e32)) rfl rfl rfl ?_
  iterate 3 refine .o rfl ?_
  refine .val (.build #[.slice none 0 0, .slice none 0 0, vi 0, .slice none 0 0, vi 0, vi 0, .slice none 0 0, .slice none 0 0, .slice none 0 0] rfl (by kernel_rfl)) rfl rfl rfl ?_; refine .val (.call rfl (fun m hm => checkN_any (hX0 m) nNone_sm e33)) rfl rfl rfl ?_
  iterate 3 refine .o rfl ?_
  refine .val (.call rfl (fun m hm => awake6_any)) rfl rfl rfl ?_
  iterate 2 refine .o rfl ?_
  refine WL.nil ?_; refine Kseq.go ?_
  refine W.ret ?_; refine ⟨.inl rfl, [_], mz, ⟨.tmp rfl, trivial⟩, (by repeat constructor), ?_⟩
  rfl
end Go.Proofs.Ytdnbkjgbehakpaa
