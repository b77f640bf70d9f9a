/- The statement BundleNames: its contract. -/
import Derived.Test.YtbmohbeocnfefaaT166
namespace Go.Proofs.Ytbmohbeocnfefaa
open Go Go.Eng Go.RowKit

theorem smB {t : Table} (h1 : t.women.length ≤ 50) (h2 : t.pieces.length ≤ 50) (h3 : ∀ i, i < t.pieces.length → (t.pieces.getD i default).marks.length ≤ 50) : Sm t := ⟨h1, h2, h3⟩
/-- BundleNames -/
theorem bundleNames_any {h : Mem} : FnV Try.prog 4 #[] h (.bool true) := by
  refine FnR.val ?_
  refine FnR.of_W (n := 387) Try.func4 rfl rfl (Nat.le_of_ble_eq_true rfl) fun c hr hD hF => ?_
  refine W.seq ?_
  refine W.region ?_
  refine WL.val (OpVal.opv rfl) rfl rfl rfl ?_
  refine WL.nil ?_
  refine Kseq.go (W.seq ?_)
  skip
  refine W.region ?_
  (refine WL.callM rfl rfl (M0 := []) (by simp) (Split.none _) rfl (threeB_any 1 1 0) rfl rfl rfl ?_; rintro v30 M1 a1 ⟨mR, bW, bP, F0, F1, F2, F3, rfl, rfl, rfl, i0, i1, i2, i3⟩)
  refine WL.alloc rfl rfl rfl (fun b1 => ?_)
  (refine WL.store [_, _, _] rfl (.head _) rfl rfl rfl (Nat.le_of_ble_eq_true rfl) (by simp [Value.cells, Value.oneCell']) rfl ?_)
  refine WL.nil ?_
  refine Kseq.go (W.seq ?_)
  skip
  refine W.region ?_
  refine WL.val (OpVal.fieldAddrB rfl) rfl rfl rfl ?_
  refine WL.val (OpVal.loadB rfl (.head _) rfl) rfl rfl rfl ?_
  refine WL.abs (OpAbs.lit [_] rfl (Nat.le_of_ble_eq_true rfl) rfl rfl (by simp [Value.cells]) (Nat.le_of_ble_eq_true rfl) rfl (by first | (simp [Value.oneCell']; done) | exact List.all_eq_true.1 rfl)) rfl rfl rfl ?_
  rintro m33 _ ⟨hc33, a33, rfl⟩
  refine WL.val (OpVal.indexAddrR rfl rfl (.tail _ (.head _)) (by decide)) rfl rfl rfl ?_
  refine WL.val (OpVal.fieldAddrR rfl (.tail _ (.head _)) (by decide)) rfl rfl rfl ?_
  (refine WL.storeR (T := 53) (k := 2) rfl (.tail _ (.head _)) rfl rfl rfl (by decide) (Nat.le_of_ble_eq_true rfl) (by simp [Value.cells, Value.oneCell']) ?_)
  refine WL.nil ?_
  refine Kseq.go (W.seq ?_)
  skip
  refine W.weaken [(1, .pointer (some ⟨b1, 0, none⟩))] [m33, mR] [.blk b1 #[.slice (some ⟨bW, 0, none⟩) 3 3, .slice (some ⟨bP, 0, none⟩) 4 4, vi 0] 43, .row 53 2 (.slice (some ⟨bP, 0, none⟩) 4 4) 4 [F0, vi 0, .slice (some ⟨a33, 0, none⟩) 1 1, vi 0, F2, vi 1, F3, vi 1], .row 56 3 (.slice (some ⟨bW, 0, none⟩) 3 3) 3 [vi 1, vi 1, vi 1, vi 1, vi 1, vi 2, vi 2, vi 1, vi 1]] (by repeat (first | exact trivial | refine ⟨rfl, ?_⟩)) (by simp) (.refl _) ?_
  refine W.freezeRow (.tail _ (.head _)) (fun b hb => (hF b hb).elim) (by intro u hu; simp only [List.mem_cons, List.not_mem_nil, or_false] at hu; rcases hu with rfl | rfl | rfl | rfl | rfl | rfl | rfl | rfl <;> first | rfl | exact IsArr.one i0 | exact IsArr.one i2 | exact IsArr.one i3) fun mP hrP => ?_
  refine W.join fun mj hj => ?_
  have hPr : IsPieces mj (.slice (some ⟨bP, 0, none⟩) 4 4) (fun i => [F0, .slice (some ⟨a33, 0, none⟩) 1 1, F2, F3].getD i undef) bRead.pieces := by
    refine IsArr.le (m := mP) ?_ (hj _ (by simp))
    refine (hrP).congr fun i j hi hj' => ?_
    have h0 : i < 4 := hi
    have h1 : i = 0 ∨ i = 1 ∨ i = 2 ∨ i = 3 := by omega
    have h2 : j = 0 ∨ j = 1 := by omega
    rcases h1 with rfl | rfl | rfl | rfl <;> rcases h2 with rfl | rfl <;> rfl
  have hMr : IsMarks mj (fun i => [F0, .slice (some ⟨a33, 0, none⟩) 1 1, F2, F3].getD i undef) bRead.pieces := four_marks rfl rfl (i0.le (hj _ (by simp))) ((ints_lit (xs := [1]) hc33).le (hj _ (by simp))) (i2.le (hj _ (by simp))) (i3.le (hj _ (by simp)))
  have hWl : IsWomen (lentM bW 56 [vi 1, vi 1, vi 1, vi 1, vi 1, vi 2, vi 2, vi 1, vi 1]) (.slice (some ⟨bW, 0, none⟩) 3 3) bRead.women := by
    refine (isArr_lent rfl (by decide) (by simp [Value.oneCell'])).congr fun i j hi hj' => ?_
    have h0 : i < 3 := hi
    have h1 : i = 0 ∨ i = 1 ∨ i = 2 := by omega
    have h2 : j = 0 ∨ j = 1 ∨ j = 2 := by omega
    rcases h1 with rfl | rfl | rfl <;> rcases h2 with rfl | rfl | rfl <;> rfl
  clear hj hrP i0 i1 i2 i3 hc33
  skip
  refine W.weaken [(1, .pointer (some ⟨b1, 0, none⟩))] [mj] [.blk b1 #[.slice (some ⟨bW, 0, none⟩) 3 3, .slice (some ⟨bP, 0, none⟩) 4 4, vi 0] 43, .row 56 3 (.slice (some ⟨bW, 0, none⟩) 3 3) 3 [vi 1, vi 1, vi 1, vi 1, vi 1, vi 2, vi 2, vi 1, vi 1]] (by repeat (first | exact trivial | refine ⟨rfl, ?_⟩)) (by simp) (.refl _) ?_
  skip
  refine W.region ?_
  refine WL.val (OpVal.loadBW rfl (.head _) rfl) rfl rfl rfl ?_
  refine WL.lend (b := bW) (T := 56) (k := 3) (N := 3) (xs := [vi 1, vi 1, vi 1, vi 1, vi 1, vi 2, vi 2, vi 1, vi 1]) (.tail _ (.head _)) (fun b hb => (hF b hb).elim) (OpAbs.call rfl (fun m hm => whoseN_any (t := bRead) ⟨_, _, _, rfl, IsWomen.le hWl (by repeat (first | exact hm.1 | replace hm := hm.2)), IsPieces.le hPr (by repeat (first | exact hm.1 | replace hm := hm.2)), IsMarks.le hMr (by repeat (first | exact hm.1 | replace hm := hm.2))⟩ (smB (by decide) (by decide) (by decide)) bf_read.1 bf_read.2)) rfl rfl rfl ?_
  rintro mr38 m38 _ ⟨lv, rfl, hL⟩ hm38 hb38
  have hLe := lent_lists hL hm38 hb38
  clear hL hm38 hb38 hWl
  refine WL.val (OpVal.opv rfl) rfl rfl rfl ?_
  refine WL.val (OpVal.opv rfl) rfl rfl rfl ?_
  refine WL.val (OpVal.opv rfl) rfl rfl rfl ?_
  refine WL.val (OpVal.opv rfl) rfl rfl rfl ?_
  refine WL.val (OpVal.opv rfl) rfl rfl rfl ?_
  refine WL.nil ?_
  refine Kseq.go (W.seq ?_)
  skip
  refine W.draw 3 (by kernel_rfl) (by kernel_rfl) (by kernel_rfl) rfl ?_
  refine DJ.val [] (OpVal.fieldAddrB rfl) rfl rfl rfl rfl ?_
  refine DJ.val [] (OpVal.loadB rfl (.head _) rfl) rfl rfl rfl rfl ?_
  refine DJ.val [] (OpVal.call rfl (fun m hm => between_any _ _)) rfl rfl rfl rfl ?_
  refine DJ.nil ?_
  refine WL.val (OpVal.indexAddrR rfl rfl (.tail _ (.head _)) (by decide)) rfl rfl rfl ?_
  refine WL.val (OpVal.fieldAddrR rfl (.tail _ (.head _)) (by decide)) rfl rfl rfl ?_
  (refine WL.storeR (T := 56) (k := 3) rfl (.tail _ (.head _)) rfl rfl rfl (by decide) (Nat.le_of_ble_eq_true rfl) (by simp [Value.cells, Value.oneCell']) ?_)
  refine WL.nil ?_
  refine Kseq.go (W.seq ?_)
  skip
  refine W.weaken [(1, .pointer (some ⟨b1, 0, none⟩)), (2, lv), (3, vi 0)] [m38, mj] [.blk b1 #[.slice (some ⟨bW, 0, none⟩) 3 3, .slice (some ⟨bP, 0, none⟩) 4 4, vi 0] 43, .row 56 3 (.slice (some ⟨bW, 0, none⟩) 3 3) 3 [vi 1, vi 1, vi 1, vi 1, vi 1, vi 2, vi 2, vi 2, vi 2]] (by repeat (first | exact trivial | refine ⟨rfl, ?_⟩)) (by simp) (.refl _) ?_
  refine W.freezeRow (.tail _ (.head _)) (fun b hb => (hF b hb).elim) (by simp [Value.oneCell']) fun mW hrW => ?_
  refine W.freezeBox (.head _) (fun b hb => (hF b hb).elim) fun mB hB0 => ?_
  refine W.join fun mz hz => ?_
  have hB := hB0.le (hz mB (by simp))
  have hLv := hLe.back hrW (hz m38 (by simp)) (hz mW (by simp))
  have hW2 : IsWomen mz (.slice (some ⟨bW, 0, none⟩) 3 3) bRead2.women := by
    refine IsArr.le (m := mW) ?_ (hz _ (by simp))
    refine (hrW).congr fun i j hi hj' => ?_
    have h0 : i < 3 := hi
    have h1 : i = 0 ∨ i = 1 ∨ i = 2 := by omega
    have h2 : j = 0 ∨ j = 1 ∨ j = 2 := by omega
    rcases h1 with rfl | rfl | rfl <;> rcases h2 with rfl | rfl | rfl <;> rfl
  have hT2 : IsTable mz (.agg #[.slice (some ⟨bW, 0, none⟩) 3 3, .slice (some ⟨bP, 0, none⟩) 4 4, vi 0]) bRead2 := ⟨_, _, _, rfl, hW2, IsPieces.le hPr (hz _ (by simp)), IsMarks.le hMr (hz _ (by simp))⟩
  clear hz hPr hMr hLe hrW hB0 hW2
  skip
  refine W.weaken [(1, .pointer (some ⟨b1, 0, none⟩)), (2, lv), (3, vi 0)] [mz] [] (by repeat (first | exact trivial | refine ⟨rfl, ?_⟩)) (by simp) (List.nil_sublist _) ?_
  skip
  refine W.region ?_
  refine WL.val (OpVal.loadPW rfl hB (by repeat (first | exact .head _ | refine .tail _ ?_)) rfl) rfl rfl rfl ?_
  (refine WL.abs (OpAbs.call rfl (fun m hm => whoseE_any (t := bRead2) (hT2.le (by repeat (first | exact hm.1 | replace hm := hm.2))) (smB (by decide) (by decide) (by decide)) bf_read2)) rfl rfl rfl ?_; rintro m48 _ ⟨l4, rfl⟩)
  refine WL.val (OpVal.opv rfl) rfl rfl rfl ?_
  refine WL.val (OpVal.opv rfl) rfl rfl rfl ?_
  refine WL.val (OpVal.opv rfl) rfl rfl rfl ?_
  refine WL.val (OpVal.opv rfl) rfl rfl rfl ?_
  refine WL.val (OpVal.opv rfl) rfl rfl rfl ?_
  refine WL.nil ?_
  refine Kseq.go (W.seq ?_)
  skip
  refine W.region ?_
  refine WL.val (OpVal.loadPW rfl hB (by repeat (first | exact .head _ | refine .tail _ ?_)) rfl) rfl rfl rfl ?_
  (refine WL.abs (OpAbs.call rfl (fun m hm => fewestE_any (t := bRead2) (hT2.le (by repeat (first | exact hm.1 | replace hm := hm.2))) (smB (by decide) (by decide) (by decide)) bf_read2)) rfl rfl rfl ?_; rintro m53 _ ⟨l6, rfl⟩)
  refine WL.val (OpVal.opv rfl) rfl rfl rfl ?_
  refine WL.val (OpVal.opv rfl) rfl rfl rfl ?_
  refine WL.val (OpVal.opv rfl) rfl rfl rfl ?_
  refine WL.val (OpVal.opv rfl) rfl rfl rfl ?_
  refine WL.val (OpVal.opv rfl) rfl rfl rfl ?_
  refine WL.nil ?_
  refine Kseq.go (W.seq ?_)
  skip
  refine W.region ?_
  refine WL.abs (OpAbs.call rfl (fun m hm => three_any 4 0 0)) rfl rfl rfl ?_
  rintro m57 v57 h57
  refine WL.val (OpVal.call rfl (fun m hm => firstN_any (h57.le (by repeat (first | exact hm.1 | replace hm := hm.2))) (threeT_sm _ _ _) bf_first1)) rfl rfl rfl ?_
  refine WL.val (OpVal.opv rfl) rfl rfl rfl ?_
  refine WL.val (OpVal.opv rfl) rfl rfl rfl ?_
  refine WL.val (OpVal.opv rfl) rfl rfl rfl ?_
  refine WL.val (OpVal.opv rfl) rfl rfl rfl ?_
  refine WL.val (OpVal.opv rfl) rfl rfl rfl ?_
  refine WL.nil ?_
  refine Kseq.go (W.seq ?_)
  skip
  refine W.region ?_
  refine WL.abs (OpAbs.call rfl (fun m hm => three_any 2 0 0)) rfl rfl rfl ?_
  rintro m62 v62 h62
  (refine WL.abs (OpAbs.call rfl (fun m hm => leaveN_any (h62.le (by repeat (first | exact hm.1 | replace hm := hm.2))) (threeT_sm _ _ _) bf_leave1.1 bf_leave1.2)) rfl rfl rfl ?_; rintro m63 _ ⟨l10, rfl, g10⟩)
  refine WL.val (OpVal.opv rfl) rfl rfl rfl ?_
  refine WL.val (OpVal.opv rfl) rfl rfl rfl ?_
  refine WL.val (OpVal.opv rfl) rfl rfl rfl ?_
  refine WL.val (OpVal.opv rfl) rfl rfl rfl ?_
  refine WL.val (OpVal.opv rfl) rfl rfl rfl ?_
  refine WL.nil ?_
  refine Kseq.go (W.seq ?_)
  skip
  refine W.region ?_
  refine WL.abs (OpAbs.call rfl (fun m hm => three_any 2 0 1)) rfl rfl rfl ?_
  rintro m67 v67 h67
  (refine WL.abs (OpAbs.call rfl (fun m hm => fewestN_any (h67.le (by repeat (first | exact hm.1 | replace hm := hm.2))) (threeT_sm _ _ _) bf_fewest.1 bf_fewest.2)) rfl rfl rfl ?_; rintro m68 _ ⟨l12, rfl, g12⟩)
  refine WL.val (OpVal.opv rfl) rfl rfl rfl ?_
  refine WL.val (OpVal.opv rfl) rfl rfl rfl ?_
  refine WL.val (OpVal.opv rfl) rfl rfl rfl ?_
  refine WL.val (OpVal.opv rfl) rfl rfl rfl ?_
  refine WL.val (OpVal.opv rfl) rfl rfl rfl ?_
  refine WL.nil ?_
  refine Kseq.go (W.seq ?_)
  skip
  refine W.region ?_
  refine WL.abs (OpAbs.call rfl (fun m hm => three_any 2 1 0)) rfl rfl rfl ?_
  rintro m72 v72 h72
  (refine WL.abs (OpAbs.call rfl (fun m hm => leaveN_any (h72.le (by repeat (first | exact hm.1 | replace hm := hm.2))) (threeT_sm _ _ _) bf_leave2.1 bf_leave2.2)) rfl rfl rfl ?_; rintro m73 _ ⟨l14, rfl, g14⟩)
  refine WL.val (OpVal.opv rfl) rfl rfl rfl ?_
  refine WL.val (OpVal.opv rfl) rfl rfl rfl ?_
  refine WL.val (OpVal.opv rfl) rfl rfl rfl ?_
  refine WL.val (OpVal.opv rfl) rfl rfl rfl ?_
  refine WL.val (OpVal.opv rfl) rfl rfl rfl ?_
  refine WL.nil ?_
  refine Kseq.go (W.seq ?_)
  skip
  refine W.region ?_
  refine WL.abs (OpAbs.call rfl (fun m hm => three_any 2 1 0)) rfl rfl rfl ?_
  rintro m77 v77 h77
  refine WL.val (OpVal.call rfl (fun m hm => firstN_any (h77.le (by repeat (first | exact hm.1 | replace hm := hm.2))) (threeT_sm _ _ _) bf_first2)) rfl rfl rfl ?_
  refine WL.val (OpVal.opv rfl) rfl rfl rfl ?_
  refine WL.val (OpVal.opv rfl) rfl rfl rfl ?_
  refine WL.val (OpVal.opv rfl) rfl rfl rfl ?_
  refine WL.val (OpVal.opv rfl) rfl rfl rfl ?_
  refine WL.val (OpVal.opv rfl) rfl rfl rfl ?_
  refine WL.nil ?_
  refine Kseq.go (W.seq (W.seq ?_))
  refine W.join fun mq hq => ?_
  have k10 := IsInts.le g10 (hq _ (by simp))
  have k12 := IsInts.le g12 (hq _ (by simp))
  have k14 := IsInts.le g14 (hq _ (by simp))
  obtain ⟨vs, ⟨_, hvs⟩, hA⟩ := hLv
  have hAq := IsArr.le hA (hq mz (by simp))
  have e0 : IsInts mq (vs.getD 0 undef) [0, 1] := IsArr.le (hvs 0 (by decide)) (hq mz (by simp))
  have e1 : IsInts mq (vs.getD 1 undef) [0, 1] := IsArr.le (hvs 1 (by decide)) (hq mz (by simp))
  have e2 : IsInts mq (vs.getD 2 undef) [0, 1] := IsArr.le (hvs 2 (by decide)) (hq mz (by simp))
  have e3 : IsInts mq (vs.getD 3 undef) [2] := IsArr.le (hvs 3 (by decide)) (hq mz (by simp))
  clear hq hvs hA g10 g12 g14 hT2 hB
  skip
  refine W.weaken [(2, lv), (3, vi 0), (5, vi 11), (7, vi 11), (8, vi 0), (9, vi 0), (10, l10), (11, vi 0), (12, l12), (13, vi 0), (14, l14), (15, vi 0), (17, vi 7)] [mq] [] (by repeat (first | exact trivial | refine ⟨rfl, ?_⟩)) (by simp) (List.nil_sublist _) ?_
  skip
  refine W.region ?_
  refine WL.val (OpVal.opv rfl) rfl rfl rfl ?_
  refine WL.val (OpVal.opv rfl) rfl rfl rfl ?_
  refine WL.val (OpVal.opv rfl) rfl rfl rfl ?_
  refine WL.val (OpVal.opv rfl) rfl rfl rfl ?_
  refine WL.val (OpVal.len rfl hAq) rfl rfl rfl ?_
  refine WL.val (OpVal.opv rfl) rfl rfl rfl ?_
  refine WL.val (OpVal.opv rfl) rfl rfl rfl ?_
  refine WL.val (OpVal.opv rfl) rfl rfl rfl ?_
  refine WL.val (OpVal.opv rfl) rfl rfl rfl ?_
  refine WL.val (OpVal.indexAddrN (i := 0) rfl rfl hAq (by decide)) rfl rfl rfl ?_
  refine WL.val (OpVal.cast (OpVal.loadE rfl hAq (by repeat (first | exact .head _ | refine .tail _ ?_)) (by decide) (by decide)) (show _ = vs.getD 0 undef from rfl)) rfl rfl rfl ?_
  refine WL.abs (OpAbs.lit [_, _] rfl (Nat.le_of_ble_eq_true rfl) rfl rfl (by simp [Value.cells]) (Nat.le_of_ble_eq_true rfl) rfl (by first | (simp [Value.oneCell']; done) | exact List.all_eq_true.1 rfl)) rfl rfl rfl ?_
  rintro m92 _ ⟨hc92, a92, rfl⟩
  refine WL.val (OpVal.call rfl (fun m hm => ints_same (e0.le (by repeat (first | exact hm.1 | replace hm := hm.2))) ((ints_lit (xs := [0, 1]) hc92).le (by repeat (first | exact hm.1 | replace hm := hm.2))))) rfl rfl rfl ?_
  refine WL.val (OpVal.opv rfl) rfl rfl rfl ?_
  refine WL.val (OpVal.opv rfl) rfl rfl rfl ?_
  refine WL.val (OpVal.opv rfl) rfl rfl rfl ?_
  refine WL.val (OpVal.opv rfl) rfl rfl rfl ?_
  refine WL.val (OpVal.indexAddrN (i := 1) rfl rfl hAq (by decide)) rfl rfl rfl ?_
  refine WL.val (OpVal.cast (OpVal.loadE rfl hAq (by repeat (first | exact .head _ | refine .tail _ ?_)) (by decide) (by decide)) (show _ = vs.getD 1 undef from rfl)) rfl rfl rfl ?_
  refine WL.abs (OpAbs.lit [_, _] rfl (Nat.le_of_ble_eq_true rfl) rfl rfl (by simp [Value.cells]) (Nat.le_of_ble_eq_true rfl) rfl (by first | (simp [Value.oneCell']; done) | exact List.all_eq_true.1 rfl)) rfl rfl rfl ?_
  rintro m100 _ ⟨hc100, a100, rfl⟩
  refine WL.val (OpVal.call rfl (fun m hm => ints_same (e1.le (by repeat (first | exact hm.1 | replace hm := hm.2))) ((ints_lit (xs := [0, 1]) hc100).le (by repeat (first | exact hm.1 | replace hm := hm.2))))) rfl rfl rfl ?_
  refine WL.val (OpVal.opv rfl) rfl rfl rfl ?_
  refine WL.val (OpVal.opv rfl) rfl rfl rfl ?_
  refine WL.val (OpVal.opv rfl) rfl rfl rfl ?_
  refine WL.val (OpVal.opv rfl) rfl rfl rfl ?_
  refine WL.val (OpVal.indexAddrN (i := 2) rfl rfl hAq (by decide)) rfl rfl rfl ?_
  refine WL.val (OpVal.cast (OpVal.loadE rfl hAq (by repeat (first | exact .head _ | refine .tail _ ?_)) (by decide) (by decide)) (show _ = vs.getD 2 undef from rfl)) rfl rfl rfl ?_
  refine WL.abs (OpAbs.lit [_, _] rfl (Nat.le_of_ble_eq_true rfl) rfl rfl (by simp [Value.cells]) (Nat.le_of_ble_eq_true rfl) rfl (by first | (simp [Value.oneCell']; done) | exact List.all_eq_true.1 rfl)) rfl rfl rfl ?_
  rintro m108 _ ⟨hc108, a108, rfl⟩
  refine WL.val (OpVal.call rfl (fun m hm => ints_same (e2.le (by repeat (first | exact hm.1 | replace hm := hm.2))) ((ints_lit (xs := [0, 1]) hc108).le (by repeat (first | exact hm.1 | replace hm := hm.2))))) rfl rfl rfl ?_
  refine WL.val (OpVal.opv rfl) rfl rfl rfl ?_
  refine WL.val (OpVal.opv rfl) rfl rfl rfl ?_
  refine WL.val (OpVal.opv rfl) rfl rfl rfl ?_
  refine WL.val (OpVal.opv rfl) rfl rfl rfl ?_
  refine WL.val (OpVal.indexAddrN (i := 3) rfl rfl hAq (by decide)) rfl rfl rfl ?_
  refine WL.val (OpVal.cast (OpVal.loadE rfl hAq (by repeat (first | exact .head _ | refine .tail _ ?_)) (by decide) (by decide)) (show _ = vs.getD 3 undef from rfl)) rfl rfl rfl ?_
  refine WL.abs (OpAbs.lit [_] rfl (Nat.le_of_ble_eq_true rfl) rfl rfl (by simp [Value.cells]) (Nat.le_of_ble_eq_true rfl) rfl (by first | (simp [Value.oneCell']; done) | exact List.all_eq_true.1 rfl)) rfl rfl rfl ?_
  rintro m116 _ ⟨hc116, a116, rfl⟩
  refine WL.val (OpVal.call rfl (fun m hm => ints_same (e3.le (by repeat (first | exact hm.1 | replace hm := hm.2))) ((ints_lit (xs := [2]) hc116).le (by repeat (first | exact hm.1 | replace hm := hm.2))))) rfl rfl rfl ?_
  refine WL.val (OpVal.opv rfl) rfl rfl rfl ?_
  refine WL.val (OpVal.opv rfl) rfl rfl rfl ?_
  refine WL.val (OpVal.opv rfl) rfl rfl rfl ?_
  refine WL.val (OpVal.opv rfl) rfl rfl rfl ?_
  refine WL.val (OpVal.opv rfl) rfl rfl rfl ?_
  refine WL.val (OpVal.opv rfl) rfl rfl rfl ?_
  refine WL.val (OpVal.opv rfl) rfl rfl rfl ?_
  refine WL.val (OpVal.opv rfl) rfl rfl rfl ?_
  refine WL.val (OpVal.opv rfl) rfl rfl rfl ?_
  refine WL.val (OpVal.opv rfl) rfl rfl rfl ?_
  refine WL.val (OpVal.opv rfl) rfl rfl rfl ?_
  refine WL.val (OpVal.opv rfl) rfl rfl rfl ?_
  refine WL.val (OpVal.opv rfl) rfl rfl rfl ?_
  refine WL.val (OpVal.opv rfl) rfl rfl rfl ?_
  refine WL.val (OpVal.opv rfl) rfl rfl rfl ?_
  refine WL.val (OpVal.opv rfl) rfl rfl rfl ?_
  refine WL.val (OpVal.opv rfl) rfl rfl rfl ?_
  refine WL.val (OpVal.opv rfl) rfl rfl rfl ?_
  refine WL.val (OpVal.opv rfl) rfl rfl rfl ?_
  refine WL.val (OpVal.opv rfl) rfl rfl rfl ?_
  refine WL.val (OpVal.opv rfl) rfl rfl rfl ?_
  refine WL.val (OpVal.opv rfl) rfl rfl rfl ?_
  refine WL.val (OpVal.opv rfl) rfl rfl rfl ?_
  refine WL.val (OpVal.opv rfl) rfl rfl rfl ?_
  refine WL.abs (OpAbs.lit [_] rfl (Nat.le_of_ble_eq_true rfl) rfl rfl (by simp [Value.cells]) (Nat.le_of_ble_eq_true rfl) rfl (by first | (simp [Value.oneCell']; done) | exact List.all_eq_true.1 rfl)) rfl rfl rfl ?_
  rintro m142 _ ⟨hc142, a142, rfl⟩
  refine WL.val (OpVal.call rfl (fun m hm => ints_same (k10.le (by repeat (first | exact hm.1 | replace hm := hm.2))) ((ints_lit (xs := [2]) hc142).le (by repeat (first | exact hm.1 | replace hm := hm.2))))) rfl rfl rfl ?_
  refine WL.val (OpVal.opv rfl) rfl rfl rfl ?_
  refine WL.val (OpVal.opv rfl) rfl rfl rfl ?_
  refine WL.val (OpVal.opv rfl) rfl rfl rfl ?_
  refine WL.val (OpVal.opv rfl) rfl rfl rfl ?_
  refine WL.val (OpVal.opv rfl) rfl rfl rfl ?_
  refine WL.val (OpVal.opv rfl) rfl rfl rfl ?_
  refine WL.val (OpVal.opv rfl) rfl rfl rfl ?_
  refine WL.val (OpVal.opv rfl) rfl rfl rfl ?_
  refine WL.abs (OpAbs.call rfl (fun m hm => bestL_any)) rfl rfl rfl ?_
  rintro m152 v152 h152
  refine WL.val (OpVal.call rfl (fun m hm => ints_same (k12.le (by repeat (first | exact hm.1 | replace hm := hm.2))) (h152.le (by repeat (first | exact hm.1 | replace hm := hm.2))))) rfl rfl rfl ?_
  refine WL.val (OpVal.opv rfl) rfl rfl rfl ?_
  refine WL.val (OpVal.opv rfl) rfl rfl rfl ?_
  refine WL.val (OpVal.opv rfl) rfl rfl rfl ?_
  refine WL.val (OpVal.opv rfl) rfl rfl rfl ?_
  refine WL.val (OpVal.opv rfl) rfl rfl rfl ?_
  refine WL.val (OpVal.opv rfl) rfl rfl rfl ?_
  refine WL.val (OpVal.opv rfl) rfl rfl rfl ?_
  refine WL.val (OpVal.opv rfl) rfl rfl rfl ?_
  refine WL.val (OpVal.cast (OpVal.len rfl k14) (show _ = vi 0 from rfl)) rfl rfl rfl ?_
  refine WL.val (OpVal.opv rfl) rfl rfl rfl ?_
  refine WL.val (OpVal.opv rfl) rfl rfl rfl ?_
  refine WL.val (OpVal.opv rfl) rfl rfl rfl ?_
  refine WL.val (OpVal.opv rfl) rfl rfl rfl ?_
  refine WL.val (OpVal.opv rfl) rfl rfl rfl ?_
  refine WL.val (OpVal.opv rfl) rfl rfl rfl ?_
  refine WL.nil ?_
  refine Kseq.go ?_
  refine W.condF rfl rfl ?_
  refine W.skip (Kseq.go (W.seq (W.seq ?_)))
  refine W.weaken [] [mq] [] trivial (by simp) (List.nil_sublist _) ?_
  skip
  refine W.region ?_
  refine WL.abs (OpAbs.call rfl (fun m hm => three_any 2 1 0)) rfl rfl rfl ?_
  rintro m169 v169 h169
  refine WL.abs (OpAbs.lit [_, _, _, _] rfl (Nat.le_of_ble_eq_true rfl) rfl rfl (by simp [Value.cells]) (Nat.le_of_ble_eq_true rfl) rfl (by first | (simp [Value.oneCell']; done) | exact List.all_eq_true.1 rfl)) rfl rfl rfl ?_
  rintro m170 _ ⟨hc170, a170, rfl⟩
  refine WL.val (OpVal.call rfl (fun m hm => proveTN_any (h169.le (by repeat (first | exact hm.1 | replace hm := hm.2))) (threeT_sm _ _ _) ((ints_lit (xs := [0, 1, 0, 2]) hc170).le (by repeat (first | exact hm.1 | replace hm := hm.2))) bf_pt1)) rfl rfl rfl ?_
  refine WL.val (OpVal.opv rfl) rfl rfl rfl ?_
  refine WL.val (OpVal.opv rfl) rfl rfl rfl ?_
  refine WL.abs (OpAbs.call rfl (fun m hm => three_any 2 1 0)) rfl rfl rfl ?_
  rintro m174 v174 h174
  refine WL.abs (OpAbs.lit [_, _, _, _] rfl (Nat.le_of_ble_eq_true rfl) rfl rfl (by simp [Value.cells]) (Nat.le_of_ble_eq_true rfl) rfl (by first | (simp [Value.oneCell']; done) | exact List.all_eq_true.1 rfl)) rfl rfl rfl ?_
  rintro m175 _ ⟨hc175, a175, rfl⟩
  refine WL.val (OpVal.call rfl (fun m hm => proveTN_any (h174.le (by repeat (first | exact hm.1 | replace hm := hm.2))) (threeT_sm _ _ _) ((ints_lit (xs := [0, 1, 1, 2]) hc175).le (by repeat (first | exact hm.1 | replace hm := hm.2))) bf_pt2)) rfl rfl rfl ?_
  refine WL.val (OpVal.opv rfl) rfl rfl rfl ?_
  refine WL.val (OpVal.opv rfl) rfl rfl rfl ?_
  refine WL.abs (OpAbs.call rfl (fun m hm => three_any 2 1 0)) rfl rfl rfl ?_
  rintro m179 v179 h179
  refine WL.abs (OpAbs.lit [_, _, _, _] rfl (Nat.le_of_ble_eq_true rfl) rfl rfl (by simp [Value.cells]) (Nat.le_of_ble_eq_true rfl) rfl (by first | (simp [Value.oneCell']; done) | exact List.all_eq_true.1 rfl)) rfl rfl rfl ?_
  rintro m180 _ ⟨hc180, a180, rfl⟩
  refine WL.val (OpVal.call rfl (fun m hm => proveTN_any (h179.le (by repeat (first | exact hm.1 | replace hm := hm.2))) (threeT_sm _ _ _) ((ints_lit (xs := [0, 2, 0, 1]) hc180).le (by repeat (first | exact hm.1 | replace hm := hm.2))) bf_pt3)) rfl rfl rfl ?_
  refine WL.val (OpVal.opv rfl) rfl rfl rfl ?_
  refine WL.val (OpVal.opv rfl) rfl rfl rfl ?_
  refine WL.abs (OpAbs.call rfl (fun m hm => three_any 2 1 1)) rfl rfl rfl ?_
  rintro m184 v184 h184
  refine WL.abs (OpAbs.lit [_, _, _, _] rfl (Nat.le_of_ble_eq_true rfl) rfl rfl (by simp [Value.cells]) (Nat.le_of_ble_eq_true rfl) rfl (by first | (simp [Value.oneCell']; done) | exact List.all_eq_true.1 rfl)) rfl rfl rfl ?_
  rintro m185 _ ⟨hc185, a185, rfl⟩
  refine WL.val (OpVal.call rfl (fun m hm => proveTN_any (h184.le (by repeat (first | exact hm.1 | replace hm := hm.2))) (threeT_sm _ _ _) ((ints_lit (xs := [0, 1, 1, 2]) hc185).le (by repeat (first | exact hm.1 | replace hm := hm.2))) bf_pt4)) rfl rfl rfl ?_
  refine WL.val (OpVal.opv rfl) rfl rfl rfl ?_
  refine WL.val (OpVal.opv rfl) rfl rfl rfl ?_
  refine WL.val (OpVal.opv rfl) rfl rfl rfl ?_
  refine WL.abs (OpAbs.call rfl (fun m hm => three_any 2 1 0)) rfl rfl rfl ?_
  rintro m190 v190 h190
  refine WL.abs (OpAbs.call rfl (fun m hm => bestL_any)) rfl rfl rfl ?_
  rintro m191 v191 h191
  refine WL.val (OpVal.call rfl (fun m hm => proveFN_any (h190.le (by repeat (first | exact hm.1 | replace hm := hm.2))) (threeT_sm _ _ _) bf_leave2.1 (h191.le (by repeat (first | exact hm.1 | replace hm := hm.2))) bf_pf1)) rfl rfl rfl ?_
  refine WL.val (OpVal.opv rfl) rfl rfl rfl ?_
  refine WL.val (OpVal.opv rfl) rfl rfl rfl ?_
  refine WL.val (OpVal.opv rfl) rfl rfl rfl ?_
  refine WL.abs (OpAbs.call rfl (fun m hm => three_any 2 1 0)) rfl rfl rfl ?_
  rintro m196 v196 h196
  refine WL.abs (OpAbs.call rfl (fun m hm => bestL_any)) rfl rfl rfl ?_
  rintro m197 v197 h197
  refine WL.val (OpVal.call rfl (fun m hm => proveFN_any (h196.le (by repeat (first | exact hm.1 | replace hm := hm.2))) (threeT_sm _ _ _) bf_leave2.1 (h197.le (by repeat (first | exact hm.1 | replace hm := hm.2))) bf_pf2)) rfl rfl rfl ?_
  refine WL.val (OpVal.opv rfl) rfl rfl rfl ?_
  refine WL.val (OpVal.opv rfl) rfl rfl rfl ?_
  refine WL.abs (OpAbs.call rfl (fun m hm => three_any 2 1 0)) rfl rfl rfl ?_
  rintro m201 v201 h201
  refine WL.abs (OpAbs.lit [_, _, _, _] rfl (Nat.le_of_ble_eq_true rfl) rfl rfl (by simp [Value.cells]) (Nat.le_of_ble_eq_true rfl) rfl (by first | (simp [Value.oneCell']; done) | exact List.all_eq_true.1 rfl)) rfl rfl rfl ?_
  rintro m202 _ ⟨hc202, a202, rfl⟩
  refine WL.val (OpVal.call rfl (fun m hm => proveFN_any (h201.le (by repeat (first | exact hm.1 | replace hm := hm.2))) (threeT_sm _ _ _) bf_leave2.1 ((ints_lit (xs := [0, 1, 0, 2]) hc202).le (by repeat (first | exact hm.1 | replace hm := hm.2))) bf_pf3)) rfl rfl rfl ?_
  refine WL.val (OpVal.opv rfl) rfl rfl rfl ?_
  refine WL.val (OpVal.opv rfl) rfl rfl rfl ?_
  refine WL.abs (OpAbs.call rfl (fun m hm => three_any 2 1 0)) rfl rfl rfl ?_
  rintro m206 v206 h206
  refine WL.abs (OpAbs.call rfl (fun m hm => bestL_any)) rfl rfl rfl ?_
  rintro m207 v207 h207
  refine WL.val (OpVal.call rfl (fun m hm => proveFN_any (h206.le (by repeat (first | exact hm.1 | replace hm := hm.2))) (threeT_sm _ _ _) bf_leave2.1 (h207.le (by repeat (first | exact hm.1 | replace hm := hm.2))) bf_pf4)) rfl rfl rfl ?_
  refine WL.val (OpVal.opv rfl) rfl rfl rfl ?_
  refine WL.nil ?_
  refine Kseq.go ?_
  refine W.condF rfl rfl ?_
  refine W.skip (Kseq.go (W.seq ?_))
  refine W.weaken [] [mq] [] trivial (by simp) (List.nil_sublist _) ?_
  skip
  refine W.region ?_
  refine WL.abs (OpAbs.call rfl (fun m hm => three_any 4 1 0)) rfl rfl rfl ?_
  rintro m210 v210 h210
  obtain ⟨wb, pb, fb, rfl, hWb, hPb, hMb⟩ := h210
  refine WL.alloc rfl rfl rfl (fun b18 => ?_)
  (refine WL.store [wb, pb, vi 0] rfl (.head _) rfl rfl rfl (Nat.le_of_ble_eq_true rfl) (by simp [Value.cells]; exact ⟨IsArr.one hWb, IsArr.one hPb, rfl⟩) rfl ?_)
  refine WL.nil ?_
  refine Kseq.go (W.seq ?_)
  refine W.freezeBox (.head _) (fun b hb => (hF b hb).elim) fun mB hB0 => ?_
  refine W.join fun mz hz => ?_
  have hB := hB0.le (hz mB (by simp))
  have hTb : IsTable mz (.agg #[wb, pb, vi 0]) (threeT 4 1 0) := ⟨_, _, _, rfl, hWb.le (hz _ (by simp)), hPb.le (hz _ (by simp)), hMb.le (hz _ (by simp))⟩
  clear hz hB0 hWb hPb hMb
  skip
  refine W.weaken [(18, .pointer (some ⟨b18, 0, none⟩))] [mz] [] (by repeat (first | exact trivial | refine ⟨rfl, ?_⟩)) (by simp) (List.nil_sublist _) ?_
  skip
  refine W.region ?_
  refine WL.val (OpVal.loadPW rfl hB (by repeat (first | exact .head _ | refine .tail _ ?_)) rfl) rfl rfl rfl ?_
  refine WL.abs (OpAbs.lit [_, _, _] rfl (Nat.le_of_ble_eq_true rfl) rfl rfl (by simp [Value.cells]) (Nat.le_of_ble_eq_true rfl) rfl (by first | (simp [Value.oneCell']; done) | exact List.all_eq_true.1 rfl)) rfl rfl rfl ?_
  rintro m213 _ ⟨hc213, a213, rfl⟩
  (refine WL.abs (OpAbs.call rfl (fun m hm => playN_any (hTb.le (by repeat (first | exact hm.1 | replace hm := hm.2))) (threeT_sm _ _ _) ((ints_lit (xs := [0, 0, 1]) hc213).le (by repeat (first | exact hm.1 | replace hm := hm.2))) bf_play.1)) rfl rfl rfl ?_; rintro m214 _ ⟨l1, l2, rfl⟩)
  refine WL.val (OpVal.opv rfl) rfl rfl rfl ?_
  refine WL.val (OpVal.opv rfl) rfl rfl rfl ?_
  refine WL.val (OpVal.opv rfl) rfl rfl rfl ?_
  refine WL.val (OpVal.opv rfl) rfl rfl rfl ?_
  refine WL.val (OpVal.opv rfl) rfl rfl rfl ?_
  refine WL.nil ?_
  refine Kseq.go (W.seq ?_)
  skip
  refine W.region ?_
  refine WL.val (OpVal.loadPW rfl hB (by repeat (first | exact .head _ | refine .tail _ ?_)) rfl) rfl rfl rfl ?_
  refine WL.abs (OpAbs.lit [_, _, _, _] rfl (Nat.le_of_ble_eq_true rfl) rfl rfl (by simp [Value.cells]) (Nat.le_of_ble_eq_true rfl) rfl (by first | (simp [Value.oneCell']; done) | exact List.all_eq_true.1 rfl)) rfl rfl rfl ?_
  rintro m220 _ ⟨hc220, a220, rfl⟩
  (refine WL.abs (OpAbs.call rfl (fun m hm => playN_any (hTb.le (by repeat (first | exact hm.1 | replace hm := hm.2))) (threeT_sm _ _ _) ((ints_lit (xs := [0, 0, 1, 1]) hc220).le (by repeat (first | exact hm.1 | replace hm := hm.2))) bf_play.2)) rfl rfl rfl ?_; rintro m221 _ ⟨l3, l4, rfl⟩)
  refine WL.val (OpVal.opv rfl) rfl rfl rfl ?_
  refine WL.val (OpVal.opv rfl) rfl rfl rfl ?_
  refine WL.val (OpVal.opv rfl) rfl rfl rfl ?_
  refine WL.val (OpVal.opv rfl) rfl rfl rfl ?_
  refine WL.val (OpVal.opv rfl) rfl rfl rfl ?_
  refine WL.nil ?_
  refine Kseq.go (W.seq ?_)
  skip
  refine W.region ?_
  refine WL.val (OpVal.loadPW rfl hB (by repeat (first | exact .head _ | refine .tail _ ?_)) rfl) rfl rfl rfl ?_
  refine WL.val (OpVal.call rfl (fun m hm => astrayN_any (hTb.le (by repeat (first | exact hm.1 | replace hm := hm.2))) (threeT_sm _ _ _) bf_bad.1)) rfl rfl rfl ?_
  refine WL.val (OpVal.opv rfl) rfl rfl rfl ?_
  refine WL.val (OpVal.opv rfl) rfl rfl rfl ?_
  refine WL.val (OpVal.opv rfl) rfl rfl rfl ?_
  refine WL.val (OpVal.opv rfl) rfl rfl rfl ?_
  refine WL.nil ?_
  refine Kseq.go (W.seq ?_)
  skip
  refine W.region ?_
  refine WL.val (OpVal.loadPW rfl hB (by repeat (first | exact .head _ | refine .tail _ ?_)) rfl) rfl rfl rfl ?_
  (refine WL.abs (OpAbs.call rfl (fun m hm => movesE_any (hTb.le (by repeat (first | exact hm.1 | replace hm := hm.2))) (threeT_sm _ _ _) bf_bad.1)) rfl rfl rfl ?_; rintro m232 _ ⟨l5, rfl⟩)
  refine WL.val (OpVal.opv rfl) rfl rfl rfl ?_
  refine WL.val (OpVal.opv rfl) rfl rfl rfl ?_
  refine WL.val (OpVal.opv rfl) rfl rfl rfl ?_
  refine WL.val (OpVal.opv rfl) rfl rfl rfl ?_
  refine WL.nil ?_
  refine Kseq.go (W.seq ?_)
  skip
  refine W.region ?_
  refine WL.val (OpVal.loadPW rfl hB (by repeat (first | exact .head _ | refine .tail _ ?_)) rfl) rfl rfl rfl ?_
  (refine WL.abs (OpAbs.call rfl (fun m hm => missesE_any (hTb.le (by repeat (first | exact hm.1 | replace hm := hm.2))) (threeT_sm _ _ _) bf_bad.1)) rfl rfl rfl ?_; rintro m237 _ ⟨l6, rfl⟩)
  refine WL.val (OpVal.opv rfl) rfl rfl rfl ?_
  refine WL.val (OpVal.opv rfl) rfl rfl rfl ?_
  refine WL.val (OpVal.opv rfl) rfl rfl rfl ?_
  refine WL.val (OpVal.opv rfl) rfl rfl rfl ?_
  refine WL.nil ?_
  refine Kseq.go (W.seq ?_)
  skip
  refine W.region ?_
  refine WL.val (OpVal.loadPW rfl hB (by repeat (first | exact .head _ | refine .tail _ ?_)) rfl) rfl rfl rfl ?_
  refine WL.val (OpVal.call rfl (fun m hm => lookN_any (hTb.le (by repeat (first | exact hm.1 | replace hm := hm.2))) (threeT_sm _ _ _) (by decide) bf_bad.2.1)) rfl rfl rfl ?_
  refine WL.val (OpVal.opv rfl) rfl rfl rfl ?_
  refine WL.val (OpVal.opv rfl) rfl rfl rfl ?_
  refine WL.val (OpVal.opv rfl) rfl rfl rfl ?_
  refine WL.val (OpVal.opv rfl) rfl rfl rfl ?_
  refine WL.val (OpVal.opv rfl) rfl rfl rfl ?_
  refine WL.nil ?_
  refine Kseq.go (W.seq ?_)
  have hX0 : ∀ m, IsTable m (.agg #[.slice none 0 0, .slice none 0 0, vi 0]) bNone := fun m => ⟨_, _, fun _ => undef, rfl, IsArr.nil m 3 _, IsArr.nil m 2 _, fun i hi => absurd hi (Nat.not_lt_zero _)⟩
  have sm0 : Sm bNone := (smB (by decide) (by decide) (by decide))
  skip
  refine W.region ?_
  refine WL.val (OpVal.build #[.slice none 0 0, .slice none 0 0, vi 0] rfl (by kernel_rfl)) rfl rfl rfl ?_
  refine WL.val (OpVal.call rfl (fun m hm => lookN_any (hX0 m) sm0 (by decide) bf_bad.2.2)) rfl rfl rfl ?_
  refine WL.val (OpVal.opv rfl) rfl rfl rfl ?_
  refine WL.val (OpVal.opv rfl) rfl rfl rfl ?_
  refine WL.val (OpVal.opv rfl) rfl rfl rfl ?_
  refine WL.val (OpVal.opv rfl) rfl rfl rfl ?_
  refine WL.val (OpVal.opv rfl) rfl rfl rfl ?_
  refine WL.nil ?_
  refine Kseq.go (W.seq ?_)
  skip
  refine W.weaken [(3, vi 2), (5, vi 2), (7, vi 11), (9, vi 11), (11, vi 11), (13, vi 11), (15, vi 7)] [mz] [] (by repeat (first | exact trivial | refine ⟨rfl, ?_⟩)) (by simp) (List.nil_sublist _) ?_
  skip
  refine W.region ?_
  (refine WL.callM rfl rfl (M0 := []) (by simp) (Split.none _) rfl (threeW_any 2 1 0) rfl rfl rfl ?_; rintro v252 M252 a252 ⟨mA, bA, pA, fA, rfl, rfl, rfl, hPA, hMA⟩)
  refine WL.abs (OpAbs.call rfl (fun m hm => three_any 8 1 0)) rfl rfl rfl ?_
  rintro m253 v253 h253
  (refine WL.callM rfl rfl (M0 := []) (by simp) (Split.none _) rfl (threeP_any 2 1 0) rfl rfl rfl ?_; rintro v254 M254 a254 ⟨mD, bD, wD, D0, D1, D2, D3, rfl, rfl, rfl, hWD, Da, Db, Dc, Dd⟩)
  (refine WL.callM rfl rfl (M0 := []) (by simp) (Split.none _) rfl (threeP_any 2 1 0) rfl rfl rfl ?_; rintro v255 M255 a255 ⟨mE, bE, wE, E0, E1, E2, E3, rfl, rfl, rfl, hWE, Ea, Eb, Ec, Ed⟩)
  (refine WL.callM rfl rfl (M0 := []) (by simp) (Split.none _) rfl (threeP_any 2 1 0) rfl rfl rfl ?_; rintro v256 M256 a256 ⟨mG, bG, wG, G0, G1, G2, G3, rfl, rfl, rfl, hWG, Ga, Gb, Gc, Gd⟩)
  (refine WL.callM rfl rfl (M0 := []) (by simp) (Split.none _) rfl (threeP_any 2 1 0) rfl rfl rfl ?_; rintro v257 M257 a257 ⟨mH, bH, wH, H0, H1, H2, H3, rfl, rfl, rfl, hWH, Ha, Hb, Hc, Hd⟩)
  refine WL.abs (OpAbs.call rfl (fun m hm => three_any 2 1 6)) rfl rfl rfl ?_
  rintro m258 v258 h258
  refine WL.abs (OpAbs.call rfl (fun m hm => three_any 2 1 0)) rfl rfl rfl ?_
  rintro m259 v259 h259
  refine WL.abs (OpAbs.call rfl (fun m hm => three_any 2 1 0)) rfl rfl rfl ?_
  rintro m260 v260 h260
  refine WL.abs (OpAbs.call rfl (fun m hm => three_any 2 1 0)) rfl rfl rfl ?_
  rintro m261 v261 h261
  obtain ⟨wc, pc, fc, rfl, hWc, hPc, hMc⟩ := h253
  obtain ⟨wq, pq, fq, rfl, hWq, hPq, hMq⟩ := h258
  obtain ⟨wi, pi, fi, rfl, hWi, hPi, hMi⟩ := h259
  obtain ⟨wk, pk, fk, rfl, hWk, hPk, hMk⟩ := h260
  obtain ⟨wn, pn, fn, rfl, hWn, hPn, hMn⟩ := h261
  refine WL.alloc rfl rfl rfl (fun b19 => ?_)
  refine WL.alloc rfl rfl rfl (fun b20 => ?_)
  refine WL.alloc rfl rfl rfl (fun b21 => ?_)
  refine WL.alloc rfl rfl rfl (fun b22 => ?_)
  refine WL.alloc rfl rfl rfl (fun b23 => ?_)
  refine WL.alloc rfl rfl rfl (fun b24 => ?_)
  refine WL.alloc rfl rfl rfl (fun b25 => ?_)
  refine WL.alloc rfl rfl rfl (fun b26 => ?_)
  refine WL.alloc rfl rfl rfl (fun b27 => ?_)
  refine WL.alloc rfl rfl rfl (fun b28 => ?_)
  (refine WL.store [.slice (some ⟨bA, 0, none⟩) 3 3, pA, vi 0] rfl (.tail _ (.tail _ (.tail _ (.tail _ (.tail _ (.tail _ (.tail _ (.tail _ (.tail _ (.head _)))))))))) rfl rfl rfl (Nat.le_of_ble_eq_true rfl) (by simp [Value.cells, Value.oneCell']; exact IsArr.one hPA) rfl ?_)
  (refine WL.store [wc, pc, vi 0] rfl (.tail _ (.tail _ (.tail _ (.tail _ (.tail _ (.tail _ (.tail _ (.tail _ (.head _))))))))) rfl rfl rfl (Nat.le_of_ble_eq_true rfl) (by simp [Value.cells, Value.oneCell']; exact ⟨IsArr.one hWc, IsArr.one hPc⟩) rfl ?_)
  (refine WL.store [wD, .slice (some ⟨bD, 0, none⟩) 4 4, vi 0] rfl (.tail _ (.tail _ (.tail _ (.tail _ (.tail _ (.tail _ (.tail _ (.head _)))))))) rfl rfl rfl (Nat.le_of_ble_eq_true rfl) (by simp [Value.cells, Value.oneCell']; exact IsArr.one hWD) rfl ?_)
  (refine WL.store [wE, .slice (some ⟨bE, 0, none⟩) 4 4, vi 0] rfl (.tail _ (.tail _ (.tail _ (.tail _ (.tail _ (.tail _ (.head _))))))) rfl rfl rfl (Nat.le_of_ble_eq_true rfl) (by simp [Value.cells, Value.oneCell']; exact IsArr.one hWE) rfl ?_)
  (refine WL.store [wG, .slice (some ⟨bG, 0, none⟩) 4 4, vi 0] rfl (.tail _ (.tail _ (.tail _ (.tail _ (.tail _ (.head _)))))) rfl rfl rfl (Nat.le_of_ble_eq_true rfl) (by simp [Value.cells, Value.oneCell']; exact IsArr.one hWG) rfl ?_)
  (refine WL.store [wH, .slice (some ⟨bH, 0, none⟩) 4 4, vi 0] rfl (.tail _ (.tail _ (.tail _ (.tail _ (.head _))))) rfl rfl rfl (Nat.le_of_ble_eq_true rfl) (by simp [Value.cells, Value.oneCell']; exact IsArr.one hWH) rfl ?_)
  (refine WL.store [wq, pq, vi 6] rfl (.tail _ (.tail _ (.tail _ (.head _)))) rfl rfl rfl (Nat.le_of_ble_eq_true rfl) (by simp [Value.cells, Value.oneCell']; exact ⟨IsArr.one hWq, IsArr.one hPq⟩) rfl ?_)
  (refine WL.store [wi, pi, vi 0] rfl (.tail _ (.tail _ (.head _))) rfl rfl rfl (Nat.le_of_ble_eq_true rfl) (by simp [Value.cells, Value.oneCell']; exact ⟨IsArr.one hWi, IsArr.one hPi⟩) rfl ?_)
  (refine WL.store [wk, pk, vi 0] rfl (.tail _ (.head _)) rfl rfl rfl (Nat.le_of_ble_eq_true rfl) (by simp [Value.cells, Value.oneCell']; exact ⟨IsArr.one hWk, IsArr.one hPk⟩) rfl ?_)
  (refine WL.store [wn, pn, vi 0] rfl (.head _) rfl rfl rfl (Nat.le_of_ble_eq_true rfl) (by simp [Value.cells, Value.oneCell']; exact ⟨IsArr.one hWn, IsArr.one hPn⟩) rfl ?_)
  refine WL.nil ?_
  refine Kseq.go (W.seq ?_)
  skip
  refine W.region ?_
  refine WL.val (OpVal.fieldAddrB rfl) rfl rfl rfl ?_
  refine WL.val (OpVal.loadB rfl (.tail _ (.tail _ (.tail _ (.tail _ (.tail _ (.tail _ (.tail _ (.tail _ (.tail _ (.head _)))))))))) rfl) rfl rfl rfl ?_
  refine WL.val (OpVal.indexAddrR rfl rfl (.tail _ (.tail _ (.tail _ (.tail _ (.tail _ (.tail _ (.tail _ (.tail _ (.tail _ (.tail _ (.head _))))))))))) (by decide)) rfl rfl rfl ?_
  refine WL.val (OpVal.fieldAddrR rfl (.tail _ (.tail _ (.tail _ (.tail _ (.tail _ (.tail _ (.tail _ (.tail _ (.tail _ (.tail _ (.head _))))))))))) (by decide)) rfl rfl rfl ?_
  (refine WL.storeR (T := 56) (k := 3) rfl (.tail _ (.tail _ (.tail _ (.tail _ (.tail _ (.tail _ (.tail _ (.tail _ (.tail _ (.tail _ (.head _))))))))))) rfl rfl rfl (by decide) (Nat.le_of_ble_eq_true rfl) (by simp [Value.cells, Value.oneCell']) ?_)
  refine WL.nil ?_
  refine Kseq.go (W.seq ?_)
  skip
  refine W.region ?_
  refine WL.val (OpVal.fieldAddrB rfl) rfl rfl rfl ?_
  refine WL.val (OpVal.loadB rfl (.tail _ (.tail _ (.tail _ (.tail _ (.tail _ (.tail _ (.tail _ (.head _)))))))) rfl) rfl rfl rfl ?_
  refine WL.abs (OpAbs.lit [_, _] rfl (Nat.le_of_ble_eq_true rfl) rfl rfl (by simp [Value.cells]) (Nat.le_of_ble_eq_true rfl) rfl (by first | (simp [Value.oneCell']; done) | exact List.all_eq_true.1 rfl)) rfl rfl rfl ?_
  rintro m268 _ ⟨hc268, a268, rfl⟩
  refine WL.val (OpVal.indexAddrR rfl rfl (.tail _ (.tail _ (.tail _ (.tail _ (.tail _ (.tail _ (.tail _ (.tail _ (.tail _ (.tail _ (.tail _ (.head _)))))))))))) (by decide)) rfl rfl rfl ?_
  refine WL.val (OpVal.fieldAddrR rfl (.tail _ (.tail _ (.tail _ (.tail _ (.tail _ (.tail _ (.tail _ (.tail _ (.tail _ (.tail _ (.tail _ (.head _)))))))))))) (by decide)) rfl rfl rfl ?_
  (refine WL.storeR (T := 53) (k := 2) rfl (.tail _ (.tail _ (.tail _ (.tail _ (.tail _ (.tail _ (.tail _ (.tail _ (.tail _ (.tail _ (.tail _ (.head _)))))))))))) rfl rfl rfl (by decide) (Nat.le_of_ble_eq_true rfl) (by simp [Value.cells, Value.oneCell']) ?_)
  refine WL.nil ?_
  refine Kseq.go (W.seq ?_)
  skip
  refine W.region ?_
  refine WL.val (OpVal.fieldAddrB rfl) rfl rfl rfl ?_
  refine WL.val (OpVal.loadB rfl (.tail _ (.tail _ (.tail _ (.tail _ (.tail _ (.tail _ (.head _))))))) rfl) rfl rfl rfl ?_
  refine WL.abs (OpAbs.lit [_, _] rfl (Nat.le_of_ble_eq_true rfl) rfl rfl (by simp [Value.cells]) (Nat.le_of_ble_eq_true rfl) rfl (by first | (simp [Value.oneCell']; done) | exact List.all_eq_true.1 rfl)) rfl rfl rfl ?_
  rintro m273 _ ⟨hc273, a273, rfl⟩
  refine WL.val (OpVal.indexAddrR rfl rfl (.tail _ (.tail _ (.tail _ (.tail _ (.tail _ (.tail _ (.tail _ (.tail _ (.tail _ (.tail _ (.tail _ (.tail _ (.head _))))))))))))) (by decide)) rfl rfl rfl ?_
  refine WL.val (OpVal.fieldAddrR rfl (.tail _ (.tail _ (.tail _ (.tail _ (.tail _ (.tail _ (.tail _ (.tail _ (.tail _ (.tail _ (.tail _ (.tail _ (.head _))))))))))))) (by decide)) rfl rfl rfl ?_
  (refine WL.storeR (T := 53) (k := 2) rfl (.tail _ (.tail _ (.tail _ (.tail _ (.tail _ (.tail _ (.tail _ (.tail _ (.tail _ (.tail _ (.tail _ (.tail _ (.head _))))))))))))) rfl rfl rfl (by decide) (Nat.le_of_ble_eq_true rfl) (by simp [Value.cells, Value.oneCell']) ?_)
  refine WL.nil ?_
  refine Kseq.go (W.seq ?_)
  skip
  refine W.region ?_
  refine WL.val (OpVal.fieldAddrB rfl) rfl rfl rfl ?_
  refine WL.val (OpVal.loadB rfl (.tail _ (.tail _ (.tail _ (.tail _ (.tail _ (.head _)))))) rfl) rfl rfl rfl ?_
  refine WL.abs (OpAbs.lit [_] rfl (Nat.le_of_ble_eq_true rfl) rfl rfl (by simp [Value.cells]) (Nat.le_of_ble_eq_true rfl) rfl (by first | (simp [Value.oneCell']; done) | exact List.all_eq_true.1 rfl)) rfl rfl rfl ?_
  rintro m278 _ ⟨hc278, a278, rfl⟩
  refine WL.val (OpVal.indexAddrR rfl rfl (.tail _ (.tail _ (.tail _ (.tail _ (.tail _ (.tail _ (.tail _ (.tail _ (.tail _ (.tail _ (.tail _ (.tail _ (.tail _ (.head _)))))))))))))) (by decide)) rfl rfl rfl ?_
  refine WL.val (OpVal.fieldAddrR rfl (.tail _ (.tail _ (.tail _ (.tail _ (.tail _ (.tail _ (.tail _ (.tail _ (.tail _ (.tail _ (.tail _ (.tail _ (.tail _ (.head _)))))))))))))) (by decide)) rfl rfl rfl ?_
  (refine WL.storeR (T := 53) (k := 2) rfl (.tail _ (.tail _ (.tail _ (.tail _ (.tail _ (.tail _ (.tail _ (.tail _ (.tail _ (.tail _ (.tail _ (.tail _ (.tail _ (.head _)))))))))))))) rfl rfl rfl (by decide) (Nat.le_of_ble_eq_true rfl) (by simp [Value.cells, Value.oneCell']) ?_)
  refine WL.nil ?_
  refine Kseq.go (W.seq ?_)
  skip
  refine W.region ?_
  refine WL.val (OpVal.fieldAddrB rfl) rfl rfl rfl ?_
  refine WL.val (OpVal.loadB rfl (.tail _ (.tail _ (.tail _ (.tail _ (.head _))))) rfl) rfl rfl rfl ?_
  refine WL.val (OpVal.indexAddrR rfl rfl (.tail _ (.tail _ (.tail _ (.tail _ (.tail _ (.tail _ (.tail _ (.tail _ (.tail _ (.tail _ (.tail _ (.tail _ (.tail _ (.tail _ (.head _))))))))))))))) (by decide)) rfl rfl rfl ?_
  refine WL.val (OpVal.fieldAddrR rfl (.tail _ (.tail _ (.tail _ (.tail _ (.tail _ (.tail _ (.tail _ (.tail _ (.tail _ (.tail _ (.tail _ (.tail _ (.tail _ (.tail _ (.head _))))))))))))))) (by decide)) rfl rfl rfl ?_
  (refine WL.storeR (T := 53) (k := 2) rfl (.tail _ (.tail _ (.tail _ (.tail _ (.tail _ (.tail _ (.tail _ (.tail _ (.tail _ (.tail _ (.tail _ (.tail _ (.tail _ (.tail _ (.head _))))))))))))))) rfl rfl rfl (by decide) (Nat.le_of_ble_eq_true rfl) (by simp [Value.cells, Value.oneCell']) ?_)
  refine WL.nil ?_
  refine Kseq.go (W.seq ?_)
  skip
  refine W.region ?_
  refine WL.abs (OpAbs.make rfl rfl (by decide) (by decide) (by rw [made_wo]; intro u hu; rw [List.eq_of_mem_replicate hu]; rfl)) rfl rfl rfl ?_
  rintro m285 v285 h285
  refine WL.val (OpVal.fieldAddrB rfl) rfl rfl rfl ?_
  (obtain ⟨hq30, bq30, rfl⟩ := h285; refine WL.store [_, _, _] rfl (.tail _ (.tail _ (.head _))) rfl rfl rfl (Nat.le_of_ble_eq_true rfl) (by simp [Value.cells, Value.oneCell']) rfl ?_)
  refine WL.nil ?_
  refine Kseq.go (W.seq ?_)
  skip
  refine W.region ?_
  refine WL.abs (OpAbs.make rfl rfl (by decide) (by decide) (by rw [made_pi]; exact flat2_one (fun u hu => by rw [List.eq_of_mem_replicate hu]; rfl))) rfl rfl rfl ?_
  rintro m287 v287 h287
  refine WL.val (OpVal.fieldAddrB rfl) rfl rfl rfl ?_
  (obtain ⟨hq31, bq31, rfl⟩ := h287; refine WL.store [_, _, _] rfl (.tail _ (.head _)) rfl rfl rfl (Nat.le_of_ble_eq_true rfl) (by simp [Value.cells, Value.oneCell']) rfl ?_)
  refine WL.nil ?_
  refine Kseq.go (W.seq ?_)
  refine W.freezeBox (.tail _ (.head _)) (fun b hb => (hF b hb).elim) fun n27 hb27 => ?_
  refine W.freezeBox (.tail _ (.head _)) (fun b hb => (hF b hb).elim) fun n26 hb26 => ?_
  refine W.freezeBox (.tail _ (.head _)) (fun b hb => (hF b hb).elim) fun n25 hb25 => ?_
  refine W.freezeBox (.tail _ (.head _)) (fun b hb => (hF b hb).elim) fun n24 hb24 => ?_
  refine W.freezeBox (.tail _ (.head _)) (fun b hb => (hF b hb).elim) fun n23 hb23 => ?_
  refine W.freezeBox (.tail _ (.head _)) (fun b hb => (hF b hb).elim) fun n22 hb22 => ?_
  refine W.freezeBox (.tail _ (.head _)) (fun b hb => (hF b hb).elim) fun n21 hb21 => ?_
  refine W.freezeBox (.tail _ (.head _)) (fun b hb => (hF b hb).elim) fun n20 hb20 => ?_
  refine W.freezeBox (.tail _ (.head _)) (fun b hb => (hF b hb).elim) fun n19 hb19 => ?_
  refine W.freezeRow (.tail _ (.head _)) (fun b hb => (hF b hb).elim) (by show ∀ u ∈ ([vi 10, vi 2, vi 2, vi 1, vi 1, vi 2, vi 2, vi 1, vi 1] : List Value), u.oneCell' = true; intro u hu; simp only [List.mem_cons, List.not_mem_nil, or_false] at hu; rcases hu with rfl | rfl | rfl | rfl | rfl | rfl | rfl | rfl | rfl <;> first | rfl) fun rA hrA => ?_
  refine W.freezeRow (.tail _ (.head _)) (fun b hb => (hF b hb).elim) (by show ∀ u ∈ ([.slice (some ⟨a268, 0, none⟩) 2 2, vi 0, D1, vi 0, D2, vi 1, D3, vi 1] : List Value), u.oneCell' = true; intro u hu; simp only [List.mem_cons, List.not_mem_nil, or_false] at hu; rcases hu with rfl | rfl | rfl | rfl | rfl | rfl | rfl | rfl <;> first | rfl | exact IsArr.one Da | exact IsArr.one Db | exact IsArr.one Dc | exact IsArr.one Dd) fun rD hrD => ?_
  refine W.freezeRow (.tail _ (.head _)) (fun b hb => (hF b hb).elim) (by show ∀ u ∈ ([.slice (some ⟨a273, 0, none⟩) 2 2, vi 0, E1, vi 0, E2, vi 1, E3, vi 1] : List Value), u.oneCell' = true; intro u hu; simp only [List.mem_cons, List.not_mem_nil, or_false] at hu; rcases hu with rfl | rfl | rfl | rfl | rfl | rfl | rfl | rfl <;> first | rfl | exact IsArr.one Ea | exact IsArr.one Eb | exact IsArr.one Ec | exact IsArr.one Ed) fun rE hrE => ?_
  refine W.freezeRow (.tail _ (.head _)) (fun b hb => (hF b hb).elim) (by show ∀ u ∈ ([.slice (some ⟨a278, 0, none⟩) 1 1, vi 0, G1, vi 0, G2, vi 1, G3, vi 1] : List Value), u.oneCell' = true; intro u hu; simp only [List.mem_cons, List.not_mem_nil, or_false] at hu; rcases hu with rfl | rfl | rfl | rfl | rfl | rfl | rfl | rfl <;> first | rfl | exact IsArr.one Ga | exact IsArr.one Gb | exact IsArr.one Gc | exact IsArr.one Gd) fun rG hrG => ?_
  refine W.freezeRow (.tail _ (.head _)) (fun b hb => (hF b hb).elim) (by show ∀ u ∈ ([H0, vi 3, H1, vi 0, H2, vi 1, H3, vi 1] : List Value), u.oneCell' = true; intro u hu; simp only [List.mem_cons, List.not_mem_nil, or_false] at hu; rcases hu with rfl | rfl | rfl | rfl | rfl | rfl | rfl | rfl <;> first | rfl | exact IsArr.one Ha | exact IsArr.one Hb | exact IsArr.one Hc | exact IsArr.one Hd) fun rH hrH => ?_
  refine W.join fun my hy => ?_
  have hy19 := hb19.le (hy n19 (by simp))
  have hy20 := hb20.le (hy n20 (by simp))
  have hy21 := hb21.le (hy n21 (by simp))
  have hy22 := hb22.le (hy n22 (by simp))
  have hy23 := hb23.le (hy n23 (by simp))
  have hy24 := hb24.le (hy n24 (by simp))
  have hy25 := hb25.le (hy n25 (by simp))
  have hy26 := hb26.le (hy n26 (by simp))
  have hy27 := hb27.le (hy n27 (by simp))
  have hWA : IsWomen my (.slice (some ⟨bA, 0, none⟩) 3 3) bMark.women := by
    refine IsArr.le (m := rA) ?_ (hy _ (by simp))
    refine (hrA).congr fun i j hi hj' => ?_
    have h0 : i < 3 := hi
    have h1 : i = 0 ∨ i = 1 ∨ i = 2 := by omega
    have h2 : j = 0 ∨ j = 1 ∨ j = 2 := by omega
    rcases h1 with rfl | rfl | rfl <;> rcases h2 with rfl | rfl | rfl <;> rfl
  have hPD : IsPieces my (.slice (some ⟨bD, 0, none⟩) 4 4) (fun i => [.slice (some ⟨a268, 0, none⟩) 2 2, D1, D2, D3].getD i undef) bReading.pieces := by
    refine IsArr.le (m := rD) ?_ (hy _ (by simp))
    refine (hrD).congr fun i j hi hj' => ?_
    have h0 : i < 4 := hi
    have h1 : i = 0 ∨ i = 1 ∨ i = 2 ∨ i = 3 := by omega
    have h2 : j = 0 ∨ j = 1 := by omega
    rcases h1 with rfl | rfl | rfl | rfl <;> rcases h2 with rfl | rfl <;> rfl
  have hMD : IsMarks my (fun i => [.slice (some ⟨a268, 0, none⟩) 2 2, D1, D2, D3].getD i undef) bReading.pieces := four_marks rfl rfl ((ints_lit (xs := [1, 10]) hc268).le (hy _ (by simp))) (Db.le (hy _ (by simp))) (Dc.le (hy _ (by simp))) (Dd.le (hy _ (by simp)))
  have hPE : IsPieces my (.slice (some ⟨bE, 0, none⟩) 4 4) (fun i => [.slice (some ⟨a273, 0, none⟩) 2 2, E1, E2, E3].getD i undef) bOrder.pieces := by
    refine IsArr.le (m := rE) ?_ (hy _ (by simp))
    refine (hrE).congr fun i j hi hj' => ?_
    have h0 : i < 4 := hi
    have h1 : i = 0 ∨ i = 1 ∨ i = 2 ∨ i = 3 := by omega
    have h2 : j = 0 ∨ j = 1 := by omega
    rcases h1 with rfl | rfl | rfl | rfl <;> rcases h2 with rfl | rfl <;> rfl
  have hME : IsMarks my (fun i => [.slice (some ⟨a273, 0, none⟩) 2 2, E1, E2, E3].getD i undef) bOrder.pieces := four_marks rfl rfl ((ints_lit (xs := [2, 1]) hc273).le (hy _ (by simp))) (Eb.le (hy _ (by simp))) (Ec.le (hy _ (by simp))) (Ed.le (hy _ (by simp)))
  have hPG : IsPieces my (.slice (some ⟨bG, 0, none⟩) 4 4) (fun i => [.slice (some ⟨a278, 0, none⟩) 1 1, G1, G2, G3].getD i undef) bLost.pieces := by
    refine IsArr.le (m := rG) ?_ (hy _ (by simp))
    refine (hrG).congr fun i j hi hj' => ?_
    have h0 : i < 4 := hi
    have h1 : i = 0 ∨ i = 1 ∨ i = 2 ∨ i = 3 := by omega
    have h2 : j = 0 ∨ j = 1 := by omega
    rcases h1 with rfl | rfl | rfl | rfl <;> rcases h2 with rfl | rfl <;> rfl
  have hMG : IsMarks my (fun i => [.slice (some ⟨a278, 0, none⟩) 1 1, G1, G2, G3].getD i undef) bLost.pieces := four_marks rfl rfl ((ints_lit (xs := [3]) hc278).le (hy _ (by simp))) (Gb.le (hy _ (by simp))) (Gc.le (hy _ (by simp))) (Gd.le (hy _ (by simp)))
  have hPH : IsPieces my (.slice (some ⟨bH, 0, none⟩) 4 4) (fun i => [H0, H1, H2, H3].getD i undef) bLies.pieces := by
    refine IsArr.le (m := rH) ?_ (hy _ (by simp))
    refine (hrH).congr fun i j hi hj' => ?_
    have h0 : i < 4 := hi
    have h1 : i = 0 ∨ i = 1 ∨ i = 2 ∨ i = 3 := by omega
    have h2 : j = 0 ∨ j = 1 := by omega
    rcases h1 with rfl | rfl | rfl | rfl <;> rcases h2 with rfl | rfl <;> rfl
  have hMH : IsMarks my (fun i => [H0, H1, H2, H3].getD i undef) bLies.pieces := four_marks rfl rfl (Ha.le (hy _ (by simp))) (Hb.le (hy _ (by simp))) (Hc.le (hy _ (by simp))) (Hd.le (hy _ (by simp)))
  have hq30' : IsArr m285 3 (.slice (some ⟨bq30, 0, none⟩) 6 6) 6 (fun i j => (List.replicate 18 (vi 0)).getD (i * 3 + j) undef) := made_wo 18 ▸ hq30.2
  have hq31' : IsArr m287 2 (.slice (some ⟨bq31, 0, none⟩) 8 8) 8 (fun i j => (flat2 (List.replicate 8 (.slice none 0 0))).getD (i * 2 + j) undef) := made_pi 8 ▸ hq31.2
  have hW6 : IsWomen my (.slice (some ⟨bq30, 0, none⟩) 6 6) bWomen.women := by
    refine IsArr.le (m := m285) ?_ (hy _ (by simp))
    refine (hq30').congr fun i j hi hj' => ?_
    have h0 : i < 6 := hi
    have h1 : i = 0 ∨ i = 1 ∨ i = 2 ∨ i = 3 ∨ i = 4 ∨ i = 5 := by omega
    have h2 : j = 0 ∨ j = 1 ∨ j = 2 := by omega
    rcases h1 with rfl | rfl | rfl | rfl | rfl | rfl <;> rcases h2 with rfl | rfl | rfl <;> rfl
  have hP8 : IsPieces my (.slice (some ⟨bq31, 0, none⟩) 8 8) (fun _ => .slice none 0 0) bPieces.pieces := by
    refine IsArr.le (m := m287) ?_ (hy _ (by simp))
    refine (hq31').congr fun i j hi hj' => ?_
    have h0 : i < 8 := hi
    have h1 : i = 0 ∨ i = 1 ∨ i = 2 ∨ i = 3 ∨ i = 4 ∨ i = 5 ∨ i = 6 ∨ i = 7 := by omega
    have h2 : j = 0 ∨ j = 1 := by omega
    rcases h1 with rfl | rfl | rfl | rfl | rfl | rfl | rfl | rfl <;> rcases h2 with rfl | rfl <;> rfl
  have hM8 : IsMarks my (fun _ => .slice none 0 0) bPieces.pieces := by
    intro i hi
    have h1 : i = 0 ∨ i = 1 ∨ i = 2 ∨ i = 3 ∨ i = 4 ∨ i = 5 ∨ i = 6 ∨ i = 7 := by simp [bPieces] at hi; omega
    rcases h1 with rfl | rfl | rfl | rfl | rfl | rfl | rfl | rfl <;> exact IsArr.nil my 1 _
  have hX19 : IsTable my (.agg #[.slice (some ⟨bA, 0, none⟩) 3 3, pA, vi 0]) bMark := ⟨_, _, _, rfl, hWA, hPA.le (hy _ (by simp)), hMA.le (hy _ (by simp))⟩
  have hX20 : IsTable my (.agg #[wc, pc, vi 0]) (threeT 8 1 0) := ⟨_, _, _, rfl, hWc.le (hy _ (by simp)), hPc.le (hy _ (by simp)), hMc.le (hy _ (by simp))⟩
  have hX21 : IsTable my (.agg #[wD, .slice (some ⟨bD, 0, none⟩) 4 4, vi 0]) bReading := ⟨_, _, _, rfl, hWD.le (hy _ (by simp)), hPD, hMD⟩
  have hX22 : IsTable my (.agg #[wE, .slice (some ⟨bE, 0, none⟩) 4 4, vi 0]) bOrder := ⟨_, _, _, rfl, hWE.le (hy _ (by simp)), hPE, hME⟩
  have hX23 : IsTable my (.agg #[wG, .slice (some ⟨bG, 0, none⟩) 4 4, vi 0]) bLost := ⟨_, _, _, rfl, hWG.le (hy _ (by simp)), hPG, hMG⟩
  have hX24 : IsTable my (.agg #[wH, .slice (some ⟨bH, 0, none⟩) 4 4, vi 0]) bLies := ⟨_, _, _, rfl, hWH.le (hy _ (by simp)), hPH, hMH⟩
  have hX25 : IsTable my (.agg #[wq, pq, vi 6]) (threeT 2 1 6) := ⟨_, _, _, rfl, hWq.le (hy _ (by simp)), hPq.le (hy _ (by simp)), hMq.le (hy _ (by simp))⟩
  have hX26 : IsTable my (.agg #[.slice (some ⟨bq30, 0, none⟩) 6 6, pi, vi 0]) bWomen := ⟨_, _, _, rfl, hW6, hPi.le (hy _ (by simp)), hMi.le (hy _ (by simp))⟩
  have hX27 : IsTable my (.agg #[wk, .slice (some ⟨bq31, 0, none⟩) 8 8, vi 0]) bPieces := ⟨_, _, _, rfl, hWk.le (hy _ (by simp)), hP8, hM8⟩
  clear hy
  skip
  let l1 : List (Nat × Value) := [(3, vi 2), (5, vi 2), (7, vi 11), (9, vi 11), (11, vi 11), (13, vi 11), (15, vi 7), (19, .pointer (some ⟨b19, 0, none⟩)), (20, .pointer (some ⟨b20, 0, none⟩)), (21, .pointer (some ⟨b21, 0, none⟩)), (22, .pointer (some ⟨b22, 0, none⟩)), (23, .pointer (some ⟨b23, 0, none⟩)), (24, .pointer (some ⟨b24, 0, none⟩)), (25, .pointer (some ⟨b25, 0, none⟩)), (26, .pointer (some ⟨b26, 0, none⟩)), (27, .pointer (some ⟨b27, 0, none⟩)), (28, .pointer (some ⟨b28, 0, none⟩))]
  refine W.weaken l1 [my] [.blk b28 #[wn, pn, vi 0] 43] (by repeat (first | exact trivial | refine ⟨rfl, ?_⟩)) (by simp) (.refl _) ?_
  refine W.drawY (γ := Rows2) .n 4 [0, 1, 3] (Rows2.L 289 290 3 7 l1) (fun _ => [my]) (Rows2.M (fun x => .row 56 3 (.slice (some ⟨x, 0, none⟩) 3 3) 3 (madeCells (Value.agg #[vi 0, vi 0, vi 0]).cells (3 * 3)).toList) (fun y => .row 53 2 (.slice (some ⟨y, 0, none⟩) 7 7) 7 (madeCells (Value.agg #[.slice none 0 0, vi 0]).cells (7 * 2)).toList) (.blk b28 #[wn, pn, vi 0] 43) (fun x => .blk b28 #[.slice (some ⟨x, 0, none⟩) 3 3, pn, vi 0] 43)) (Rows2.tn 0 1 3) (by kernel_rfl) (by kernel_rfl) (by kernel_rfl) (fun _ _ => rfl) (fun g => by cases g <;> rfl) rfl rfl rfl ?_
  refine DJY.eff [] trivial rfl rfl [] trivial (fun g ha hn => ?_) ?_
  · cases g with
    | n => exact ⟨rfl, fun M2 hM2 => by refine WL.make rfl rfl (by decide) (by decide) rfl rfl rfl (fun bx => ?_); exact WL.nil ⟨.a bx, (by intro q hq; simp at hq; rcases hq with rfl | rfl | rfl <;> rfl), (Keff.intro (by repeat (first | exact trivial | refine ⟨rfl, ?_⟩)) (fun x hx => (List.mem_append.1 hx).elim (fun h => h) (hM2 x)) (.refl _))⟩⟩
    | a x => exact Bool.noConfusion (show true = false from hn)
    | b y => exact ⟨rfl, fun M2 hM2 => by refine WL.make rfl rfl (by decide) (by decide) rfl rfl rfl (fun bx => ?_); refine WL.swap rfl ?_; exact WL.nil ⟨.ab bx y, (by intro q hq; simp at hq; rcases hq with rfl | rfl | rfl <;> rfl), (Keff.intro (by repeat (first | exact trivial | refine ⟨rfl, ?_⟩)) (fun x hx => (List.mem_append.1 hx).elim (fun h => h) (hM2 x)) (.refl _))⟩⟩
    | ab x y => exact Bool.noConfusion (show true = false from hn)
    | s x => exact Bool.noConfusion (show true = false from hn)
    | sb x y => exact Bool.noConfusion (show true = false from hn)
  refine DJY.eff [] trivial rfl rfl [] trivial (fun g ha hn => ?_) ?_
  · cases g with
    | n => exact ⟨rfl, fun M2 hM2 => by refine WL.make rfl rfl (by decide) (by decide) rfl rfl rfl (fun bx => ?_); exact WL.nil ⟨.b bx, (by intro q hq; simp at hq; rcases hq with rfl | rfl | rfl <;> rfl), (Keff.intro (by repeat (first | exact trivial | refine ⟨rfl, ?_⟩)) (fun x hx => (List.mem_append.1 hx).elim (fun h => h) (hM2 x)) (.refl _))⟩⟩
    | a x => exact ⟨rfl, fun M2 hM2 => by refine WL.make rfl rfl (by decide) (by decide) rfl rfl rfl (fun bx => ?_); exact WL.nil ⟨.ab x bx, (by intro q hq; simp at hq; rcases hq with rfl | rfl | rfl <;> rfl), (Keff.intro (by repeat (first | exact trivial | refine ⟨rfl, ?_⟩)) (fun x hx => (List.mem_append.1 hx).elim (fun h => h) (hM2 x)) (.refl _))⟩⟩
    | b y => exact Bool.noConfusion (show true = false from hn)
    | ab x y => exact Bool.noConfusion (show true = false from hn)
    | s x => exact ⟨rfl, fun M2 hM2 => by refine WL.make rfl rfl (by decide) (by decide) rfl rfl rfl (fun bx => ?_); exact WL.nil ⟨.sb x bx, (by intro q hq; simp at hq; rcases hq with rfl | rfl | rfl <;> rfl), (Keff.intro (by repeat (first | exact trivial | refine ⟨rfl, ?_⟩)) (fun x hx => (List.mem_append.1 hx).elim (fun h => h) (hM2 x)) (.refl _))⟩⟩
    | sb x y => exact Bool.noConfusion (show true = false from hn)
  refine DJY.val [] (v := .pointer (some ⟨b28, 0, none⟩)) (fun g _ => by cases g <;> exact OpVal.cast (OpVal.fieldAddrB (off := 0) rfl) rfl) (fun g _ => by cases g <;> rfl) rfl rfl (fun g => by cases g <;> rfl) rfl ?_
  refine DJY.eff [(291, _)] ⟨rfl, trivial⟩ rfl rfl [] trivial (fun g ha hn => ?_) ?_
  · cases g with
    | n => exact Bool.noConfusion (show false = true from ha)
    | a x => exact ⟨rfl, fun M2 hM2 => by refine WL.store [.slice (some ⟨x, 0, none⟩) 3 3, pn, vi 0] rfl (.tail _ (.head _)) rfl rfl rfl (Nat.le_of_ble_eq_true rfl) (by simp [Value.cells, Value.oneCell']) rfl ?_; exact WL.nil ⟨.s x, (by intro q hq; simp at hq; rcases hq with rfl | rfl | rfl <;> rfl), (Keff.intro (by repeat (first | exact trivial | refine ⟨rfl, ?_⟩)) (fun x hx => (List.mem_append.1 hx).elim (fun h => h) (hM2 x)) (.refl _))⟩⟩
    | b y => exact Bool.noConfusion (show false = true from ha)
    | ab x y => exact ⟨rfl, fun M2 hM2 => by refine WL.store [.slice (some ⟨x, 0, none⟩) 3 3, pn, vi 0] rfl (.tail _ (.tail _ (.head _))) rfl rfl rfl (Nat.le_of_ble_eq_true rfl) (by simp [Value.cells, Value.oneCell']) rfl ?_; exact WL.nil ⟨.sb x y, (by intro q hq; simp at hq; rcases hq with rfl | rfl | rfl <;> rfl), (Keff.intro (by repeat (first | exact trivial | refine ⟨rfl, ?_⟩)) (fun x hx => (List.mem_append.1 hx).elim (fun h => h) (hM2 x)) (.refl _))⟩⟩
    | s x => exact Bool.noConfusion (show true = false from hn)
    | sb x y => exact Bool.noConfusion (show true = false from hn)
  refine DJY.nil (fun g hg => ?_)
  cases g with
  | n => exact Bool.noConfusion (show false = true from hg 3 (by simp))
  | a x => exact Bool.noConfusion (show false = true from hg 3 (by simp))
  | b y => exact Bool.noConfusion (show false = true from hg 3 (by simp))
  | ab x y => exact Bool.noConfusion (show false = true from hg 3 (by simp))
  | s x => exact Bool.noConfusion (show false = true from hg 1 (by simp))
  | sb bw bp =>
  refine WL.val (OpVal.fieldAddrB rfl) rfl rfl rfl ?_
  refine WL.store [.slice (some ⟨bw, 0, none⟩) 3 3, .slice (some ⟨bp, 0, none⟩) 7 7, vi 0] rfl (.tail _ (.tail _ (.head _))) rfl rfl rfl (Nat.le_of_ble_eq_true rfl) (by simp [Value.cells, Value.oneCell']) rfl ?_
  refine WL.nil ?_
  refine Kseq.go (W.seq (W.seq ?_))
  refine W.freezeRow (T := 56) (k := 3) (v := .slice (some ⟨bw, 0, none⟩) 3 3) (N := 3) (xs := (madeCells (Value.agg #[vi 0, vi 0, vi 0]).cells (3 * 3)).toList) (.tail _ (.head _)) (fun b hb => (hF b hb).elim) (by rw [made_wo]; intro u hu; rw [List.eq_of_mem_replicate hu]; rfl) fun mw hmw => ?_
  refine W.join fun mv hv => ?_
  have hvy := hv my (by simp)
  have hvw := hv mw (by simp)
  clear hv
  skip
  refine W.weaken l1 [mv] [.row 53 2 (.slice (some ⟨bp, 0, none⟩) 7 7) 7 (flat2 (List.replicate 7 (.slice none 0 0))), .blk b28 #[.slice (some ⟨bw, 0, none⟩) 3 3, .slice (some ⟨bp, 0, none⟩) 7 7, vi 0] 43] (by repeat (first | exact trivial | refine ⟨rfl, ?_⟩)) (by simp) (sub_eq (by rw [← made_pi])) ?_
  skip
  refine W.region ?_
  refine WL.val (OpVal.opv rfl) rfl rfl rfl ?_
  refine WL.nil ?_
  refine Kseq.go (W.block ?_)
  refine W.loop (σ := Nat × List Value × Mem) (fun s => [(3, vi 2), (5, vi 2), (7, vi 11), (9, vi 11), (11, vi 11), (13, vi 11), (15, vi 7), (19, .pointer (some ⟨b19, 0, none⟩)), (20, .pointer (some ⟨b20, 0, none⟩)), (21, .pointer (some ⟨b21, 0, none⟩)), (22, .pointer (some ⟨b22, 0, none⟩)), (23, .pointer (some ⟨b23, 0, none⟩)), (24, .pointer (some ⟨b24, 0, none⟩)), (25, .pointer (some ⟨b25, 0, none⟩)), (26, .pointer (some ⟨b26, 0, none⟩)), (27, .pointer (some ⟨b27, 0, none⟩)), (28, .pointer (some ⟨b28, 0, none⟩)), (29, vi (s.1 : Int))]) (fun s => [s.2.2]) (fun s => [.row 53 2 (.slice (some ⟨bp, 0, none⟩) 7 7) 7 (flat2 s.2.1), .blk b28 #[.slice (some ⟨bw, 0, none⟩) 3 3, .slice (some ⟨bp, 0, none⟩) 7 7, vi 0] 43]) (fun s => s.1 ≤ 7 ∧ s.2.1.length = 7 ∧ MLe mv s.2.2 ∧ (∀ i, i < s.1 → IsInts s.2.2 (s.2.1.getD i undef) [0]) ∧ ∀ u ∈ s.2.1, u.oneCell' = true) (fun s => 7 - s.1) (0, List.replicate 7 (.slice none 0 0), mv) (by repeat (first | exact trivial | refine ⟨rfl, ?_⟩)) (by simp) (.refl _) ⟨Nat.zero_le _, rfl, MLe.refl _, fun i hi => absurd hi (Nat.not_lt_zero _), fun u hu => by rw [List.eq_of_mem_replicate hu]; rfl⟩ ?_
  rintro ⟨k, us, m⟩ ⟨hk, hul, hum, hui, huo⟩
  dsimp only at hk hul hum hui huo ⊢
  refine W.seq (W.seq ?_)
  refine W.region ?_
  refine WL.val (OpVal.opv rfl) rfl rfl rfl ?_
  refine WL.val (OpVal.opv rfl) rfl rfl rfl ?_
  refine WL.nil ?_
  refine Kseq.go ?_
  refine W.condD rfl rfl (fun hlt => ?_) (fun hge => ?_)
  · have hk7 : k < 7 := by omega
    refine W.skip (Kseq.go (W.seq (W.block ?_)))
    refine W.region ?_
    refine WL.val (OpVal.fieldAddrB rfl) rfl rfl rfl ?_
    refine WL.val (OpVal.loadB rfl (.tail _ (.head _)) rfl) rfl rfl rfl ?_
    refine WL.val (OpVal.opv rfl) rfl rfl rfl ?_
    refine WL.abs (OpAbs.lit [_] rfl (Nat.le_of_ble_eq_true rfl) rfl rfl (by simp [Value.cells]) (Nat.le_of_ble_eq_true rfl) rfl (by first | (simp [Value.oneCell']; done) | exact List.all_eq_true.1 rfl)) rfl rfl rfl ?_
    rintro m300 _ ⟨hc300, a300, rfl⟩
    refine WL.val (OpVal.indexAddrR rfl rfl (.head _) hk7) rfl rfl rfl ?_
    refine WL.val (OpVal.fieldAddrR rfl (.head _) hk7) rfl rfl rfl ?_
    (have est := flat2_set (.slice (some ⟨a300, 0, none⟩) 1 1) us k (by omega); refine WL.storeR (T := 53) (k := 2) (xs := flat2 us) (μ' := [.row 53 2 (.slice (some ⟨bp, 0, none⟩) 7 7) 7 (flat2 (us.set k (.slice (some ⟨a300, 0, none⟩) 1 1))), .blk b28 #[.slice (some ⟨bw, 0, none⟩) 3 3, .slice (some ⟨bp, 0, none⟩) 7 7, vi 0] 43]) rfl (by rw [← est]; exact .head _) rfl rfl rfl hk7 (Nat.le_of_ble_eq_true rfl) (by simp [Value.cells, Value.oneCell']) ?_)
    refine WL.nil ?_
    refine Kblock.normal (Kseq.go ?_)
    refine W.join fun mq hq => ?_
    have h300 : IsInts mq (.slice (some ⟨a300, 0, none⟩) 1 1) [0] := (ints_lit (xs := [0]) hc300).le (hq _ (by simp))
    have hmq := hq m (by simp)
    skip
    refine W.region ?_
    refine WL.val (OpVal.opv rfl) rfl rfl rfl ?_
    refine WL.val (OpVal.incr rfl (by omega)) rfl rfl rfl ?_
    refine WL.val (OpVal.opv rfl) rfl rfl rfl ?_
    refine WL.nil ?_
    skip
    refine Kloop.next (k + 1, us.set k (.slice (some ⟨a300, 0, none⟩) 1 1), mq) ⟨hk7, by rw [List.length_set]; exact hul, hum.trans hmq, fun i hi => ?_, fun u hu => ?_⟩ (show 7 - (k + 1) < 7 - k by omega) (by repeat (first | exact trivial | refine ⟨rfl, ?_⟩)) (by simp) (.refl _)
    · show IsInts mq ((us.set k (.slice (some ⟨a300, 0, none⟩) 1 1)).getD i undef) [0]
      rw [getD_set]
      have hi : i < k + 1 := hi
      by_cases h1 : i = k
      · rw [if_pos ⟨h1, by omega⟩]; exact h300
      · rw [if_neg (fun h => h1 h.1)]; exact (hui i (by omega)).le hmq
    · rcases List.mem_or_eq_of_mem_set hu with h1 | h1
      · exact huo u h1
      · rw [h1]; rfl
  refine W.exit (Kseq.exit (Kloop.exit (Kblock.here (Kseq.go (W.seq ?_)))))
  have hk7 : k = 7 := by omega
  subst hk7
  refine W.weaken l1 [m] [.row 53 2 (.slice (some ⟨bp, 0, none⟩) 7 7) 7 (flat2 us), .blk b28 #[.slice (some ⟨bw, 0, none⟩) 3 3, .slice (some ⟨bp, 0, none⟩) 7 7, vi 0] 43] (by repeat (first | exact trivial | refine ⟨rfl, ?_⟩)) (by simp) (.refl _) ?_
  refine W.freezeRow (.head _) (fun b hb => (hF b hb).elim) (flat2_one huo) fun mp hmp => ?_
  refine W.freezeBox (.head _) (fun b hb => (hF b hb).elim) fun n28 hb28 => ?_
  refine W.join fun mz hz => ?_
  have hzm := hz m (by simp)
  have hz28 := hb28.le (hz n28 (by simp))
  have hzy := (hvy.trans hum).trans hzm
  have hz19 := hy19.le hzy
  have hZ19 := hX19.le hzy
  have hz20 := hy20.le hzy
  have hZ20 := hX20.le hzy
  have hz21 := hy21.le hzy
  have hZ21 := hX21.le hzy
  have hz22 := hy22.le hzy
  have hZ22 := hX22.le hzy
  have hz23 := hy23.le hzy
  have hZ23 := hX23.le hzy
  have hz24 := hy24.le hzy
  have hZ24 := hX24.le hzy
  have hz25 := hy25.le hzy
  have hZ25 := hX25.le hzy
  have hz26 := hy26.le hzy
  have hZ26 := hX26.le hzy
  have hz27 := hy27.le hzy
  have hZ27 := hX27.le hzy
  have hmw' : IsArr mw 3 (.slice (some ⟨bw, 0, none⟩) 3 3) 3 (fun i j => (List.replicate 9 (vi 0)).getD (i * 3 + j) undef) := made_wo 9 ▸ hmw
  have hW3 : IsWomen mz (.slice (some ⟨bw, 0, none⟩) 3 3) bMany.women := by
    refine IsArr.le (m := mw) ?_ ((hvw.trans hum).trans hzm)
    refine (hmw').congr fun i j hi hj' => ?_
    have h0 : i < 3 := hi
    have h1 : i = 0 ∨ i = 1 ∨ i = 2 := by omega
    have h2 : j = 0 ∨ j = 1 ∨ j = 2 := by omega
    rcases h1 with rfl | rfl | rfl <;> rcases h2 with rfl | rfl | rfl <;> rfl
  have hP7 : IsPieces mz (.slice (some ⟨bp, 0, none⟩) 7 7) (fun i => us.getD i undef) bMany.pieces := by
    refine IsArr.le (m := mp) ?_ (hz _ (by simp))
    refine hmp.congr fun i j hi hj' => ?_
    have h0 : i < 7 := hi
    rw [flat2_at us i j (by omega) hj']
    have h1 : i = 0 ∨ i = 1 ∨ i = 2 ∨ i = 3 ∨ i = 4 ∨ i = 5 ∨ i = 6 := by omega
    have h2 : j = 0 ∨ j = 1 := by omega
    rcases h1 with rfl | rfl | rfl | rfl | rfl | rfl | rfl <;> rcases h2 with rfl | rfl <;> rfl
  have hM7 : IsMarks mz (fun i => us.getD i undef) bMany.pieces := by
    intro i hi
    have h0 : i < 7 := hi
    have h3 := (hui i h0).le hzm
    have h1 : i = 0 ∨ i = 1 ∨ i = 2 ∨ i = 3 ∨ i = 4 ∨ i = 5 ∨ i = 6 := by omega
    rcases h1 with rfl | rfl | rfl | rfl | rfl | rfl | rfl <;> exact h3
  have hZ28 : IsTable mz (.agg #[.slice (some ⟨bw, 0, none⟩) 3 3, .slice (some ⟨bp, 0, none⟩) 7 7, vi 0]) bMany := ⟨_, _, _, rfl, hW3, hP7, hM7⟩
  clear hz
  skip
  refine W.weaken l1 [mz] [] (by repeat (first | exact trivial | refine ⟨rfl, ?_⟩)) (by simp) (List.nil_sublist _) ?_
  obtain ⟨e19, e20, e21, e22, e23, e24, e25, e26, e27, e28, e0⟩ := bf_faults
  skip
  refine W.region ?_
  refine WL.val (OpVal.opv rfl) rfl rfl rfl ?_
  refine WL.val (OpVal.opv rfl) rfl rfl rfl ?_
  refine WL.val (OpVal.opv rfl) rfl rfl rfl ?_
  refine WL.val (OpVal.opv rfl) rfl rfl rfl ?_
  refine WL.val (OpVal.opv rfl) rfl rfl rfl ?_
  refine WL.val (OpVal.opv rfl) rfl rfl rfl ?_
  refine WL.val (OpVal.opv rfl) rfl rfl rfl ?_
  refine WL.val (OpVal.opv rfl) rfl rfl rfl ?_
  refine WL.val (OpVal.opv rfl) rfl rfl rfl ?_
  refine WL.val (OpVal.opv rfl) rfl rfl rfl ?_
  refine WL.val (OpVal.opv rfl) rfl rfl rfl ?_
  refine WL.val (OpVal.opv rfl) rfl rfl rfl ?_
  refine WL.val (OpVal.opv rfl) rfl rfl rfl ?_
  refine WL.val (OpVal.opv rfl) rfl rfl rfl ?_
  refine WL.val (OpVal.opv rfl) rfl rfl rfl ?_
  refine WL.val (OpVal.opv rfl) rfl rfl rfl ?_
  refine WL.val (OpVal.opv rfl) rfl rfl rfl ?_
  refine WL.val (OpVal.opv rfl) rfl rfl rfl ?_
  refine WL.val (OpVal.opv rfl) rfl rfl rfl ?_
  refine WL.val (OpVal.opv rfl) rfl rfl rfl ?_
  refine WL.val (OpVal.opv rfl) rfl rfl rfl ?_
  refine WL.val (OpVal.opv rfl) rfl rfl rfl ?_
  refine WL.val (OpVal.opv rfl) rfl rfl rfl ?_
  refine WL.val (OpVal.opv rfl) rfl rfl rfl ?_
  refine WL.val (OpVal.opv rfl) rfl rfl rfl ?_
  refine WL.val (OpVal.opv rfl) rfl rfl rfl ?_
  refine WL.val (OpVal.opv rfl) rfl rfl rfl ?_
  refine WL.val (OpVal.loadPW rfl hz19 (by repeat (first | exact .head _ | refine .tail _ ?_)) rfl) rfl rfl rfl ?_
  refine WL.val (OpVal.call rfl (fun m hm => checkN_any (hZ19.le (by repeat (first | exact hm.1 | replace hm := hm.2))) (smB (by decide) (by decide) (by decide)) e19)) rfl rfl rfl ?_
  refine WL.val (OpVal.opv rfl) rfl rfl rfl ?_
  refine WL.val (OpVal.opv rfl) rfl rfl rfl ?_
  refine WL.val (OpVal.opv rfl) rfl rfl rfl ?_
  refine WL.val (OpVal.loadPW rfl hz20 (by repeat (first | exact .head _ | refine .tail _ ?_)) rfl) rfl rfl rfl ?_
  refine WL.val (OpVal.call rfl (fun m hm => checkN_any (hZ20.le (by repeat (first | exact hm.1 | replace hm := hm.2))) (threeT_sm _ _ _) e20)) rfl rfl rfl ?_
  refine WL.val (OpVal.opv rfl) rfl rfl rfl ?_
  refine WL.val (OpVal.opv rfl) rfl rfl rfl ?_
  refine WL.val (OpVal.opv rfl) rfl rfl rfl ?_
  refine WL.val (OpVal.loadPW rfl hz21 (by repeat (first | exact .head _ | refine .tail _ ?_)) rfl) rfl rfl rfl ?_
  refine WL.val (OpVal.call rfl (fun m hm => checkN_any (hZ21.le (by repeat (first | exact hm.1 | replace hm := hm.2))) (smB (by decide) (by decide) (by decide)) e21)) rfl rfl rfl ?_
  refine WL.val (OpVal.opv rfl) rfl rfl rfl ?_
  refine WL.val (OpVal.opv rfl) rfl rfl rfl ?_
  refine WL.val (OpVal.opv rfl) rfl rfl rfl ?_
  refine WL.val (OpVal.loadPW rfl hz22 (by repeat (first | exact .head _ | refine .tail _ ?_)) rfl) rfl rfl rfl ?_
  refine WL.val (OpVal.call rfl (fun m hm => checkN_any (hZ22.le (by repeat (first | exact hm.1 | replace hm := hm.2))) (smB (by decide) (by decide) (by decide)) e22)) rfl rfl rfl ?_
  refine WL.val (OpVal.opv rfl) rfl rfl rfl ?_
  refine WL.val (OpVal.opv rfl) rfl rfl rfl ?_
  refine WL.val (OpVal.opv rfl) rfl rfl rfl ?_
  refine WL.val (OpVal.loadPW rfl hz23 (by repeat (first | exact .head _ | refine .tail _ ?_)) rfl) rfl rfl rfl ?_
  refine WL.val (OpVal.call rfl (fun m hm => checkN_any (hZ23.le (by repeat (first | exact hm.1 | replace hm := hm.2))) (smB (by decide) (by decide) (by decide)) e23)) rfl rfl rfl ?_
  refine WL.val (OpVal.opv rfl) rfl rfl rfl ?_
  refine WL.val (OpVal.opv rfl) rfl rfl rfl ?_
  refine WL.val (OpVal.opv rfl) rfl rfl rfl ?_
  refine WL.val (OpVal.loadPW rfl hz24 (by repeat (first | exact .head _ | refine .tail _ ?_)) rfl) rfl rfl rfl ?_
  refine WL.val (OpVal.call rfl (fun m hm => checkN_any (hZ24.le (by repeat (first | exact hm.1 | replace hm := hm.2))) (smB (by decide) (by decide) (by decide)) e24)) rfl rfl rfl ?_
  refine WL.val (OpVal.opv rfl) rfl rfl rfl ?_
  refine WL.val (OpVal.opv rfl) rfl rfl rfl ?_
  refine WL.val (OpVal.opv rfl) rfl rfl rfl ?_
  refine WL.val (OpVal.loadPW rfl hz25 (by repeat (first | exact .head _ | refine .tail _ ?_)) rfl) rfl rfl rfl ?_
  refine WL.val (OpVal.call rfl (fun m hm => checkN_any (hZ25.le (by repeat (first | exact hm.1 | replace hm := hm.2))) (threeT_sm _ _ _) e25)) rfl rfl rfl ?_
  refine WL.val (OpVal.opv rfl) rfl rfl rfl ?_
  refine WL.val (OpVal.opv rfl) rfl rfl rfl ?_
  refine WL.val (OpVal.opv rfl) rfl rfl rfl ?_
  refine WL.val (OpVal.loadPW rfl hz26 (by repeat (first | exact .head _ | refine .tail _ ?_)) rfl) rfl rfl rfl ?_
  refine WL.val (OpVal.call rfl (fun m hm => checkN_any (hZ26.le (by repeat (first | exact hm.1 | replace hm := hm.2))) (smB (by decide) (by decide) (by decide)) e26)) rfl rfl rfl ?_
  refine WL.val (OpVal.opv rfl) rfl rfl rfl ?_
  refine WL.val (OpVal.opv rfl) rfl rfl rfl ?_
  refine WL.val (OpVal.opv rfl) rfl rfl rfl ?_
  refine WL.val (OpVal.loadPW rfl hz27 (by repeat (first | exact .head _ | refine .tail _ ?_)) rfl) rfl rfl rfl ?_
  refine WL.val (OpVal.call rfl (fun m hm => checkN_any (hZ27.le (by repeat (first | exact hm.1 | replace hm := hm.2))) (smB (by decide) (by decide) (by decide)) e27)) rfl rfl rfl ?_
  refine WL.val (OpVal.opv rfl) rfl rfl rfl ?_
  refine WL.val (OpVal.opv rfl) rfl rfl rfl ?_
  refine WL.val (OpVal.opv rfl) rfl rfl rfl ?_
  refine WL.val (OpVal.loadPW rfl hz28 (by repeat (first | exact .head _ | refine .tail _ ?_)) rfl) rfl rfl rfl ?_
  refine WL.val (OpVal.call rfl (fun m hm => checkN_any (hZ28.le (by repeat (first | exact hm.1 | replace hm := hm.2))) (smB (by decide) (by decide) (by decide)) e28)) rfl rfl rfl ?_
  refine WL.val (OpVal.opv rfl) rfl rfl rfl ?_
  refine WL.val (OpVal.opv rfl) rfl rfl rfl ?_
  refine WL.val (OpVal.opv rfl) rfl rfl rfl ?_
  refine WL.val (OpVal.build #[.slice none 0 0, .slice none 0 0, vi 0] rfl (by kernel_rfl)) rfl rfl rfl ?_
  refine WL.val (OpVal.call rfl (fun m hm => checkN_any (hX0 m) sm0 e0)) rfl rfl rfl ?_
  refine WL.val (OpVal.opv rfl) rfl rfl rfl ?_
  refine WL.val (OpVal.opv rfl) rfl rfl rfl ?_
  refine WL.val (OpVal.opv rfl) rfl rfl rfl ?_
  refine WL.val (OpVal.call rfl (fun m hm => awake_any)) rfl rfl rfl ?_
  refine WL.val (OpVal.opv rfl) rfl rfl rfl ?_
  refine WL.val (OpVal.opv rfl) rfl rfl rfl ?_
  refine WL.nil ?_
  refine Kseq.go ?_
  refine W.ret ?_; skip; refine ⟨.inl rfl, [_], mz, ⟨.tmp rfl, trivial⟩, (by repeat (first | exact .head _ | refine .tail _ ?_)), ?_⟩
  rfl
end Go.Proofs.Ytbmohbeocnfefaa
