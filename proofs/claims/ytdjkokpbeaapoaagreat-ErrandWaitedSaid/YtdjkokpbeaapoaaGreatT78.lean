/- The reference's functions of chapter 11, on: moves, and what a walk brings. -/
import Derived.Test.YtdjkokpbeaapoaaGreatT76
namespace Go.Proofs.YtdjkokpbeaapoaaGreat
open Go Go.Eng Go.RowKit

/-- ref.Moves -/
theorem movesRef_any {h : Mem} {v : Value} {r : Errand} (hv : IsErrand h v r) (hs : SmE r) (hV : ValidE r) : FnR Tryz.prog 56 #[v] h (fun m q => IsMoves m q (movesR r)) := by
  obtain ⟨wv, pv, hov, sv, f, rfl, hW, hP, hM, hH, hS⟩ := hv
  have hT := IsErrand.tableOf hW hP hM
  have hts := hs.table
  have hts2 := hts.2.1
  have hpos : 0 < (truths r.table).length := List.length_pos_iff.2 hV.some
  have hbl : (fewest r.table (truths r.table)).length = r.table.pieces.length := truths_long _ _ (bestTo_lt _ hpos _ (Nat.le_refl _))
  have hmv : movesR r = movesOf r.table (fewest r.table (truths r.table)) := rfl
  refine FnR.of_W (n := 49) Tryz.func56 rfl rfl (Nat.le_of_ble_eq_true rfl) fun c hr hD hF => ?_
  refine W.seq ?_
  refine W.region ?_
  refine WL.box rfl rfl rfl rfl (fun b1 => ?_)
  refine WL.val (OpVal.opv rfl) rfl rfl rfl ?_
  refine WL.nil ?_
  refine Kseq.go (W.seq ?_)
  skip
  refine W.draw 5 (by kernel_rfl) (by kernel_rfl) (by kernel_rfl) rfl ?_
  refine DJ.val [] (OpVal.fieldAddrB rfl) rfl rfl rfl rfl ?_
  refine DJ.val [] (OpVal.loadBA (vs := [wv, pv, .int .i64 r.table.wrong]) rfl (.head _) rfl rfl) rfl rfl rfl rfl ?_
  refine DJ.val [] (OpVal.fieldAddrB rfl) rfl rfl rfl rfl ?_
  refine DJ.val [] (OpVal.loadBA (vs := [wv, pv, .int .i64 r.table.wrong]) rfl (.head _) rfl rfl) rfl rfl rfl rfl ?_
  refine DJ.abs (A := fun m q => IsLists m q (truths r.table)) [] (OpAbs.call rfl (fun m hm => truths_any (hT.le (by repeat (first | exact hm.1 | replace hm := hm.2))) hts hV.table.owned)) rfl rfl rfl rfl ?_
  refine DJ.nil ?_
  rintro m11 v11 h11
  refine WL.abs (OpAbs.call rfl (fun m hm => fewestR_any (hT.le (by repeat (first | exact hm.1 | replace hm := hm.2))) hts (h11.le (by repeat (first | exact hm.1 | replace hm := hm.2))) (truths_long r.table) hpos)) rfl rfl rfl ?_
  rintro m12 v12 h12
  refine WL.val (OpVal.opv rfl) rfl rfl rfl ?_
  refine WL.nil ?_
  refine Kseq.go (W.seq ?_)
  rw [hmv]
  generalize fewest r.table (truths r.table) = l at *
  skip
  refine W.region ?_
  refine WL.val (OpVal.fieldAddrB rfl) rfl rfl rfl ?_
  refine WL.val (OpVal.loadBA (vs := [wv, pv, .int .i64 r.table.wrong]) rfl (.head _) rfl rfl) rfl rfl rfl ?_
  refine WL.val (OpVal.opv rfl) rfl rfl rfl ?_
  refine WL.abs (show OpAbs _ _ _ _ _ (fun m q => IsInts m q (astray r.table l)) from OpAbs.call rfl (fun m hm => astray_any (hT.le (by repeat (first | exact hm.1 | replace hm := hm.2))) hts (h12.le (by repeat (first | exact hm.1 | replace hm := hm.2))) (by omega))) rfl rfl rfl ?_
  rintro m16 v16 h16
  refine WL.val (OpVal.opv rfl) rfl rfl rfl ?_
  refine WL.nil ?_
  refine Kseq.go (W.seq ?_)
  have hal : (astray r.table l).length ≤ l.length := sel_len _ _
  have hml : (movesOf r.table l).length = (astray r.table l).length := by simp [movesOf]
  skip
  refine W.region ?_
  refine WL.val (OpVal.opv rfl) rfl rfl rfl ?_
  refine WL.nil ?_
  refine Kseq.go (W.seq (W.seq ?_))
  skip
  refine W.region ?_
  refine WL.val (OpVal.opv rfl) rfl rfl rfl ?_
  refine WL.nil ?_
  refine Kseq.go (W.block ?_)
  refine W.nilRow 143 3 ?_
  refine W.loopA (σ := Nat × Value) (fun s => [(1, .pointer (some ⟨b1, 0, none⟩)), (3, v12), (4, v16), (5, s.2), (6, .int .i64 (s.1 : Int))]) (fun s => kr 143 3 s.2 (((movesOf r.table l).take s.1).map mv3)) (fun s => s.1 ≤ (astray r.table l).length) (fun s => (astray r.table l).length - s.1) (0, .slice none 0 0) ⟨rfl, rfl, rfl, rfl, rfl, trivial⟩ rfl (Nat.zero_le _) ?_
  rintro ⟨k, a⟩ hk
  dsimp only at hk ⊢
  have hlen : (((movesOf r.table l).take k).map mv3).length = k := by simp; omega
  refine W.seq (W.seq ?_)
  refine W.region ?_
  refine WL.val (OpVal.opv rfl) rfl rfl rfl ?_
  refine WL.val (OpVal.opv rfl) rfl rfl rfl ?_
  refine WL.val (OpVal.len rfl (by assumption)) rfl rfl rfl ?_
  refine WL.val (OpVal.opv rfl) rfl rfl rfl ?_
  refine WL.nil ?_
  refine Kseq.go ?_
  refine W.condD rfl rfl (fun hlt => ?_) (fun hge => ?_)
  · obtain ⟨y, hy, _, hye⟩ := mem_sel.1 (mem_getD (xs := astray r.table l) (i := k) (by omega))
    have hyp : y < r.table.pieces.length := by omega
    have hmk : (movesOf r.table l).getD k default = ⟨y, (r.table.pieces.getD y default).bundle, l.getD y 0⟩ := by
      have : k < (astray r.table l).length := by omega
      unfold movesOf
      rw [List.getD_eq_getElem?_getD] at hye
      simp only [List.getElem?_eq_getElem this, Option.getD_some] at hye
      simp only [List.getD_eq_getElem?_getD, List.getElem?_map, List.getElem?_eq_getElem this, Option.map_some, Option.getD_some, hye]
      rfl
    refine W.skip (Kseq.go (W.seq (W.block ?_)))
    refine W.draw 24 (by kernel_rfl) (by kernel_rfl) (by kernel_rfl) rfl ?_
    refine DJ.val [] (OpVal.opv rfl) rfl rfl rfl rfl ?_
    refine DJ.val [] (OpVal.opv rfl) rfl rfl rfl rfl ?_
    refine DJ.val [] (OpVal.opv rfl) rfl rfl rfl rfl ?_
    refine DJ.val [] (OpVal.indexAddrN rfl rfl h16 (by omega)) rfl rfl rfl rfl ?_
    refine DJ.val [] (OpVal.cast (OpVal.loadE rfl h16 (by repeat (first | exact .head _ | refine .tail _ ?_)) (by omega) (by omega)) (congrArg (Value.int .i64) hye)) rfl rfl rfl rfl ?_
    refine DJ.val [] (OpVal.fieldAddrB rfl) rfl rfl rfl rfl ?_
    refine DJ.val [] (OpVal.fieldAddrB rfl) rfl rfl rfl rfl ?_
    refine DJ.val [] (OpVal.loadB rfl (.tail _ (.head _)) rfl) rfl rfl rfl rfl ?_
    refine DJ.val [] (OpVal.opv rfl) rfl rfl rfl rfl ?_
    refine DJ.val [] (OpVal.opv rfl) rfl rfl rfl rfl ?_
    refine DJ.val [] (OpVal.indexAddrN rfl rfl h16 (by omega)) rfl rfl rfl rfl ?_
    refine DJ.val [] (OpVal.cast (OpVal.loadE rfl h16 (by repeat (first | exact .head _ | refine .tail _ ?_)) (by omega) (by omega)) (congrArg (Value.int .i64) hye)) rfl rfl rfl rfl ?_
    refine DJ.val [] (OpVal.indexAddrN rfl rfl hP (by omega)) rfl rfl rfl rfl ?_
    refine DJ.val [] (OpVal.fieldAddrN rfl hP (by omega)) rfl rfl rfl rfl ?_
    refine DJ.val [] (OpVal.loadE rfl hP (by repeat (first | exact .head _ | refine .tail _ ?_)) (by omega) (by omega)) rfl rfl rfl rfl ?_
    refine DJ.val [] (OpVal.opv rfl) rfl rfl rfl rfl ?_
    refine DJ.val [] (OpVal.opv rfl) rfl rfl rfl rfl ?_
    refine DJ.val [] (OpVal.opv rfl) rfl rfl rfl rfl ?_
    refine DJ.val [] (OpVal.indexAddrN rfl rfl h16 (by omega)) rfl rfl rfl rfl ?_
    refine DJ.val [] (OpVal.cast (OpVal.loadE rfl h16 (by repeat (first | exact .head _ | refine .tail _ ?_)) (by omega) (by omega)) (congrArg (Value.int .i64) hye)) rfl rfl rfl rfl ?_
    refine DJ.val [] (OpVal.indexAddrN rfl rfl h12 (by omega)) rfl rfl rfl rfl ?_
    refine DJ.val [] (OpVal.loadE rfl h12 (by repeat (first | exact .head _ | refine .tail _ ?_)) (by omega) (by omega)) rfl rfl rfl rfl ?_
    refine DJ.val [] (OpVal.build3 rfl rfl) rfl rfl rfl rfl ?_
    refine DJ.abs (A := fun m r0 => IsCells m 3 r0 1 [vi y, vi (r.table.pieces.getD y default).bundle, vi (l.getD y 0)]) [] (OpAbs.mono (OpAbs.lit [vi y, vi (r.table.pieces.getD y default).bundle, vi (l.getD y 0)] rfl (Nat.le_of_ble_eq_true rfl) rfl rfl (by simp [Value.cells]) (Nat.le_of_ble_eq_true rfl) rfl (by simp [Value.oneCell'])) (fun m' v' h' => h'.1)) rfl rfl rfl rfl ?_
    refine DJ.nil ?_
    rintro m46 v46 h46
    (refine WL.appK (mv3 ⟨y, (r.table.pieces.getD y default).bundle, l.getD y 0⟩) rfl (fun _ => .head _) rfl h46 (by repeat (first | exact .head _ | refine .tail _ ?_)) rfl rfl (by omega) (by omega) (Nat.le_of_ble_eq_true rfl) rfl rfl rfl ?_; intro a47 c47)
    refine WL.val (OpVal.opv rfl) rfl rfl rfl ?_
    refine WL.nil ?_
    refine Kblock.normal (Kseq.go ?_)
    skip
    refine W.region ?_
    refine WL.val (OpVal.opv rfl) rfl rfl rfl ?_
    refine WL.val (OpVal.incr rfl (by omega)) rfl rfl rfl ?_
    refine WL.val (OpVal.opv rfl) rfl rfl rfl ?_
    refine WL.nil ?_
    skip
    refine Kloop.next (k + 1, .slice a47 ((((movesOf r.table l).take k).map mv3).length + 1) c47) (by omega) (by omega) ⟨rfl, rfl, rfl, rfl, rfl, trivial⟩ (by simp) ?_
    rw [take_succ_getD (d := default) (show k < (movesOf r.table l).length by omega), List.map_append, hmk]
    exact (by repeat (first | exact List.Sublist.refl _ | refine List.Sublist.cons _ ?_ | refine List.Sublist.cons_cons _ ?_))
  · have : k = (movesOf r.table l).length := by omega
    subst this
    rw [List.take_length]
    refine W.exit (Kseq.exit (Kloop.exit (Kblock.here (Kseq.go (W.seq ?_)))))
    refine W.freezeK (.head _) (fun b hb => (hF b hb).elim) (by omega) (by simp [mv3, Value.cells]) (by simp [mv3, Value.cells, Value.oneCell']) fun mr hmr => ?_
    skip
    refine W.region ?_
    refine WL.val (OpVal.opv rfl) rfl rfl rfl ?_
    refine WL.val (OpVal.opv rfl) rfl rfl rfl ?_
    refine WL.nil ?_
    refine Kseq.go ?_
    refine W.ret ?_; skip; refine ⟨.inl rfl, [_], mr, ⟨.tmp rfl, trivial⟩, (by repeat (first | exact .head _ | refine .tail _ ?_)), ?_⟩
    exact moves_of hmr
/-- ref.Pieces -/
theorem piecesR_any {h : Mem} {v : Value} {ms : List Move} {b : Nat} (hm : IsMoves h v ms) (h50 : ms.length ≤ 50) : FnR Tryz.prog 57 #[v, .int .i64 b] h (fun m q => IsInts m q (pieces ms b)) := by
  refine FnR.of_W (n := 28) Tryz.func57 rfl rfl (Nat.le_of_ble_eq_true rfl) fun c hr hD hF => ?_
  refine W.seq ?_
  refine W.region ?_
  refine WL.val (OpVal.opv rfl) rfl rfl rfl ?_
  refine WL.nil ?_
  refine Kseq.go (W.seq ?_)
  skip
  refine W.region ?_
  refine WL.val (OpVal.opv rfl) rfl rfl rfl ?_
  refine WL.nil ?_
  refine Kseq.go (W.seq (W.seq ?_))
  skip
  refine W.region ?_
  refine WL.val (OpVal.opv rfl) rfl rfl rfl ?_
  refine WL.nil ?_
  refine Kseq.go (W.block ?_)
  refine W.nilRow 3 1 ?_
  refine W.loopA (σ := Nat × Value) (fun s => [(0, v), (1, .int .i64 b), (5, s.2), (6, .int .i64 (s.1 : Int))]) (fun s => ir 3 s.2 (piecesTo ms (fun i => b.testBit i) s.1)) (fun s => s.1 ≤ ms.length) (fun s => ms.length - s.1) (0, .slice none 0 0) ⟨rfl, rfl, rfl, rfl, trivial⟩ rfl (Nat.zero_le _) ?_
  rintro ⟨k, a⟩ hk
  dsimp only at hk ⊢
  have hpl := piecesTo_len ms (fun i => b.testBit i) k
  refine W.seq (W.seq ?_)
  refine W.region ?_
  refine WL.val (OpVal.opv rfl) rfl rfl rfl ?_
  refine WL.val (OpVal.opv rfl) rfl rfl rfl ?_
  refine WL.val (OpVal.len rfl hm) rfl rfl rfl ?_
  refine WL.val (OpVal.opv rfl) rfl rfl rfl ?_
  refine WL.nil ?_
  refine Kseq.go ?_
  refine W.condD rfl rfl (fun hlt => ?_) (fun hge => ?_)
  · have hkm : k < ms.length := by omega
    have hq : b.testBit k = decide (b / 2 ^ k % 2 = 1) := Nat.testBit_eq_decide_div_mod_eq ..
    refine W.skip (Kseq.go (W.seq (W.block (W.seq ?_))))
    refine W.region ?_
    refine WL.val (OpVal.opv rfl) rfl rfl rfl ?_
    refine WL.val (OpVal.opv rfl) rfl rfl rfl ?_
    refine WL.val (OpVal.conv rfl (wrap_u64 (by omega) (by omega))) rfl rfl rfl ?_
    refine WL.val (OpVal.shr rfl rfl (by omega)) rfl rfl rfl ?_
    refine WL.val (OpVal.rem rfl rfl (Int.natCast_nonneg _) (by omega)) rfl rfl rfl ?_
    refine WL.val (OpVal.opv rfl) rfl rfl rfl ?_
    refine WL.nil ?_
    refine Kseq.go ?_
    refine W.condD rfl rfl (fun he => ?_) (fun hne => ?_)
    · skip
      refine W.region ?_
      refine WL.val (OpVal.opv rfl) rfl rfl rfl ?_
      refine WL.val (OpVal.opv rfl) rfl rfl rfl ?_
      refine WL.val (OpVal.opv rfl) rfl rfl rfl ?_
      refine WL.val (OpVal.indexAddrN rfl rfl hm hkm) rfl rfl rfl ?_
      refine WL.val (OpVal.fieldAddrN rfl hm hkm) rfl rfl rfl ?_
      refine WL.val (OpVal.loadE rfl hm (by repeat (first | exact .head _ | refine .tail _ ?_)) hkm (by omega)) rfl rfl rfl ?_
      refine WL.abs (OpAbs.lit [_] rfl (Nat.le_of_ble_eq_true rfl) rfl rfl (by simp [Value.cells]) (Nat.le_of_ble_eq_true rfl) rfl (by first | (simp [Value.oneCell']; done) | exact List.all_eq_true.1 rfl)) rfl rfl rfl ?_
      rintro m25 _ ⟨hc25, a25, rfl⟩
      refine WL.appInt rfl (fun _ => (.head _)) rfl (by assumption) (by repeat (first | exact .head _ | refine .tail _ ?_)) (by omega) rfl rfl rfl ?_
      intro a26 cp26
      refine WL.val (OpVal.opv rfl) rfl rfl rfl ?_
      refine WL.nil ?_
      refine Kblock.normal (Kseq.go ?_)
      skip
      refine W.region ?_
      refine WL.val (OpVal.opv rfl) rfl rfl rfl ?_
      refine WL.val (OpVal.incr rfl (by omega)) rfl rfl rfl ?_
      refine WL.val (OpVal.opv rfl) rfl rfl rfl ?_
      refine WL.nil ?_
      skip
      refine Kloop.next (k + 1, .slice a26 ((piecesTo ms (fun i => b.testBit i) k).length + 1) cp26) (by omega) (by omega) ⟨rfl, rfl, rfl, rfl, trivial⟩ (by simp) ?_
      dsimp only
      rw [piecesTo_yes (p := fun i => b.testBit i) (by rw [hq]; exact decide_eq_true (by omega))]
      exact (by repeat (first | exact List.Sublist.refl _ | refine List.Sublist.cons _ ?_ | refine List.Sublist.cons_cons _ ?_))
    · refine W.skip (Kblock.normal (Kseq.go ?_))
      skip
      refine W.region ?_
      refine WL.val (OpVal.opv rfl) rfl rfl rfl ?_
      refine WL.val (OpVal.incr rfl (by omega)) rfl rfl rfl ?_
      refine WL.val (OpVal.opv rfl) rfl rfl rfl ?_
      refine WL.nil ?_
      skip
      refine Kloop.next (k + 1, a) (by omega) (by omega) ⟨rfl, rfl, rfl, rfl, trivial⟩ (by simp) ?_
      dsimp only
      rw [piecesTo_no (p := fun i => b.testBit i) (by rw [hq]; exact decide_eq_false (by omega))]
      exact (by repeat (first | exact List.Sublist.refl _ | refine List.Sublist.cons _ ?_ | refine List.Sublist.cons_cons _ ?_))
  · refine W.exit (Kseq.exit (Kloop.exit (Kblock.here (Kseq.go (W.seq ?_)))))
    have : k = ms.length := by omega
    subst this
    refine W.freezeInts (.head _) (fun b hb => (hF b hb).elim) fun mr hmr => ?_
    skip
    refine W.region ?_
    refine WL.val (OpVal.opv rfl) rfl rfl rfl ?_
    refine WL.val (OpVal.opv rfl) rfl rfl rfl ?_
    refine WL.nil ?_
    refine Kseq.go ?_
    refine W.ret ?_; skip; refine ⟨.inl rfl, [_], mr, ⟨.tmp rfl, trivial⟩, (by repeat (first | exact .head _ | refine .tail _ ?_)), ?_⟩
    exact hmr
end Go.Proofs.YtdjkokpbeaapoaaGreat
