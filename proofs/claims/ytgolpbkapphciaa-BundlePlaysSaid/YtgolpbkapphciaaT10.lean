/- The statements' own functions of chapter 3, on: their contracts. -/
import Derived.Test.YtgolpbkapphciaaT9
namespace Go.Proofs.Ytgolpbkapphciaa
open Go Go.Eng Go.RowKit

def wv3 (w : Woman) : Value := .agg #[vi w.mark, vi w.lo, vi w.hi]
def pv2 (f : Value) (p : Piece) : Value := .agg #[f, vi p.bundle]
theorem women_of {m : Mem} {v : Value} {ws : List Woman} (h : IsArr m 3 v (ws.map wv3).length (fun i j => ((ws.map wv3).getD i undef).cells.getD j undef)) : IsWomen m v ws := by
  rw [List.length_map] at h
  refine h.congr fun i j hi hj => ?_
  have e : (ws.map wv3).getD i undef = wv3 (ws.getD i default) := by simp [List.getD_eq_getElem?_getD, List.getElem?_eq_getElem hi]
  rw [e]
  match j, hj with
  | 0, _ => rfl
  | 1, _ => rfl
  | 2, _ => rfl
/-- The pieces' cells, their marks being fs. -/
def pcs (fs : List Value) (ps : List Piece) : List Value := List.zipWith pv2 fs ps
theorem pieces_of {m : Mem} {v : Value} {fs : List Value} {ps : List Piece} (hf : fs.length = ps.length) (h : IsArr m 2 v (pcs fs ps).length (fun i j => ((pcs fs ps).getD i undef).cells.getD j undef)) : IsPieces m v (fun i => fs.getD i undef) ps := by
  have e0 : (pcs fs ps).length = ps.length := by simp [pcs, hf]
  rw [e0] at h
  refine h.congr fun i j hi hj => ?_
  have e : (pcs fs ps).getD i undef = pv2 (fs.getD i undef) (ps.getD i default) := by
    have h1 : i < fs.length := by omega
    simp [pcs, List.getD_eq_getElem?_getD, List.getElem?_zipWith, List.getElem?_eq_getElem hi, List.getElem?_eq_getElem h1]
  rw [e]
  match j, hj with
  | 0, _ => rfl
  | 1, _ => rfl
theorem take_snoc {α : Type} [Inhabited α] {l : List α} {k : Nat} (h : k < l.length) : l.take (k + 1) = l.take k ++ [l.getD k default] := by
  rw [List.take_add_one, List.getElem?_eq_getElem h]
  simp [List.getD_eq_getElem?_getD, List.getElem?_eq_getElem h]
def marksL (t : Table) : List (List Int) := t.pieces.map (·.marks)

/-- Table -/
theorem table_any {h : Mem} {v : Value} {t : Table} (hv : IsTable h v t) (hs : Sm t) : FnR Try.prog 24 #[v] h (fun m r => IsTable m r t) := by
  obtain ⟨wv, pv, f, rfl, hW, hP, hM⟩ := hv
  obtain ⟨hs1, hs2, hs3⟩ := hs
  refine FnR.of_W (n := 64) Try.func24 rfl rfl (Nat.le_of_ble_eq_true rfl) fun c hr hD hF => ?_
  refine W.seq ?_
  refine W.region ?_
  refine WL.box rfl rfl rfl rfl (fun b1 => ?_)
  refine WL.alloc rfl rfl rfl (fun b2 => ?_)
  refine WL.nil ?_
  refine Kseq.go (W.seq ?_)
  skip
  refine W.region ?_
  refine WL.val (OpVal.fieldAddrB rfl) rfl rfl rfl ?_
  refine WL.val (OpVal.loadB rfl (.tail _ (.head _)) rfl) rfl rfl rfl ?_
  refine WL.val (OpVal.build3 rfl rfl) rfl rfl rfl ?_
  refine WL.alloc rfl rfl rfl (fun b3 => ?_)
  refine WL.store [_, _, _] rfl (.head _) rfl rfl rfl (Nat.le_of_ble_eq_true rfl) (by first | (simp [Value.cells, Value.oneCell']; done) | exact IsArr.ones hW (by omega) | exact IsArr.ones hP (by omega)) rfl ?_
  refine WL.nil ?_
  refine Kseq.go (W.seq (W.seq ?_))
  skip
  refine W.region ?_
  refine WL.val (OpVal.opv rfl) rfl rfl rfl ?_
  refine WL.nil ?_
  refine Kseq.go (W.block ?_)
  refine W.nilRow 99 3 ?_
  refine W.loop (σ := Nat × Value) (fun s => [(1, .pointer (some ⟨b1, 0, none⟩)), (2, .pointer (some ⟨b2, 0, none⟩)), (3, .pointer (some ⟨b3, 0, none⟩)), (4, .int .i64 (s.1 : Int))]) (fun _ => [h])
    (fun s => [kr 99 3 s.2 ((t.women.take s.1).map wv3), .blk b3 [s.2, .slice none 0 0, .int .i64 t.wrong].toArray 35, .blk b2 _ 35, .blk b1 (Value.agg #[wv, pv, .int .i64 t.wrong]).cells 25]) (fun s => s.1 ≤ t.women.length) (fun s => t.women.length - s.1) (0, .slice none 0 0) ⟨rfl, rfl, rfl, rfl, trivial⟩ (by simp) (.refl _) (Nat.zero_le _) ?_
  rintro ⟨k, a⟩ hk
  dsimp only at hk ⊢
  refine W.seq (W.seq ?_)
  refine W.region ?_
  refine WL.val (OpVal.opv rfl) rfl rfl rfl ?_
  refine WL.val (OpVal.fieldAddrB rfl) rfl rfl rfl ?_
  refine WL.val (OpVal.loadB rfl (.tail _ (.tail _ (.tail _ (.head _)))) rfl) rfl rfl rfl ?_
  refine WL.val (OpVal.len rfl (by assumption)) rfl rfl rfl ?_
  refine WL.val (OpVal.opv rfl) rfl rfl rfl ?_
  refine WL.nil ?_
  refine Kseq.go ?_
  refine W.condD rfl rfl (fun hlt => ?_) (fun hge => ?_)
  · have hlen : ((t.women.take k).map wv3).length = k := by simp; omega
    refine W.skip (Kseq.go (W.seq (W.block (W.seq ?_))))
    refine W.region ?_
    refine WL.val (OpVal.fieldAddrB rfl) rfl rfl rfl ?_
    refine WL.val (OpVal.loadB rfl (.tail _ (.tail _ (.tail _ (.head _)))) rfl) rfl rfl rfl ?_
    refine WL.val (OpVal.opv rfl) rfl rfl rfl ?_
    refine WL.val (OpVal.indexAddrN rfl rfl (by assumption) (by omega)) rfl rfl rfl ?_
    refine WL.val (OpVal.loadEA rfl (by assumption) (by repeat (first | exact .head _ | refine .tail _ ?_)) (by omega)) rfl rfl rfl ?_
    refine WL.alloc rfl rfl rfl (fun b5 => ?_)
    refine WL.store [_, _, _] rfl (.head _) rfl rfl rfl (Nat.le_of_ble_eq_true rfl) (by first | (simp [Value.cells, Value.oneCell']; done) | exact IsArr.ones hW (by omega) | exact IsArr.ones hP (by omega)) rfl ?_
    refine WL.nil ?_
    refine Kseq.go ?_
    skip
    refine W.region ?_
    refine WL.val (OpVal.fieldAddrB rfl) rfl rfl rfl ?_
    refine WL.val (OpVal.loadB rfl (.tail _ (.tail _ (.head _))) rfl) rfl rfl rfl ?_
    refine WL.val (OpVal.fieldAddrB rfl) rfl rfl rfl ?_
    refine WL.val (OpVal.loadB rfl (.head _) rfl) rfl rfl rfl ?_
    refine WL.val (OpVal.fieldAddrB rfl) rfl rfl rfl ?_
    refine WL.val (OpVal.fieldAddrB rfl) rfl rfl rfl ?_
    refine WL.val (OpVal.loadB rfl (.head _) rfl) rfl rfl rfl ?_
    refine WL.val (OpVal.fieldAddrB rfl) rfl rfl rfl ?_
    refine WL.val (OpVal.fieldAddrB rfl) rfl rfl rfl ?_
    refine WL.val (OpVal.loadB rfl (.head _) rfl) rfl rfl rfl ?_
    refine WL.val (OpVal.build2 rfl rfl) rfl rfl rfl ?_
    refine WL.val (OpVal.build3 rfl rfl) rfl rfl rfl ?_
    refine WL.abs (OpAbs.lit [_, _, _] rfl (Nat.le_of_ble_eq_true rfl) rfl rfl (by simp [Value.cells]) (Nat.le_of_ble_eq_true rfl) rfl (by first | (simp [Value.oneCell']; done) | exact List.all_eq_true.1 rfl)) rfl rfl rfl ?_
    rintro m34 _ ⟨hc34, a34, rfl⟩
    (refine WL.appK (wv3 (t.women.getD k default)) rfl (fun _ => .tail _ (.head _)) rfl (by assumption) (by repeat (first | exact .head _ | refine .tail _ ?_)) rfl rfl (by omega) (by omega) (Nat.le_of_ble_eq_true rfl) rfl rfl rfl ?_; intro a35 cp35)
    refine WL.val (OpVal.fieldAddrB rfl) rfl rfl rfl ?_
    refine WL.store [_, _, _] rfl (.tail _ (.tail _ (.head _))) rfl rfl rfl (Nat.le_of_ble_eq_true rfl) (by first | (simp [Value.cells, Value.oneCell']; done) | exact IsArr.ones hW (by omega) | exact IsArr.ones hP (by omega)) rfl ?_
    refine WL.nil ?_
    refine Kblock.normal (Kseq.go ?_)
    skip
    refine W.region ?_
    refine WL.val (OpVal.opv rfl) rfl rfl rfl ?_
    refine WL.val (OpVal.incr rfl (by omega)) rfl rfl rfl ?_
    refine WL.val (OpVal.opv rfl) rfl rfl rfl ?_
    refine WL.nil ?_
    skip
    refine Kloop.next (k + 1, .slice a35 (((t.women.take k).map wv3).length + 1) cp35) (by omega) (by omega) ⟨rfl, rfl, rfl, rfl, trivial⟩ (by simp) ?_
    dsimp only
    rw [take_snoc (by omega : k < t.women.length), List.map_append]
    exact (by repeat (first | exact List.Sublist.refl _ | refine List.Sublist.cons _ ?_ | refine List.Sublist.cons_cons _ ?_))
  refine W.exit (Kseq.exit (Kloop.exit (Kblock.here (Kseq.go (W.seq (W.seq ?_))))))
  have hkw : k = t.women.length := by omega
  subst hkw
  rw [List.take_length]
  refine W.freezeK (.head _) (fun b hb => (hF b hb).elim) (by omega) (by simp [wv3, Value.cells]) (by simp [wv3, Value.cells, Value.oneCell']) fun m1 hm1 => ?_
  have hm1' := women_of hm1
  clear hm1
  obtain ⟨a1, c1, rfl⟩ := IsArr.form hm1'
  skip
  refine W.region ?_
  refine WL.val (OpVal.opv rfl) rfl rfl rfl ?_
  refine WL.nil ?_
  refine Kseq.go (W.block ?_)
  refine W.nilRow 97 2 ?_
  refine W.loop (σ := Nat × Value × Mem × List Value) (fun s => [(1, .pointer (some ⟨b1, 0, none⟩)), (2, .pointer (some ⟨b2, 0, none⟩)), (3, .pointer (some ⟨b3, 0, none⟩)), (6, .int .i64 (s.1 : Int))]) (fun s => [h, m1, s.2.2.1])
    (fun s => [kr 97 2 s.2.1 (pcs s.2.2.2 (t.pieces.take s.1)), .blk b3 [_, s.2.1, .int .i64 t.wrong].toArray 35, .blk b2 _ 35, .blk b1 (Value.agg #[wv, pv, .int .i64 t.wrong]).cells 25]) (fun s => s.1 ≤ t.pieces.length ∧ AllInts s.2.2.1 s.2.2.2 ((marksL t).take s.1)) (fun s => t.pieces.length - s.1) (0, .slice none 0 0, h, []) ⟨rfl, rfl, rfl, rfl, trivial⟩ (by simp) (.refl _) ⟨Nat.zero_le _, by simpa using AllInts.nil h⟩ ?_
  rintro ⟨i, a, m0, fs⟩ ⟨hi, hall⟩
  dsimp only at hi hall ⊢
  have hml : (marksL t).length = t.pieces.length := by simp [marksL]
  have hfl : fs.length = i := by rw [hall.1]; simp [hml]; omega
  refine W.seq (W.seq ?_)
  refine W.region ?_
  refine WL.val (OpVal.opv rfl) rfl rfl rfl ?_
  refine WL.val (OpVal.fieldAddrB rfl) rfl rfl rfl ?_
  refine WL.val (OpVal.loadB rfl (.tail _ (.tail _ (.tail _ (.head _)))) rfl) rfl rfl rfl ?_
  refine WL.val (OpVal.len rfl (by assumption)) rfl rfl rfl ?_
  refine WL.val (OpVal.opv rfl) rfl rfl rfl ?_
  refine WL.nil ?_
  refine Kseq.go ?_
  refine W.condD rfl rfl (fun hlt => ?_) (fun hge => ?_)
  · have hMi := hM i (by omega)
    have hmi := hs3 i (by omega)
    have hlen : (pcs fs (t.pieces.take i)).length = i := by simp [pcs, hfl]; omega
    have hmk : (marksL t).getD i [] = (t.pieces.getD i default).marks := by simp [marksL, List.getD_eq_getElem?_getD, List.getElem?_eq_getElem (show i < t.pieces.length by omega)]
    let A1 : Mem → Value → Prop := fun m r => ∃ lv, IsInts m lv (t.pieces.getD i default).marks ∧ r = .agg #[lv, vi (t.pieces.getD i default).bundle]
    let A2 : Mem → Value → Prop := fun m r => ∃ lv, IsInts m lv (t.pieces.getD i default).marks ∧ IsCells m 2 r 1 [lv, vi (t.pieces.getD i default).bundle]
    refine W.skip (Kseq.go (W.seq (W.block ?_)))
    refine W.draw 17 (by kernel_rfl) (by kernel_rfl) (by kernel_rfl) rfl ?_
    refine DJ.val [] (OpVal.fieldAddrB rfl) rfl rfl rfl rfl ?_
    refine DJ.val [] (OpVal.loadB rfl (.tail _ (.head _)) rfl) rfl rfl rfl rfl ?_
    refine DJ.val [] (OpVal.fieldAddrB rfl) rfl rfl rfl rfl ?_
    refine DJ.val [] (OpVal.loadB rfl (.tail _ (.tail _ (.tail _ (.head _)))) rfl) rfl rfl rfl rfl ?_
    refine DJ.val [] (OpVal.opv rfl) rfl rfl rfl rfl ?_
    refine DJ.val [] (OpVal.indexAddrN rfl rfl (by assumption) (by omega)) rfl rfl rfl rfl ?_
    refine DJ.val [] (OpVal.fieldAddrN rfl (by assumption) (by omega)) rfl rfl rfl rfl ?_
    refine DJ.val [] (OpVal.loadE rfl (by assumption) (by repeat (first | exact .head _ | refine .tail _ ?_)) (by omega) (by omega)) rfl rfl rfl rfl ?_
    refine DJ.abs (A := fun m r => IsInts m r (t.pieces.getD i default).marks) [] (OpAbs.call rfl (fun m hm => list_any (hMi.le (by repeat (first | exact hm.1 | replace hm := hm.2))) (by omega))) rfl rfl rfl rfl ?_
    refine DJ.val [] (OpVal.fieldAddrB rfl) rfl rfl rfl rfl ?_
    refine DJ.val [] (OpVal.loadB rfl (.tail _ (.tail _ (.tail _ (.head _)))) rfl) rfl rfl rfl rfl ?_
    refine DJ.val [] (OpVal.opv rfl) rfl rfl rfl rfl ?_
    refine DJ.val [] (OpVal.indexAddrN rfl rfl (by assumption) (by omega)) rfl rfl rfl rfl ?_
    refine DJ.val [] (OpVal.fieldAddrN rfl (by assumption) (by omega)) rfl rfl rfl rfl ?_
    refine DJ.val [] (OpVal.loadE rfl (by assumption) (by repeat (first | exact .head _ | refine .tail _ ?_)) (by omega) (by omega)) rfl rfl rfl rfl ?_
    refine DJ.abs (A := A1) [(52, fun m r => IsInts m r (t.pieces.getD i default).marks)] (fun m52 v52 h52 => by obtain ⟨a', c', rfl⟩ := IsArr.form h52; exact OpAbs.ofVal (OpVal.build2 rfl rfl) (.head _) ⟨_, h52, rfl⟩) rfl rfl rfl rfl ?_ (hG := ⟨(by repeat (first | exact .head _ | refine .tail _ ?_)), rfl, trivial⟩)
    refine DJ.abs (A := A2) [(59, A1)] (fun m59 v59 h59 => by obtain ⟨lv, h1, rfl⟩ := h59; obtain ⟨a', c', rfl⟩ := IsArr.form h1; refine OpAbs.mono (OpAbs.join (OpAbs.lit [_, _] rfl (Nat.le_of_ble_eq_true rfl) rfl rfl (by simp [Value.cells]) (Nat.le_of_ble_eq_true rfl) rfl (by simp [Value.oneCell'])) (.head _)) ?_; rintro m' v' ⟨m1, k1, k2, k3, _⟩; exact ⟨_, h1.le k2, k3.le k1⟩) rfl rfl rfl rfl ?_ (hG := ⟨(by repeat (first | exact .head _ | refine .tail _ ?_)), rfl, trivial⟩)
    refine DJ.nil ?_
    rintro m60 v60 h60
    rintro m59 v59 h59
    rintro m52 v52 h52
    (obtain ⟨lv, h1, hc60⟩ := h60; refine WL.appK (pv2 lv (t.pieces.getD i default)) rfl (fun _ => .head _) rfl hc60 (by repeat (first | exact .head _ | refine .tail _ ?_)) rfl rfl (by omega) (by omega) (Nat.le_of_ble_eq_true rfl) rfl rfl rfl ?_; intro a61 cp61)
    refine WL.val (OpVal.fieldAddrB rfl) rfl rfl rfl ?_
    refine WL.store [_, _, _] rfl (.tail _ (.head _)) rfl rfl rfl (Nat.le_of_ble_eq_true rfl) (by first | (simp [Value.cells, Value.oneCell']; done) | exact IsArr.ones hW (by omega) | exact IsArr.ones hP (by omega)) rfl ?_
    refine WL.nil ?_
    refine Kblock.normal (Kseq.go ?_)
    refine W.join fun mj hj => ?_
    skip
    refine W.region ?_
    refine WL.val (OpVal.opv rfl) rfl rfl rfl ?_
    refine WL.val (OpVal.incr rfl (by omega)) rfl rfl rfl ?_
    refine WL.val (OpVal.opv rfl) rfl rfl rfl ?_
    refine WL.nil ?_
    skip
    refine Kloop.next (i + 1, .slice a61 ((pcs fs (t.pieces.take i)).length + 1) cp61, mj, fs ++ [lv]) ⟨by omega, ?_⟩ (by omega) ⟨rfl, rfl, rfl, rfl, trivial⟩ (by simp) ?_
    · dsimp only
      rw [take_snoc (by omega : i < (marksL t).length)]
      exact (hall.le (hj _ (by simp))).push (by rw [show (marksL t).getD i default = _ from hmk]; exact h1.le (hj _ (by simp)))
    · dsimp only
      rw [take_snoc (by omega : i < t.pieces.length)]
      rw [show pcs (fs ++ [lv]) (t.pieces.take i ++ [t.pieces.getD i default]) = pcs fs (t.pieces.take i) ++ [pv2 lv (t.pieces.getD i default)] by
        unfold pcs; rw [List.zipWith_append (by simp [hfl]; omega)]; rfl]
      exact (by repeat (first | exact List.Sublist.refl _ | refine List.Sublist.cons _ ?_ | refine List.Sublist.cons_cons _ ?_))
  · refine W.exit (Kseq.exit (Kloop.exit (Kblock.here (Kseq.go (W.seq ?_)))))
    have hip : i = t.pieces.length := by omega
    subst hip
    rw [List.take_of_length_le (by omega)] at hall
    rw [List.take_length]
    refine W.freezeK (.head _) (fun b hb => (hF b hb).elim) (by omega) ?_ ?_ fun m2 hm2 => ?_
    · intro u hu
      obtain ⟨j, hj, rfl⟩ := List.mem_iff_getElem.1 hu
      simp [pcs, pv2, Value.cells]
    · intro u hu
      obtain ⟨j, hj, rfl⟩ := List.mem_iff_getElem.1 hu
      simp [pcs, pv2, Value.cells, Value.oneCell']
      exact hall.one _ (List.getElem_mem _)
    have hm2' := pieces_of hfl hm2
    clear hm2
    obtain ⟨a2, c2, rfl⟩ := IsArr.form hm2'
    refine W.join fun mj hj => ?_
    skip
    refine W.region ?_
    refine WL.val (OpVal.loadBW rfl (.head _) rfl) rfl rfl rfl ?_
    refine WL.store [_, _, _] rfl (.tail _ (.head _)) rfl rfl rfl (Nat.le_of_ble_eq_true rfl) (by first | (simp [Value.cells, Value.oneCell']; done) | exact IsArr.ones hW (by omega) | exact IsArr.ones hP (by omega)) rfl ?_
    refine WL.nil ?_
    refine Kseq.go ?_
    refine W.ret ?_; skip
    refine ⟨.inl rfl, [_], mj, ⟨.agg inferInstance inferInstance rfl (.tail _ (.head _)) rfl, trivial⟩, .head _, _, _, fun i => fs.getD i undef, rfl, hm1'.le (hj _ (by simp)), hm2'.le (hj _ (by simp)), fun i hi => ?_⟩
    have := hall.2 i (by omega)
    rw [show (marksL t).getD i [] = (t.pieces.getD i default).marks by simp [marksL, List.getD_eq_getElem?_getD, List.getElem?_eq_getElem hi]] at this
    exact this.le (hj _ (by simp))
end Go.Proofs.Ytgolpbkapphciaa
