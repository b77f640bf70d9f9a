/- The program's questions of chapter 3: their contracts. -/
import Derived.Test.YtbmohbeocnfefaaT21
import Derived.Test.YtbmohbeocnfefaaEngineB
namespace Go.Proofs.Ytbmohbeocnfefaa
open Go Go.Eng Go.RowKit

/-- slices.Clone -/
theorem clone_any {h : Mem} {v : Value} {xs : List Int} (hv : IsInts h v xs) (hb : xs.length < 1000000000000) : FnR Try.prog 34 #[v] h (fun m r => IsInts m r xs) := by
  obtain ⟨a, cp, rfl⟩ := IsArr.form hv
  refine FnR.of_W (n := 8) Try.func34 rfl rfl (Nat.le_of_ble_eq_true rfl) fun c hr hD hF => ?_
  refine W.seq ?_
  refine W.region ?_
  refine WL.val (OpVal.opv rfl) rfl rfl rfl ?_
  refine WL.nil ?_
  refine Kseq.go (W.seq (W.seq ?_))
  skip
  refine W.region ?_
  refine WL.val (OpVal.opv rfl) rfl rfl rfl ?_
  refine WL.val (OpVal.eqNil rfl rfl) rfl rfl rfl ?_
  refine WL.nil ?_
  refine Kseq.go ?_
  refine W.cond rfl rfl (fun he => ?_) (fun hne => ?_)
  · refine W.seq ?_
    refine W.region ?_
    refine WL.val (OpVal.opv rfl) rfl rfl rfl ?_
    refine WL.nil ?_
    refine Kseq.go ?_
    refine W.ret ?_; refine Kseq.ret ?_; refine ⟨.inl rfl, [_], h, ⟨.tmp rfl, trivial⟩, (by repeat (first | exact .head _ | refine .tail _ ?_)), ?_⟩
    have h0 : xs = [] := by
      obtain ⟨a', c', e, _, _, _, h4⟩ := hv
      cases e
      rcases Nat.eq_zero_or_pos xs.length with h5 | h5
      · exact List.length_eq_zero_iff.1 h5
      · obtain ⟨b, o, rfl, _⟩ := h4 h5
        cases he
    subst h0
    exact IsInts.nil h
  · refine W.skip (Kseq.go (W.seq ?_))
    refine W.region ?_
    (refine WL.lit (vs := []) [] rfl (Nat.le_of_ble_eq_true rfl) rfl rfl (by simp) (Nat.le_of_ble_eq_true rfl) rfl rfl rfl rfl (fun b5 => ?_))
    refine WL.val (OpVal.opv rfl) rfl rfl rfl ?_
    (refine WL.appInts (xs := []) rfl (fun _ => .head _) rfl hv (by repeat (first | exact .head _ | refine .tail _ ?_)) (by simp; omega) rfl rfl rfl ?_; intro a7 c7)
    refine WL.val (OpVal.opv rfl) rfl rfl rfl ?_
    refine WL.nil ?_
    refine Kseq.go ?_
    refine W.freezeInts (.head _) (fun b hb => (hF b hb).elim) fun mr hmr => ?_
    refine W.ret ?_; skip; refine ⟨.inl rfl, [_], mr, ⟨.tmp rfl, trivial⟩, (by repeat (first | exact .head _ | refine .tail _ ?_)), ?_⟩
    exact hmr

/-- Fewest -/
theorem fewestT_any {h : Mem} {v : Value} {t : Table} (hv : IsTable h v t) (hs : Sm t) : FnR Try.prog 15 #[v] h (fun m r => ∃ lv, r = .tuple #[lv, vi (askE t)] ∧ IsInts m lv (if askE t = 0 then fewest t (ask t) else [])) := by
  have hv' := hv
  obtain ⟨wv, pv, f, rfl, hW, hP, hM⟩ := hv
  refine FnR.of_W (n := 22) Try.func15 rfl rfl (Nat.le_of_ble_eq_true rfl) fun c hr hD hF => ?_
  refine W.seq ?_
  refine W.region ?_
  refine WL.box rfl rfl rfl rfl (fun b1 => ?_)
  refine WL.val (OpVal.opv rfl) rfl rfl rfl ?_
  refine WL.val (OpVal.opv rfl) rfl rfl rfl ?_
  refine WL.nil ?_
  refine Kseq.go (W.seq ?_)
  skip
  refine W.region ?_
  refine WL.val (OpVal.loadBW rfl (.head _) rfl) rfl rfl rfl ?_
  refine WL.abs (OpAbs.call rfl (fun m hm => asked_any (hv'.le (by repeat (first | exact hm.1 | replace hm := hm.2))) hs)) rfl rfl rfl ?_
  rintro m9 _ (⟨hE, rfl⟩ | ⟨hVa, hne, b, rfl, hwk⟩)
  · refine WL.val (OpVal.opv rfl) rfl rfl rfl ?_
    refine WL.val (OpVal.opv rfl) rfl rfl rfl ?_
    refine WL.val (OpVal.opv rfl) rfl rfl rfl ?_
    refine WL.val (OpVal.opv rfl) rfl rfl rfl ?_
    refine WL.val (OpVal.opv rfl) rfl rfl rfl ?_
    refine WL.nil ?_
    refine Kseq.go (W.seq (W.seq ?_))
    skip
    refine W.region ?_
    refine WL.val (OpVal.opv rfl) rfl rfl rfl ?_
    refine WL.val (OpVal.opv rfl) rfl rfl rfl ?_
    refine WL.nil ?_
    refine Kseq.go ?_
    refine W.cond rfl rfl (fun he => ?_) (fun he => absurd he (by simp [hE]))
    refine W.seq ?_
    refine W.region ?_
    refine WL.val (OpVal.opv rfl) rfl rfl rfl ?_
    refine WL.val (OpVal.opv rfl) rfl rfl rfl ?_
    refine WL.val (OpVal.opv rfl) rfl rfl rfl ?_
    refine WL.nil ?_
    refine Kseq.go ?_
    refine W.ret ?_; refine Kseq.ret ?_; refine ⟨.inl rfl, [_, _], h, ⟨.tmp rfl, .tmp rfl, trivial⟩, (by repeat (first | exact .head _ | refine .tail _ ?_)), ?_⟩
    exact ⟨_, rfl, by rw [if_neg hE]; exact IsInts.nil _⟩
  · have hE : askE t = 0 := by unfold askE; rw [if_pos (fault_zero.2 hVa), if_neg hne]
    have hpos : 0 < (ask t).length := List.length_pos_iff.2 hne
    have hof := ask_owns hVa.pieces (bestTo_lt t hpos _ (Nat.le_refl _))
    rw [show (ask t).getD (bestTo t (ask t) (ask t).length) [] = fewest t (ask t) from rfl] at hof
    refine WL.val (OpVal.opv rfl) rfl rfl rfl ?_
    refine WL.val (OpVal.opv rfl) rfl rfl rfl ?_
    refine WL.val (OpVal.opv rfl) rfl rfl rfl ?_
    refine WL.val (OpVal.opv rfl) rfl rfl rfl ?_
    refine WL.val (OpVal.opv rfl) rfl rfl rfl ?_
    refine WL.nil ?_
    refine Kseq.go (W.seq (W.seq ?_))
    skip
    refine W.region ?_
    refine WL.val (OpVal.opv rfl) rfl rfl rfl ?_
    refine WL.val (OpVal.opv rfl) rfl rfl rfl ?_
    refine WL.nil ?_
    refine Kseq.go ?_
    refine W.cond rfl rfl (fun he => absurd he (by simp)) (fun he => ?_)
    refine W.skip (Kseq.go (W.seq ?_))
    refine W.region ?_
    refine WL.val (OpVal.opv rfl) rfl rfl rfl ?_
    refine WL.val (OpVal.call rfl (fun m hm => best_any (hwk.le (by repeat (first | exact hm.1 | replace hm := hm.2))) (hv'.le (by repeat (first | exact hm.1 | replace hm := hm.2))) hs hVa.pieces hne)) rfl rfl rfl ?_
    refine WL.alloc rfl rfl rfl (fun b6 => ?_)
    (refine WL.storeAll rfl (.head _) rfl rfl hof.pl (by rfl) (by simp [Value.oneCell']) ?_)
    refine WL.nil ?_
    refine Kseq.go (W.seq ?_)
    refine W.freezeBox (.head _) (fun b hb => (hF b hb).elim) fun m6 h6 => ?_
    have hI : IsInts m6 (.slice (some ⟨b6, 0, none⟩) t.pieces.length 7) (fewest t (ask t)) := by
      have := IsInts.ofBox (xs := fewest t (ask t)) (L := 7) h6 (fun i hi => by have := pad_at hi; rwa [Nat.zero_add] at this) hof.le7 (by unfold maxLen; omega)
      rwa [hof.len] at this
    skip
    refine W.region ?_
    refine WL.val (OpVal.fieldAddrB rfl) rfl rfl rfl ?_
    refine WL.val (OpVal.loadB rfl (.head _) rfl) rfl rfl rfl ?_
    refine WL.val (OpVal.len rfl (by assumption)) rfl rfl rfl ?_
    refine WL.val (OpVal.sliceArr rfl rfl hVa.pieces (by omega)) rfl rfl rfl ?_
    refine WL.abs (OpAbs.call rfl (fun m hm => clone_any (hI.le (by repeat (first | exact hm.1 | replace hm := hm.2))) (by have := hof.le7; omega))) rfl rfl rfl ?_
    rintro m21 v21 h21
    refine WL.val (OpVal.opv rfl) rfl rfl rfl ?_
    refine WL.val (OpVal.opv rfl) rfl rfl rfl ?_
    refine WL.nil ?_
    refine Kseq.go ?_
    refine W.ret ?_; skip; refine ⟨.inl rfl, [_, _], m21, ⟨.tmp rfl, .tmp rfl, trivial⟩, (by repeat (first | exact .head _ | refine .tail _ ?_)), ?_⟩
    exact ⟨_, by rw [hE]; rfl, by rw [if_pos hE]; exact h21⟩
end Go.Proofs.Ytbmohbeocnfefaa

/- The program's questions of chapter 3, on: their contracts. -/
namespace Go.Proofs.Ytbmohbeocnfefaa
open Go Go.Eng Go.RowKit

def IsMoves (m : Mem) (v : Value) (ms : List Move) : Prop := IsArr m 3 v ms.length (fun i j => match j with
  | 0 => vi (ms.getD i default).piece
  | 1 => vi (ms.getD i default).fro
  | _ => vi (ms.getD i default).to)
theorem IsMoves.le {m m' : Mem} {v : Value} {ms : List Move} (h : IsMoves m v ms) (hm : MLe m m') : IsMoves m' v ms := IsArr.le h hm
theorem IsMoves.bd {m : Mem} {v : Value} {ms : List Move} (h : IsMoves m v ms) : ms.length ≤ 9223372036854775807 := by have := IsArr.len h; unfold maxLen at this; omega
def mv3 (m : Move) : Value := .agg #[vi m.piece, vi m.fro, vi m.to]
theorem moves_of {m : Mem} {v : Value} {ms : List Move} (h : IsArr m 3 v (ms.map mv3).length (fun i j => ((ms.map mv3).getD i undef).cells.getD j undef)) : IsMoves m v ms := by
  rw [List.length_map] at h
  refine h.congr fun i j hi hj => ?_
  simp only [List.getD_eq_getElem?_getD, List.getElem?_map, List.getElem?_eq_getElem hi, Option.map_some, Option.getD_some]
  match j, hj with
  | 0, _ => rfl
  | 1, _ => rfl
  | 2, _ => rfl

/-- Moves -/
theorem movesT_any {h : Mem} {v : Value} {t : Table} (hv : IsTable h v t) (hs : Sm t) : FnR Try.prog 22 #[v] h (fun m r => ∃ lv, r = .tuple #[lv, vi (askE t)] ∧ IsMoves m lv (if askE t = 0 then movesOf t (fewest t (ask t)) else [])) := by
  have hv' := hv
  obtain ⟨wv, pv, f, rfl, hW, hP, hM⟩ := hv
  refine FnR.of_W (n := 47) Try.func22 rfl rfl (Nat.le_of_ble_eq_true rfl) fun c hr hD hF => ?_
  refine W.seq ?_
  refine W.region ?_
  refine WL.box rfl rfl rfl rfl (fun b1 => ?_)
  refine WL.val (OpVal.opv rfl) rfl rfl rfl ?_
  refine WL.val (OpVal.opv rfl) rfl rfl rfl ?_
  refine WL.nil ?_
  refine Kseq.go (W.seq ?_)
  refine W.freezeBox (.head _) (fun b hb => (hF b hb).elim) fun m1 h1 => ?_
  skip
  refine W.region ?_
  refine WL.val (OpVal.loadPW rfl (by assumption) (by repeat (first | exact .head _ | refine .tail _ ?_)) (by rfl)) rfl rfl rfl ?_
  refine WL.abs (OpAbs.call rfl (fun m hm => asked_any (hv'.le (by repeat (first | exact hm.1 | replace hm := hm.2))) hs)) rfl rfl rfl ?_
  rintro m12 _ (⟨hE, rfl⟩ | ⟨hVa, hne, b, rfl, hwk⟩)
  · refine WL.val (OpVal.opv rfl) rfl rfl rfl ?_
    refine WL.val (OpVal.opv rfl) rfl rfl rfl ?_
    refine WL.val (OpVal.opv rfl) rfl rfl rfl ?_
    refine WL.val (OpVal.opv rfl) rfl rfl rfl ?_
    refine WL.val (OpVal.opv rfl) rfl rfl rfl ?_
    refine WL.nil ?_
    refine Kseq.go (W.seq (W.seq ?_))
    skip
    refine W.region ?_
    refine WL.val (OpVal.opv rfl) rfl rfl rfl ?_
    refine WL.val (OpVal.opv rfl) rfl rfl rfl ?_
    refine WL.nil ?_
    refine Kseq.go ?_
    refine W.cond rfl rfl (fun he => ?_) (fun he => absurd he (by simp [hE]))
    refine W.seq ?_
    refine W.region ?_
    refine WL.val (OpVal.opv rfl) rfl rfl rfl ?_
    refine WL.val (OpVal.opv rfl) rfl rfl rfl ?_
    refine WL.val (OpVal.opv rfl) rfl rfl rfl ?_
    refine WL.nil ?_
    refine Kseq.go ?_
    refine W.ret ?_; refine Kseq.ret ?_; refine ⟨.inl rfl, [_, _], h, ⟨.tmp rfl, .tmp rfl, trivial⟩, (by repeat (first | exact .head _ | refine .tail _ ?_)), ?_⟩
    exact ⟨_, rfl, by rw [if_neg hE]; exact IsArr.nil _ _ _⟩
  · have hE : askE t = 0 := by unfold askE; rw [if_pos (fault_zero.2 hVa), if_neg hne]
    have hpos : 0 < (ask t).length := List.length_pos_iff.2 hne
    have hof := ask_owns hVa.pieces (bestTo_lt t hpos _ (Nat.le_refl _))
    rw [show (ask t).getD (bestTo t (ask t) (ask t).length) [] = fewest t (ask t) from rfl] at hof
    generalize hl : fewest t (ask t) = l at hof
    have hwk' := hwk
    obtain ⟨_, _, trv, mb, e0, hB, _, _⟩ := hwk'
    cases e0
    refine WL.val (OpVal.opv rfl) rfl rfl rfl ?_
    refine WL.val (OpVal.opv rfl) rfl rfl rfl ?_
    refine WL.val (OpVal.opv rfl) rfl rfl rfl ?_
    refine WL.val (OpVal.opv rfl) rfl rfl rfl ?_
    refine WL.val (OpVal.opv rfl) rfl rfl rfl ?_
    refine WL.nil ?_
    refine Kseq.go (W.seq (W.seq ?_))
    skip
    refine W.region ?_
    refine WL.val (OpVal.opv rfl) rfl rfl rfl ?_
    refine WL.val (OpVal.opv rfl) rfl rfl rfl ?_
    refine WL.nil ?_
    refine Kseq.go ?_
    refine W.cond rfl rfl (fun he => absurd he (by simp)) (fun he => ?_)
    refine W.skip (Kseq.go (W.seq ?_))
    refine W.region ?_
    refine WL.val (OpVal.opv rfl) rfl rfl rfl ?_
    refine WL.val (OpVal.cast (OpVal.call rfl (fun m hm => best_any (hwk.le (by repeat (first | exact hm.1 | replace hm := hm.2))) (hv'.le (by repeat (first | exact hm.1 | replace hm := hm.2))) hs hVa.pieces hne)) (by rw [hl])) rfl rfl rfl ?_
    refine WL.alloc rfl rfl rfl (fun b6 => ?_)
    (refine WL.storeAll rfl (.head _) rfl rfl hof.pl (by rfl) (by simp [Value.oneCell']) ?_)
    refine WL.nil ?_
    refine Kseq.go (W.seq ?_)
    refine W.freezeBox (.head _) (fun b hb => (hF b hb).elim) fun m6 h6 => ?_
    skip
    refine W.region ?_
    refine WL.val (OpVal.opv rfl) rfl rfl rfl ?_
    refine WL.nil ?_
    refine Kseq.go (W.seq (W.seq ?_))
    skip
    refine W.draw 8 (by kernel_rfl) (by kernel_rfl) (by kernel_rfl) rfl ?_
    refine DJ.val [] (OpVal.opv rfl) rfl rfl rfl rfl ?_
    refine DJ.val [] (OpVal.opv rfl) rfl rfl rfl rfl ?_
    refine DJ.val [] (OpVal.fieldAddrB rfl) rfl rfl rfl rfl ?_
    refine DJ.val [] (OpVal.loadPA (vs := [wv, pv, vi t.wrong]) rfl hB (by repeat (first | exact .head _ | refine .tail _ ?_)) rfl rfl) rfl rfl rfl rfl ?_
    refine DJ.val [] (OpVal.loadPW rfl h6 (by repeat (first | exact .head _ | refine .tail _ ?_)) hof.pl) rfl rfl rfl rfl ?_
    refine DJ.abs (A := fun m r => IsInts m r (astray t l)) [] (OpAbs.call rfl (fun m hm => astrayP_any (hv'.le (by repeat (first | exact hm.1 | replace hm := hm.2))) hs hof)) rfl rfl rfl rfl ?_
    refine DJ.val [(25, fun m r => IsInts m r (astray t l))] (fun m25 v25 h25 => OpVal.len rfl (by assumption)) rfl rfl rfl rfl ?_ (hG := ⟨(by repeat (first | exact .head _ | refine .tail _ ?_)), rfl, trivial⟩)
    refine DJ.val [] (OpVal.opv rfl) rfl rfl rfl rfl ?_
    refine DJ.nil ?_
    rintro m25 v25 h25
    refine WL.nil ?_
    refine Kseq.go (W.block ?_)
    have hal : (astray t l).length ≤ l.length := sel_len _ _
    have h7 := hof.le7
    have hml : (movesOf t l).length = (astray t l).length := by simp [movesOf]
    refine W.nilRow 73 3 ?_
    refine W.loopA (σ := Nat × Value) (fun s => [(1, .pointer (some ⟨b1, 0, none⟩)), (6, .pointer (some ⟨b6, 0, none⟩)), (7, s.2), (25, v25), (26, .int .i64 ((astray t l).length : Int)), (27, .int .i64 (s.1 : Int))]) (fun s => kr 73 3 s.2 (((movesOf t l).take s.1).map mv3)) (fun s => s.1 ≤ (astray t l).length) (fun s => (astray t l).length - s.1) (0, .slice none 0 0) ⟨rfl, rfl, rfl, rfl, rfl, rfl, trivial⟩ rfl (Nat.zero_le _) ?_
    rintro ⟨k, a⟩ hk
    dsimp only at hk ⊢
    have hlen : (((movesOf t l).take k).map mv3).length = k := by simp; omega
    refine W.seq ?_
    refine W.region ?_
    refine WL.val (OpVal.opv rfl) rfl rfl rfl ?_
    refine WL.nil ?_
    refine Kseq.go (W.seq ?_)
    refine W.condD rfl rfl (fun hlt => ?_) (fun hge => ?_)
    · obtain ⟨y, hy, _, hye⟩ := mem_sel.1 (mem_getD (xs := astray t l) (i := k) (by omega))
      have hMy := hM y (by have := hof.len; omega)
      have hyp : y < t.pieces.length := by have := hof.len; omega
      have hmk : (movesOf t l).getD k default = ⟨y, (t.pieces.getD y default).bundle, l.getD y 0⟩ := by
        have : k < (astray t l).length := by omega
        unfold movesOf
        rw [List.getD_eq_getElem?_getD] at hye
        simp only [List.getElem?_eq_getElem this, Option.getD_some] at hye
        simp only [List.getD_eq_getElem?_getD, List.getElem?_map, List.getElem?_eq_getElem this, Option.map_some, Option.getD_some, hye]
        rfl
      refine W.skip (Kseq.go (W.seq (W.block (W.seq ?_))))
      refine W.region ?_
      refine WL.val (OpVal.indexAddrN rfl rfl (by assumption) (by omega)) rfl rfl rfl ?_
      refine WL.val (OpVal.cast (OpVal.loadE rfl h25 (by repeat (first | exact .head _ | refine .tail _ ?_)) (by omega) (by omega)) (congrArg (Value.int .i64) hye)) rfl rfl rfl ?_
      refine WL.val (OpVal.opv rfl) rfl rfl rfl ?_
      refine WL.nil ?_
      refine Kseq.go ?_
      skip
      refine W.draw 13 (by kernel_rfl) (by kernel_rfl) (by kernel_rfl) rfl ?_
      refine DJ.val [] (OpVal.opv rfl) rfl rfl rfl rfl ?_
      refine DJ.val [] (OpVal.opv rfl) rfl rfl rfl rfl ?_
      refine DJ.val [] (OpVal.fieldAddrB rfl) rfl rfl rfl rfl ?_
      refine DJ.val [] (OpVal.loadP rfl (by assumption) (by repeat (first | exact .head _ | refine .tail _ ?_)) rfl) rfl rfl rfl rfl ?_
      refine DJ.val [] (OpVal.opv rfl) rfl rfl rfl rfl ?_
      refine DJ.val [] (OpVal.indexAddrN rfl rfl (by assumption) (by omega)) rfl rfl rfl rfl ?_
      refine DJ.val [] (OpVal.fieldAddrN rfl (by assumption) (by omega)) rfl rfl rfl rfl ?_
      refine DJ.val [] (OpVal.loadE rfl (by assumption) (by repeat (first | exact .head _ | refine .tail _ ?_)) (by omega) (by omega)) rfl rfl rfl rfl ?_
      refine DJ.val [] (OpVal.opv rfl) rfl rfl rfl rfl ?_
      refine DJ.val [] (OpVal.indexAddrB rfl rfl (by omega)) rfl rfl rfl rfl ?_
      refine DJ.val [] (OpVal.loadP rfl h6 (by repeat (first | exact .head _ | refine .tail _ ?_)) (pad_at hy)) rfl rfl rfl rfl ?_
      refine DJ.val [] (OpVal.build3 rfl rfl) rfl rfl rfl rfl ?_
      refine DJ.abs (A := fun m r => IsCells m 3 r 1 [vi y, vi (t.pieces.getD y default).bundle, vi (l.getD y 0)]) [] (OpAbs.mono (OpAbs.lit [vi y, vi (t.pieces.getD y default).bundle, vi (l.getD y 0)] rfl (Nat.le_of_ble_eq_true rfl) rfl rfl (by simp [Value.cells]) (Nat.le_of_ble_eq_true rfl) rfl (by simp [Value.oneCell'])) (fun m' v' h' => h'.1)) rfl rfl rfl rfl ?_
      refine DJ.nil ?_
      rintro m43 v43 h43
      (refine WL.appK (mv3 ⟨y, (t.pieces.getD y default).bundle, l.getD y 0⟩) rfl (fun _ => .head _) rfl h43 (by repeat (first | exact .head _ | refine .tail _ ?_)) rfl rfl (by omega) (by omega) (Nat.le_of_ble_eq_true rfl) rfl rfl rfl ?_; intro a44 c44)
      refine WL.val (OpVal.opv rfl) rfl rfl rfl ?_
      refine WL.nil ?_
      refine Kblock.normal (Kseq.go ?_)
      skip
      refine W.region ?_
      refine WL.val (OpVal.incr rfl (by omega)) rfl rfl rfl ?_
      refine WL.val (OpVal.opv rfl) rfl rfl rfl ?_
      refine WL.nil ?_
      skip
      refine Kloop.next (k + 1, .slice a44 ((((movesOf t l).take k).map mv3).length + 1) c44) (by omega) (by omega) ⟨rfl, rfl, rfl, rfl, rfl, rfl, trivial⟩ (by simp) ?_
      rw [take_succ_getD (d := default) (show k < (movesOf t l).length by omega), List.map_append, hmk]
      exact (by repeat (first | exact List.Sublist.refl _ | refine List.Sublist.cons _ ?_ | refine List.Sublist.cons_cons _ ?_))
    · have : k = (movesOf t l).length := by omega
      subst this
      rw [List.take_length]
      refine W.exit (Kseq.exit (Kloop.exit (Kblock.here (Kseq.go (W.seq ?_)))))
      refine W.freezeK (.head _) (fun b hb => (hF b hb).elim) (by omega) (by simp [mv3, Value.cells]) (by simp [mv3, Value.cells, Value.oneCell']) fun mr hmr => ?_
      skip
      refine W.region ?_
      refine WL.val (OpVal.opv rfl) rfl rfl rfl ?_
      refine WL.val (OpVal.opv rfl) rfl rfl rfl ?_
      refine WL.val (OpVal.opv rfl) rfl rfl rfl ?_
      refine WL.nil ?_
      refine Kseq.go ?_
      refine W.ret ?_; skip; refine ⟨.inl rfl, [_, _], mr, ⟨.tmp rfl, .tmp rfl, trivial⟩, (by repeat (first | exact .head _ | refine .tail _ ?_)), ?_⟩
      exact ⟨_, by rw [hE]; rfl, by rw [if_pos hE]; exact moves_of hmr⟩
end Go.Proofs.Ytbmohbeocnfefaa

/- The program's questions of chapter 3, on: their contracts. -/
namespace Go.Proofs.Ytbmohbeocnfefaa
open Go Go.Eng Go.RowKit

/-- The verdict of a woman. -/
def missV (t : Table) (w : Nat) : Int :=
  if 0 < loQ (fun l => (missedN t l w : Int)) (ask t) (ask t).length then 1 else if hiQ (fun l => (missedN t l w : Int)) (ask t) (ask t).length = 0 then 2 else 3
def missTo (t : Table) (k : Nat) : List Int := (List.range k).map (missV t)
theorem missTo_succ (t : Table) (k : Nat) : missTo t (k + 1) = missTo t k ++ [missV t k] := by simp [missTo, List.range_succ]
/-- Misses -/
theorem missesT_any {h : Mem} {v : Value} {t : Table} (hv : IsTable h v t) (hs : Sm t) : FnR Try.prog 23 #[v] h (fun m r => ∃ lv, r = .tuple #[lv, vi (askE t)] ∧ IsInts m lv (if askE t = 0 then missTo t t.women.length else [])) := by
  have hv' := hv
  obtain ⟨wv, pv, f, rfl, hW, hP, hM⟩ := hv
  refine FnR.of_W (n := 42) Try.func23 rfl rfl (Nat.le_of_ble_eq_true rfl) fun c hr hD hF => ?_
  refine W.seq ?_
  refine W.region ?_
  refine WL.box rfl rfl rfl rfl (fun b1 => ?_)
  refine WL.val (OpVal.opv rfl) rfl rfl rfl ?_
  refine WL.val (OpVal.opv rfl) rfl rfl rfl ?_
  refine WL.nil ?_
  refine Kseq.go (W.seq ?_)
  refine W.freezeBox (.head _) (fun b hb => (hF b hb).elim) fun m1 h1 => ?_
  skip
  refine W.region ?_
  refine WL.val (OpVal.loadPW rfl (by assumption) (by repeat (first | exact .head _ | refine .tail _ ?_)) (by rfl)) rfl rfl rfl ?_
  refine WL.abs (OpAbs.call rfl (fun m hm => asked_any (hv'.le (by repeat (first | exact hm.1 | replace hm := hm.2))) hs)) rfl rfl rfl ?_
  rintro m12 _ (⟨hE, rfl⟩ | ⟨hVa, hne, b, rfl, hwk⟩)
  · refine WL.val (OpVal.opv rfl) rfl rfl rfl ?_
    refine WL.val (OpVal.opv rfl) rfl rfl rfl ?_
    refine WL.val (OpVal.opv rfl) rfl rfl rfl ?_
    refine WL.val (OpVal.opv rfl) rfl rfl rfl ?_
    refine WL.val (OpVal.opv rfl) rfl rfl rfl ?_
    refine WL.nil ?_
    refine Kseq.go (W.seq (W.seq ?_))
    skip
    refine W.region ?_
    refine WL.val (OpVal.opv rfl) rfl rfl rfl ?_
    refine WL.val (OpVal.opv rfl) rfl rfl rfl ?_
    refine WL.nil ?_
    refine Kseq.go ?_
    refine W.cond rfl rfl (fun he => ?_) (fun he => absurd he (by simp [hE]))
    refine W.seq ?_
    refine W.region ?_
    refine WL.val (OpVal.opv rfl) rfl rfl rfl ?_
    refine WL.val (OpVal.opv rfl) rfl rfl rfl ?_
    refine WL.val (OpVal.opv rfl) rfl rfl rfl ?_
    refine WL.nil ?_
    refine Kseq.go ?_
    refine W.ret ?_; refine Kseq.ret ?_; refine ⟨.inl rfl, [_, _], h, ⟨.tmp rfl, .tmp rfl, trivial⟩, (by repeat (first | exact .head _ | refine .tail _ ?_)), ?_⟩
    exact ⟨_, rfl, by rw [if_neg hE]; exact IsInts.nil _⟩
  · have hE : askE t = 0 := by unfold askE; rw [if_pos (fault_zero.2 hVa), if_neg hne]
    have hs1 := hs.1
    refine WL.val (OpVal.opv rfl) rfl rfl rfl ?_
    refine WL.val (OpVal.opv rfl) rfl rfl rfl ?_
    refine WL.val (OpVal.opv rfl) rfl rfl rfl ?_
    refine WL.val (OpVal.opv rfl) rfl rfl rfl ?_
    refine WL.val (OpVal.opv rfl) rfl rfl rfl ?_
    refine WL.nil ?_
    refine Kseq.go (W.seq (W.seq ?_))
    skip
    refine W.region ?_
    refine WL.val (OpVal.opv rfl) rfl rfl rfl ?_
    refine WL.val (OpVal.opv rfl) rfl rfl rfl ?_
    refine WL.nil ?_
    refine Kseq.go ?_
    refine W.cond rfl rfl (fun he => absurd he (by simp)) (fun he => ?_)
    refine W.skip (Kseq.go (W.seq ?_))
    refine W.region ?_
    refine WL.val (OpVal.opv rfl) rfl rfl rfl ?_
    refine WL.nil ?_
    refine Kseq.go (W.seq (W.seq ?_))
    skip
    refine W.region ?_
    refine WL.val (OpVal.fieldAddrB rfl) rfl rfl rfl ?_
    refine WL.val (OpVal.loadP rfl (by assumption) (by repeat (first | exact .head _ | refine .tail _ ?_)) rfl) rfl rfl rfl ?_
    refine WL.val (OpVal.len rfl (by assumption)) rfl rfl rfl ?_
    refine WL.val (OpVal.opv rfl) rfl rfl rfl ?_
    refine WL.nil ?_
    refine Kseq.go (W.block ?_)
    refine W.nilRow 3 1 ?_
    refine W.loopA (σ := Nat × Value) (fun s => [(1, .pointer (some ⟨b1, 0, none⟩)), (4, .pointer (some ⟨b, 0, none⟩)), (6, s.2), (20, .int .i64 (t.women.length : Int)), (21, .int .i64 (s.1 : Int))]) (fun s => ir 3 s.2 (missTo t s.1)) (fun s => s.1 ≤ t.women.length) (fun s => t.women.length - s.1) (0, .slice none 0 0) ⟨rfl, rfl, rfl, rfl, rfl, trivial⟩ rfl (Nat.zero_le _) ?_
    rintro ⟨k, a⟩ hk
    dsimp only at hk ⊢
    have hlen : (missTo t k).length = k := by simp [missTo]
    refine W.seq ?_
    refine W.region ?_
    refine WL.val (OpVal.opv rfl) rfl rfl rfl ?_
    refine WL.nil ?_
    refine Kseq.go (W.seq ?_)
    refine W.condD rfl rfl (fun hlt => ?_) (fun hge => ?_)
    · refine W.skip (Kseq.go (W.seq (W.block (W.seq ?_))))
      refine W.region ?_
      refine WL.val (OpVal.opv rfl) rfl rfl rfl ?_
      refine WL.val (OpVal.opv rfl) rfl rfl rfl ?_
      refine WL.nil ?_
      refine Kseq.go (W.seq ?_)
      let lo := loQ (fun l => (missedN t l k : Int)) (ask t) (ask t).length
      let hi := hiQ (fun l => (missedN t l k : Int)) (ask t) (ask t).length
      skip
      refine W.region ?_
      refine WL.val (OpVal.build1 rfl rfl) rfl rfl rfl ?_
      refine WL.val (OpVal.opv rfl) rfl rfl rfl ?_
      refine WL.val (OpVal.opv rfl) rfl rfl rfl ?_
      refine WL.val (OpVal.call rfl (fun m hm => bounds_any (g := fun l => (missedN t l k : Int)) k (hwk.le (by repeat (first | exact hm.1 | replace hm := hm.2))) hVa.pieces hne (fun h' hh l ho => missed_any k (hwk.le (MLe.trans (by repeat (first | exact hm.1 | replace hm := hm.2)) hh)) (hv'.le (MLe.trans (by repeat (first | exact hm.1 | replace hm := hm.2)) hh)) hs ho))) rfl rfl rfl ?_
      refine WL.alloc rfl rfl rfl (fun b8 => ?_)
      refine WL.store [_, _] rfl (.head _) rfl rfl rfl (Nat.le_of_ble_eq_true rfl) (by first | (simp [Value.cells, Value.oneCell']; done) | exact IsArr.ones hW (by omega) | exact IsArr.ones hP (by omega) | exact IsArr.ones hS (by omega) | exact IsArr.ones hH (by omega) | exact IsArr.ones hL (by omega) | exact IsArr.ones hB (by omega) | exact IsArr.ones hT (by omega) | exact IsArr.ones hm (by omega)) rfl ?_
      refine WL.val (OpVal.opv rfl) rfl rfl rfl ?_
      refine WL.nil ?_
      refine Kseq.go (W.seq (W.block (W.seq ?_)))
      skip
      refine W.region ?_
      refine WL.val (OpVal.fieldAddrB rfl) rfl rfl rfl ?_
      refine WL.val (OpVal.loadB rfl (.head _) rfl) rfl rfl rfl ?_
      refine WL.val (OpVal.opv rfl) rfl rfl rfl ?_
      refine WL.val (OpVal.opv rfl) rfl rfl rfl ?_
      refine WL.nil ?_
      refine Kseq.go ?_
      refine W.condD rfl rfl (fun h1 => ?_) (fun h1 => ?_)
      · skip
        refine W.region ?_
        refine WL.val (OpVal.opv rfl) rfl rfl rfl ?_
        refine WL.nil ?_
        refine Kblock.normal (Kseq.go ?_)
        skip
        refine W.region ?_
        refine WL.val (OpVal.opv rfl) rfl rfl rfl ?_
        refine WL.val (OpVal.opv rfl) rfl rfl rfl ?_
        refine WL.abs (OpAbs.lit [_] rfl (Nat.le_of_ble_eq_true rfl) rfl rfl (by simp [Value.cells]) (Nat.le_of_ble_eq_true rfl) rfl (by first | (simp [Value.oneCell']; done) | exact List.all_eq_true.1 rfl)) rfl rfl rfl ?_
        rintro m38 _ ⟨hc38, a38, rfl⟩
        refine WL.appInt rfl (fun _ => (.tail _ (.head _))) rfl (by assumption) (by repeat (first | exact .head _ | refine .tail _ ?_)) (by omega) rfl rfl rfl ?_
        intro a39 cp39
        refine WL.val (OpVal.opv rfl) rfl rfl rfl ?_
        refine WL.nil ?_
        refine Kblock.normal (Kseq.go ?_)
        skip
        refine W.region ?_
        refine WL.val (OpVal.incr rfl (by omega)) rfl rfl rfl ?_
        refine WL.val (OpVal.opv rfl) rfl rfl rfl ?_
        refine WL.nil ?_
        skip
        refine Kloop.next (k + 1, _) (by omega) (by omega) ⟨rfl, rfl, rfl, rfl, rfl, trivial⟩ (by simp) (by rw [missTo_succ, show missV t k = 1 by unfold missV; rw [if_pos h1]]; exact (by repeat (first | exact List.Sublist.refl _ | refine List.Sublist.cons _ ?_ | refine List.Sublist.cons_cons _ ?_)))
      · refine W.seq ?_
        refine W.region ?_
        refine WL.val (OpVal.fieldAddrB rfl) rfl rfl rfl ?_
        refine WL.val (OpVal.loadB rfl (.head _) rfl) rfl rfl rfl ?_
        refine WL.val (OpVal.opv rfl) rfl rfl rfl ?_
        refine WL.val (OpVal.opv rfl) rfl rfl rfl ?_
        refine WL.nil ?_
        refine Kseq.go ?_
        refine W.condD rfl rfl (fun h2 => ?_) (fun h2 => ?_)
        · skip
          refine W.region ?_
          refine WL.val (OpVal.opv rfl) rfl rfl rfl ?_
          refine WL.nil ?_
          refine Kblock.normal (Kseq.go ?_)
          skip
          refine W.region ?_
          refine WL.val (OpVal.opv rfl) rfl rfl rfl ?_
          refine WL.val (OpVal.opv rfl) rfl rfl rfl ?_
          refine WL.abs (OpAbs.lit [_] rfl (Nat.le_of_ble_eq_true rfl) rfl rfl (by simp [Value.cells]) (Nat.le_of_ble_eq_true rfl) rfl (by first | (simp [Value.oneCell']; done) | exact List.all_eq_true.1 rfl)) rfl rfl rfl ?_
          rintro m38 _ ⟨hc38, a38, rfl⟩
          refine WL.appInt rfl (fun _ => (.tail _ (.head _))) rfl (by assumption) (by repeat (first | exact .head _ | refine .tail _ ?_)) (by omega) rfl rfl rfl ?_
          intro a39 cp39
          refine WL.val (OpVal.opv rfl) rfl rfl rfl ?_
          refine WL.nil ?_
          refine Kblock.normal (Kseq.go ?_)
          skip
          refine W.region ?_
          refine WL.val (OpVal.incr rfl (by omega)) rfl rfl rfl ?_
          refine WL.val (OpVal.opv rfl) rfl rfl rfl ?_
          refine WL.nil ?_
          skip
          refine Kloop.next (k + 1, _) (by omega) (by omega) ⟨rfl, rfl, rfl, rfl, rfl, trivial⟩ (by simp) (by rw [missTo_succ, show missV t k = 2 by unfold missV; rw [if_neg h1, if_pos h2]]; exact (by repeat (first | exact List.Sublist.refl _ | refine List.Sublist.cons _ ?_ | refine List.Sublist.cons_cons _ ?_)))
        · refine W.skip (Kblock.normal (Kseq.go ?_))
          skip
          refine W.region ?_
          refine WL.val (OpVal.opv rfl) rfl rfl rfl ?_
          refine WL.val (OpVal.opv rfl) rfl rfl rfl ?_
          refine WL.abs (OpAbs.lit [_] rfl (Nat.le_of_ble_eq_true rfl) rfl rfl (by simp [Value.cells]) (Nat.le_of_ble_eq_true rfl) rfl (by first | (simp [Value.oneCell']; done) | exact List.all_eq_true.1 rfl)) rfl rfl rfl ?_
          rintro m38 _ ⟨hc38, a38, rfl⟩
          refine WL.appInt rfl (fun _ => (.tail _ (.head _))) rfl (by assumption) (by repeat (first | exact .head _ | refine .tail _ ?_)) (by omega) rfl rfl rfl ?_
          intro a39 cp39
          refine WL.val (OpVal.opv rfl) rfl rfl rfl ?_
          refine WL.nil ?_
          refine Kblock.normal (Kseq.go ?_)
          skip
          refine W.region ?_
          refine WL.val (OpVal.incr rfl (by omega)) rfl rfl rfl ?_
          refine WL.val (OpVal.opv rfl) rfl rfl rfl ?_
          refine WL.nil ?_
          skip
          refine Kloop.next (k + 1, _) (by omega) (by omega) ⟨rfl, rfl, rfl, rfl, rfl, trivial⟩ (by simp) (by rw [missTo_succ, show missV t k = 3 by unfold missV; rw [if_neg h1, if_neg h2]]; exact (by repeat (first | exact List.Sublist.refl _ | refine List.Sublist.cons _ ?_ | refine List.Sublist.cons_cons _ ?_)))
    · have : k = t.women.length := by omega
      subst this
      refine W.exit (Kseq.exit (Kloop.exit (Kblock.here (Kseq.go (W.seq ?_)))))
      refine W.freezeInts (.head _) (fun b hb => (hF b hb).elim) fun mr hmr => ?_
      skip
      refine W.region ?_
      refine WL.val (OpVal.opv rfl) rfl rfl rfl ?_
      refine WL.val (OpVal.opv rfl) rfl rfl rfl ?_
      refine WL.val (OpVal.opv rfl) rfl rfl rfl ?_
      refine WL.nil ?_
      refine Kseq.go ?_
      refine W.ret ?_; skip; refine ⟨.inl rfl, [_, _], mr, ⟨.tmp rfl, .tmp rfl, trivial⟩, (by repeat (first | exact .head _ | refine .tail _ ?_)), ?_⟩
      exact ⟨_, by rw [hE]; rfl, by rw [if_pos hE]; exact hmr⟩
end Go.Proofs.Ytbmohbeocnfefaa

/- The program's questions of chapter 3, on: their contracts. -/
namespace Go.Proofs.Ytbmohbeocnfefaa
open Go Go.Eng Go.RowKit

/-- Who can own a piece. -/
def whoQ (t : Table) (i k : Nat) : Bool := decide (0 < cntQ (ask t) i k)
def whoP (t : Table) (i : Nat) : List Int := sel t.women.length (whoQ t i)
def whoTo (t : Table) (k : Nat) : List (List Int) := (List.range k).map (whoP t)
theorem whoTo_succ (t : Table) (k : Nat) : whoTo t (k + 1) = whoTo t k ++ [whoP t k] := by simp [whoTo, List.range_succ]
theorem who_set {vs : List Value} {a a' : Value} {rest : List Value} : (vs ++ a :: rest).take (vs.length * 1 + 0) ++ ((a'.cells.toList) ++ (vs ++ a :: rest).drop (vs.length * 1 + 0 + 1)) = vs ++ (a'.cells.toList ++ rest) := by
  rw [Nat.mul_one, Nat.add_zero, List.take_left', List.drop_append, List.drop_of_length_le (by omega)]
  · simp
  · rfl
theorem nil_rep (vs : List Value) {P i : Nat} (h : i < P) : vs ++ List.replicate (P - i) (Value.slice none 0 0) = vs ++ .slice none 0 0 :: List.replicate (P - (i + 1)) (.slice none 0 0) := by
  rw [show P - i = (P - (i + 1)) + 1 by omega, List.replicate_succ]
/-- Whose -/
theorem whoseT_any {h : Mem} {v : Value} {t : Table} (hv : IsTable h v t) (hs : Sm t) : FnR Try.prog 8 #[v] h (fun m r => ∃ lv, r = .tuple #[lv, vi (askE t)] ∧ IsLists m lv (if askE t = 0 then whoTo t t.pieces.length else [])) := by
  have hv' := hv
  obtain ⟨wv, pv, f, rfl, hW, hP, hM⟩ := hv
  refine FnR.of_W (n := 54) Try.func8 rfl rfl (Nat.le_of_ble_eq_true rfl) fun c hr hD hF => ?_
  refine W.seq ?_
  refine W.region ?_
  refine WL.box rfl rfl rfl rfl (fun b1 => ?_)
  refine WL.val (OpVal.opv rfl) rfl rfl rfl ?_
  refine WL.val (OpVal.opv rfl) rfl rfl rfl ?_
  refine WL.nil ?_
  refine Kseq.go (W.seq ?_)
  refine W.freezeBox (.head _) (fun b hb => (hF b hb).elim) fun m1 h1 => ?_
  skip
  refine W.region ?_
  refine WL.val (OpVal.loadPW rfl (by assumption) (by repeat (first | exact .head _ | refine .tail _ ?_)) (by rfl)) rfl rfl rfl ?_
  refine WL.abs (OpAbs.call rfl (fun m hm => asked_any (hv'.le (by repeat (first | exact hm.1 | replace hm := hm.2))) hs)) rfl rfl rfl ?_
  rintro m11 _ (⟨hE, rfl⟩ | ⟨hVa, hne, b, rfl, hwk⟩)
  · refine WL.val (OpVal.opv rfl) rfl rfl rfl ?_
    refine WL.val (OpVal.opv rfl) rfl rfl rfl ?_
    refine WL.val (OpVal.opv rfl) rfl rfl rfl ?_
    refine WL.val (OpVal.opv rfl) rfl rfl rfl ?_
    refine WL.val (OpVal.opv rfl) rfl rfl rfl ?_
    refine WL.nil ?_
    refine Kseq.go (W.seq (W.seq ?_))
    skip
    refine W.region ?_
    refine WL.val (OpVal.opv rfl) rfl rfl rfl ?_
    refine WL.val (OpVal.opv rfl) rfl rfl rfl ?_
    refine WL.nil ?_
    refine Kseq.go ?_
    refine W.cond rfl rfl (fun he => ?_) (fun he => absurd he (by simp [hE]))
    refine W.seq ?_
    refine W.region ?_
    refine WL.val (OpVal.opv rfl) rfl rfl rfl ?_
    refine WL.val (OpVal.opv rfl) rfl rfl rfl ?_
    refine WL.val (OpVal.opv rfl) rfl rfl rfl ?_
    refine WL.nil ?_
    refine Kseq.go ?_
    refine W.ret ?_; refine Kseq.ret ?_; refine ⟨.inl rfl, [_, _], h, ⟨.tmp rfl, .tmp rfl, trivial⟩, (by repeat (first | exact .head _ | refine .tail _ ?_)), ?_⟩
    exact ⟨_, rfl, by rw [if_neg hE]; exact ⟨[], AllInts.nil _, IsArr.nil _ _ _⟩⟩
  · have hE : askE t = 0 := by unfold askE; rw [if_pos (fault_zero.2 hVa), if_neg hne]
    have hs1 := hs.1
    have hs2 := hs.2.1
    have hwk' := hwk
    obtain ⟨_, _, trv, mb, e0, hB, _, hMp⟩ := hwk'
    cases e0
    refine WL.val (OpVal.opv rfl) rfl rfl rfl ?_
    refine WL.val (OpVal.opv rfl) rfl rfl rfl ?_
    refine WL.val (OpVal.opv rfl) rfl rfl rfl ?_
    refine WL.val (OpVal.opv rfl) rfl rfl rfl ?_
    refine WL.val (OpVal.opv rfl) rfl rfl rfl ?_
    refine WL.nil ?_
    refine Kseq.go (W.seq (W.seq ?_))
    skip
    refine W.region ?_
    refine WL.val (OpVal.opv rfl) rfl rfl rfl ?_
    refine WL.val (OpVal.opv rfl) rfl rfl rfl ?_
    refine WL.nil ?_
    refine Kseq.go ?_
    refine W.cond rfl rfl (fun he => absurd he (by simp)) (fun he => ?_)
    refine W.skip (Kseq.go (W.seq ?_))
    refine W.region ?_
    refine WL.val (OpVal.fieldAddrB rfl) rfl rfl rfl ?_
    refine WL.val (OpVal.loadP rfl (by assumption) (by repeat (first | exact .head _ | refine .tail _ ?_)) rfl) rfl rfl rfl ?_
    refine WL.val (OpVal.len rfl (by assumption)) rfl rfl rfl ?_
    refine WL.make rfl rfl (by omega) (by unfold maxLen; omega) rfl rfl rfl (fun b20 => ?_)
    refine WL.val (OpVal.opv rfl) rfl rfl rfl ?_
    refine WL.nil ?_
    refine Kseq.go (W.seq (W.seq ?_))
    generalize hov : Value.slice (some ⟨b20, 0, none⟩) t.pieces.length t.pieces.length = ov
    skip
    refine W.region ?_
    refine WL.val (OpVal.opv rfl) rfl rfl rfl ?_
    refine WL.val (OpVal.lenR rfl (.head _)) rfl rfl rfl ?_
    refine WL.val (OpVal.opv rfl) rfl rfl rfl ?_
    refine WL.nil ?_
    refine Kseq.go (W.block ?_)
    refine W.loop (σ := Nat × List Value × Mem) (fun s => [(1, .pointer (some ⟨b1, 0, none⟩)), (4, .pointer (some ⟨b, 0, none⟩)), (6, ov), (22, .int .i64 (t.pieces.length : Int)), (23, .int .i64 (s.1 : Int))]) (fun s => [m11, m1, h, s.2.2]) (fun s => [.row 33 1 ov t.pieces.length (s.2.1 ++ List.replicate (t.pieces.length - s.1) (.slice none 0 0))])
      (fun s => s.1 ≤ t.pieces.length ∧ AllInts s.2.2 s.2.1 (whoTo t s.1)) (fun s => t.pieces.length - s.1) (0, [], h) ⟨rfl, rfl, rfl, rfl, rfl, trivial⟩ (by simp) (sub_eq ?_) ⟨Nat.zero_le _, AllInts.nil h⟩ ?_
    · simp [toList_madeCells_one, Value.cells]
    rintro ⟨i, vs, m0⟩ ⟨hi, hall⟩
    dsimp only at hi hall ⊢
    have hvl : vs.length = i := by rw [hall.1]; simp [whoTo]
    refine W.seq ?_
    refine W.region ?_
    refine WL.val (OpVal.opv rfl) rfl rfl rfl ?_
    refine WL.nil ?_
    refine Kseq.go (W.seq ?_)
    refine W.condD rfl rfl (fun hlt => ?_) (fun hge => ?_)
    · refine W.skip (Kseq.go (W.seq (W.block (W.seq ?_))))
      refine W.region ?_
      refine WL.val (OpVal.opv rfl) rfl rfl rfl ?_
      refine WL.val (OpVal.opv rfl) rfl rfl rfl ?_
      refine WL.nil ?_
      refine Kseq.go (W.seq ?_)
      skip
      refine W.region ?_
      refine WL.val (OpVal.fieldAddrB rfl) rfl rfl rfl ?_
      refine WL.val (OpVal.loadP rfl (by assumption) (by repeat (first | exact .head _ | refine .tail _ ?_)) rfl) rfl rfl rfl ?_
      refine WL.val (OpVal.len rfl (by assumption)) rfl rfl rfl ?_
      refine WL.val (OpVal.opv rfl) rfl rfl rfl ?_
      refine WL.nil ?_
      refine Kseq.go (W.block ?_)
      refine W.nilRow 3 1 ?_
      refine W.loop (σ := Nat × Value) (fun s => [(1, .pointer (some ⟨b1, 0, none⟩)), (4, .pointer (some ⟨b, 0, none⟩)), (6, ov), (7, .int .i64 (i : Int)), (22, .int .i64 (t.pieces.length : Int)), (23, .int .i64 (i : Int)), (28, .int .i64 (t.women.length : Int)), (29, .int .i64 (s.1 : Int))]) (fun _ => [m11, m1, h, m0])
        (fun s => [ir 3 s.2 (sel s.1 (whoQ t i)), .row 33 1 ov t.pieces.length (vs ++ s.2 :: List.replicate (t.pieces.length - (i + 1)) (.slice none 0 0))]) (fun s => s.1 ≤ t.women.length) (fun s => t.women.length - s.1) (0, .slice none 0 0) ⟨rfl, rfl, rfl, rfl, rfl, rfl, rfl, rfl, trivial⟩ (by simp) (sub_eq (by rw [nil_rep vs (by omega)]; rfl)) (Nat.zero_le _) ?_
      rintro ⟨k, a⟩ hk
      dsimp only at hk ⊢
      have hlen := sel_len k (whoQ t i)
      refine W.seq ?_
      refine W.region ?_
      refine WL.val (OpVal.opv rfl) rfl rfl rfl ?_
      refine WL.nil ?_
      refine Kseq.go (W.seq ?_)
      refine W.condD rfl rfl (fun hlt2 => ?_) (fun hge2 => ?_)
      · refine W.skip (Kseq.go (W.seq (W.block (W.seq ?_))))
        refine W.region ?_
        refine WL.val (OpVal.opv rfl) rfl rfl rfl ?_
        refine WL.val (OpVal.opv rfl) rfl rfl rfl ?_
        refine WL.nil ?_
        refine Kseq.go (W.seq ?_)
        skip
        refine W.region ?_
        refine WL.val (OpVal.opv rfl) rfl rfl rfl ?_
        refine WL.val (OpVal.opv rfl) rfl rfl rfl ?_
        refine WL.val (OpVal.fieldAddrB rfl) rfl rfl rfl ?_
        refine WL.val (OpVal.loadP rfl (by assumption) (by repeat (first | exact .head _ | refine .tail _ ?_)) rfl) rfl rfl rfl ?_
        refine WL.val (OpVal.opv rfl) rfl rfl rfl ?_
        refine WL.val (OpVal.opv rfl) rfl rfl rfl ?_
        refine WL.val (OpVal.build2 rfl rfl) rfl rfl rfl ?_
        refine WL.val (OpVal.cast (OpVal.lookupP (k := [(i : Int), (k : Int)]) rfl rfl hMp (by repeat (first | exact .head _ | refine .tail _ ?_)) rfl) (show manyG _ _ = vi (cntQ (ask t) i k) from rfl)) rfl rfl rfl ?_
        refine WL.val (OpVal.opv rfl) rfl rfl rfl ?_
        refine WL.nil ?_
        refine Kseq.go ?_
        refine W.condD rfl rfl (fun he => ?_) (fun hne => ?_)
        · have hy : whoQ t i k = true := decide_eq_true (by omega)
          skip
          refine W.region ?_
          refine WL.val (OpVal.opv rfl) rfl rfl rfl ?_
          refine WL.val (OpVal.opv rfl) rfl rfl rfl ?_
          refine WL.val (OpVal.opv rfl) rfl rfl rfl ?_
          refine WL.val (OpVal.opv rfl) rfl rfl rfl ?_
          refine WL.val (OpVal.indexAddrR rfl rfl (.tail _ (.head _)) (by omega)) rfl rfl rfl ?_
          refine WL.val (OpVal.loadR (u := a) rfl (.tail _ (.head _)) (by omega) (by omega) (by rw [← hvl]; simp)) rfl rfl rfl ?_
          refine WL.val (OpVal.opv rfl) rfl rfl rfl ?_
          refine WL.abs (OpAbs.lit [_] rfl (Nat.le_of_ble_eq_true rfl) rfl rfl (by simp [Value.cells]) (Nat.le_of_ble_eq_true rfl) rfl (by first | (simp [Value.oneCell']; done) | exact List.all_eq_true.1 rfl)) rfl rfl rfl ?_
          rintro m48 _ ⟨hc48, a48, rfl⟩
          refine WL.appInt rfl (fun _ => (.head _)) rfl (by assumption) (by repeat (first | exact .head _ | refine .tail _ ?_)) (by omega) rfl rfl rfl ?_
          intro a49 cp49
          refine WL.val (OpVal.indexAddrR rfl rfl (.tail _ (.head _)) (by omega)) rfl rfl rfl ?_
          (refine WL.storeR rfl (.tail _ (.head _)) rfl rfl rfl (by omega) (Nat.le_refl _) (by simp [Value.cells, Value.oneCell']) ?_)
          refine WL.nil ?_
          refine Kblock.normal (Kseq.go ?_)
          skip
          refine W.region ?_
          refine WL.val (OpVal.incr rfl (by omega)) rfl rfl rfl ?_
          refine WL.val (OpVal.opv rfl) rfl rfl rfl ?_
          refine WL.nil ?_
          skip
          refine Kloop.next (k + 1, .slice a49 ((sel k (whoQ t i)).length + 1) cp49) (by omega) (by omega) ⟨rfl, rfl, rfl, rfl, rfl, rfl, rfl, rfl, trivial⟩ (by simp) (sub_eq ?_)
          rw [sel_yes hy]
          subst hvl
          exact congrArg (fun xs => [ir 3 (Value.slice a49 ((sel k (whoQ t vs.length)).length + 1) cp49) (sel k (whoQ t vs.length) ++ [(k : Int)]), Res.row 33 1 ov t.pieces.length xs]) (who_set (vs := vs) (a := a) (a' := .slice a49 ((sel k (whoQ t vs.length)).length + 1) cp49)).symm
        · have hy : whoQ t i k = false := decide_eq_false (by omega)
          refine W.skip (Kblock.normal (Kseq.go ?_))
          skip
          refine W.region ?_
          refine WL.val (OpVal.incr rfl (by omega)) rfl rfl rfl ?_
          refine WL.val (OpVal.opv rfl) rfl rfl rfl ?_
          refine WL.nil ?_
          skip
          refine Kloop.next (k + 1, a) (by omega) (by omega) ⟨rfl, rfl, rfl, rfl, rfl, rfl, rfl, rfl, trivial⟩ (by simp) (by rw [sel_no hy]; exact (by repeat (first | exact List.Sublist.refl _ | refine List.Sublist.cons _ ?_ | refine List.Sublist.cons_cons _ ?_)))
      · have : k = t.women.length := by omega
        subst this
        refine W.exit (Kseq.exit (Kloop.exit (Kblock.here (Kblock.normal (Kseq.go ?_)))))
        refine W.freezeInts (.head _) (fun b hb => (hF b hb).elim) fun mr hmr => ?_
        refine W.join fun mj hj => ?_
        skip
        refine W.region ?_
        refine WL.val (OpVal.incr rfl (by omega)) rfl rfl rfl ?_
        refine WL.val (OpVal.opv rfl) rfl rfl rfl ?_
        refine WL.nil ?_
        skip
        refine Kloop.next (i + 1, vs ++ [a], mj) ⟨by omega, by rw [whoTo_succ]; exact (hall.le (hj _ (by simp))).push (hmr.le (hj _ (by simp)))⟩ (by omega) ⟨rfl, rfl, rfl, rfl, rfl, trivial⟩ (by simp) (sub_eq (by simp))
    · have : i = t.pieces.length := by omega
      subst this
      rw [Nat.sub_self, List.replicate_zero, List.append_nil]
      refine W.exit (Kseq.exit (Kloop.exit (Kblock.here (Kseq.go (W.seq ?_)))))
      refine W.freezeRow (.head _) (fun b hb => (hF b hb).elim) hall.one fun mr hmr => ?_
      refine W.join fun mj hj => ?_
      skip
      refine W.region ?_
      refine WL.val (OpVal.opv rfl) rfl rfl rfl ?_
      refine WL.val (OpVal.opv rfl) rfl rfl rfl ?_
      refine WL.val (OpVal.opv rfl) rfl rfl rfl ?_
      refine WL.nil ?_
      refine Kseq.go ?_
      refine W.ret ?_; skip; refine ⟨.inl rfl, [_, _], mj, ⟨.tmp rfl, .tmp rfl, trivial⟩, (by repeat (first | exact .head _ | refine .tail _ ?_)), ?_⟩
      refine ⟨_, by rw [hE]; rfl, ?_⟩
      rw [if_pos hE]
      refine ⟨vs, hall.le (hj _ (by simp)), ?_⟩
      rw [show (whoTo t t.pieces.length).length = t.pieces.length by simp [whoTo]]
      refine IsArr.le (hmr.congr fun i j hi hj => ?_) (hj _ (by simp))
      rw [show i * 1 + j = i by omega]
end Go.Proofs.Ytbmohbeocnfefaa

/- The program's questions of chapter 3, on: their contracts. -/
namespace Go.Proofs.Ytbmohbeocnfefaa
open Go Go.Eng Go.RowKit

def leavesP (t : Table) (i : Nat) : Nat := top t.women.length fun w => cntQ (ask t) i w
def lookTo (t : Table) : Nat → Nat × Nat
  | 0 => (0, (ask t).length + 1)
  | k + 1 => if leavesP t k < (lookTo t k).2 then (k, leavesP t k) else lookTo t k
def lookE (t : Table) : Int := if askE t = 0 then (if t.pieces.length = 0 then 7 else 0) else askE t
/-- Look -/
theorem lookT_any {h : Mem} {v : Value} {t : Table} (hv : IsTable h v t) (hs : Sm t) : FnV Try.prog 24 #[v] h (if lookE t = 0 then .tuple #[vi (lookTo t t.pieces.length).1, vi (lookTo t t.pieces.length).2, vi 0] else .tuple #[vi 0, vi 0, vi (lookE t)]) := by
  have hv' := hv
  obtain ⟨wv, pv, f, rfl, hW, hP, hM⟩ := hv
  refine FnR.val ?_
  refine FnR.of_W (n := 58) Try.func24 rfl rfl (Nat.le_of_ble_eq_true rfl) fun c hr hD hF => ?_
  refine W.seq ?_
  refine W.region ?_
  refine WL.box rfl rfl rfl rfl (fun b1 => ?_)
  refine WL.val (OpVal.opv rfl) rfl rfl rfl ?_
  refine WL.val (OpVal.opv rfl) rfl rfl rfl ?_
  refine WL.val (OpVal.opv rfl) rfl rfl rfl ?_
  refine WL.nil ?_
  refine Kseq.go (W.seq ?_)
  refine W.freezeBox (.head _) (fun b hb => (hF b hb).elim) fun m1 h1 => ?_
  skip
  refine W.region ?_
  refine WL.val (OpVal.loadPW rfl (by assumption) (by repeat (first | exact .head _ | refine .tail _ ?_)) (by rfl)) rfl rfl rfl ?_
  refine WL.abs (OpAbs.call rfl (fun m hm => asked_any (hv'.le (by repeat (first | exact hm.1 | replace hm := hm.2))) hs)) rfl rfl rfl ?_
  rintro m11 _ (⟨hE, rfl⟩ | ⟨hVa, hne, b, rfl, hwk⟩)
  · refine WL.val (OpVal.opv rfl) rfl rfl rfl ?_
    refine WL.val (OpVal.opv rfl) rfl rfl rfl ?_
    refine WL.val (OpVal.opv rfl) rfl rfl rfl ?_
    refine WL.val (OpVal.opv rfl) rfl rfl rfl ?_
    refine WL.val (OpVal.opv rfl) rfl rfl rfl ?_
    refine WL.nil ?_
    refine Kseq.go (W.seq (W.seq ?_))
    skip
    refine W.region ?_
    refine WL.val (OpVal.opv rfl) rfl rfl rfl ?_
    refine WL.val (OpVal.opv rfl) rfl rfl rfl ?_
    refine WL.nil ?_
    refine Kseq.go ?_
    refine W.cond rfl rfl (fun he => ?_) (fun he => absurd he (by simp [hE]))
    refine W.seq ?_
    refine W.region ?_
    refine WL.val (OpVal.opv rfl) rfl rfl rfl ?_
    refine WL.val (OpVal.opv rfl) rfl rfl rfl ?_
    refine WL.val (OpVal.opv rfl) rfl rfl rfl ?_
    refine WL.val (OpVal.opv rfl) rfl rfl rfl ?_
    refine WL.nil ?_
    refine Kseq.go ?_
    refine W.ret ?_; refine Kseq.ret ?_
    refine ⟨.inl rfl, [_, _, _], h, ⟨.tmp rfl, .tmp rfl, .tmp rfl, trivial⟩, (by repeat (first | exact .head _ | refine .tail _ ?_)), ?_⟩
    have hL : lookE t = askE t := by unfold lookE; rw [if_neg hE]
    rw [hL, if_neg hE]; rfl
  · have hE : askE t = 0 := by unfold askE; rw [if_pos (fault_zero.2 hVa), if_neg hne]
    have hs1 := hs.1
    have hs2 := hs.2.1
    have hwk' := hwk
    obtain ⟨_, _, trv, mb, e0, hB, hT, hMp⟩ := hwk'
    cases e0
    have hlen : (ask t).length ≤ 2000 := Nat.le_trans (List.length_filter_le _ _) (allOwners_many hVa.many).2
    refine WL.val (OpVal.opv rfl) rfl rfl rfl ?_
    refine WL.val (OpVal.opv rfl) rfl rfl rfl ?_
    refine WL.val (OpVal.opv rfl) rfl rfl rfl ?_
    refine WL.val (OpVal.opv rfl) rfl rfl rfl ?_
    refine WL.val (OpVal.opv rfl) rfl rfl rfl ?_
    refine WL.nil ?_
    refine Kseq.go (W.seq (W.seq ?_))
    skip
    refine W.region ?_
    refine WL.val (OpVal.opv rfl) rfl rfl rfl ?_
    refine WL.val (OpVal.opv rfl) rfl rfl rfl ?_
    refine WL.nil ?_
    refine Kseq.go ?_
    refine W.cond rfl rfl (fun he => absurd he (by simp)) (fun he => ?_)
    refine W.skip (Kseq.go (W.seq (W.seq ?_)))
    refine W.region ?_
    refine WL.val (OpVal.fieldAddrB rfl) rfl rfl rfl ?_
    refine WL.val (OpVal.loadP rfl (by assumption) (by repeat (first | exact .head _ | refine .tail _ ?_)) rfl) rfl rfl rfl ?_
    refine WL.val (OpVal.len rfl (by assumption)) rfl rfl rfl ?_
    refine WL.val (OpVal.opv rfl) rfl rfl rfl ?_
    refine WL.nil ?_
    refine Kseq.go ?_
    refine W.condD rfl rfl (fun hz => ?_) (fun hz => ?_)
    · refine W.seq ?_
      refine W.region ?_
      refine WL.val (OpVal.opv rfl) rfl rfl rfl ?_
      refine WL.val (OpVal.opv rfl) rfl rfl rfl ?_
      refine WL.val (OpVal.opv rfl) rfl rfl rfl ?_
      refine WL.nil ?_
      refine Kseq.go ?_
      refine W.ret ?_; refine Kseq.ret ?_
      refine ⟨.inl rfl, [_, _, _], h, ⟨.tmp rfl, .tmp rfl, .tmp rfl, trivial⟩, (by repeat (first | exact .head _ | refine .tail _ ?_)), ?_⟩
      have hL : lookE t = 7 := by unfold lookE; rw [if_pos hE, if_pos (by omega)]
      rw [hL]; rfl
    have hL : lookE t = 0 := by unfold lookE; rw [if_pos hE, if_neg (by omega)]
    refine W.skip (Kseq.go (W.seq ?_))
    refine W.region ?_
    refine WL.val (OpVal.opv rfl) rfl rfl rfl ?_
    refine WL.val (OpVal.opv rfl) rfl rfl rfl ?_
    refine WL.val (OpVal.fieldAddrB rfl) rfl rfl rfl ?_
    refine WL.val (OpVal.loadP rfl (by assumption) (by repeat (first | exact .head _ | refine .tail _ ?_)) rfl) rfl rfl rfl ?_
    refine WL.val (OpVal.len rfl (by assumption)) rfl rfl rfl ?_
    refine WL.val (OpVal.incr rfl (by omega)) rfl rfl rfl ?_
    refine WL.val (OpVal.opv rfl) rfl rfl rfl ?_
    refine WL.nil ?_
    refine Kseq.go (W.seq (W.seq ?_))
    skip
    refine W.region ?_
    refine WL.val (OpVal.fieldAddrB rfl) rfl rfl rfl ?_
    refine WL.val (OpVal.loadP rfl (by assumption) (by repeat (first | exact .head _ | refine .tail _ ?_)) rfl) rfl rfl rfl ?_
    refine WL.val (OpVal.len rfl (by assumption)) rfl rfl rfl ?_
    refine WL.val (OpVal.opv rfl) rfl rfl rfl ?_
    refine WL.nil ?_
    refine Kseq.go (W.block ?_)
    refine W.loopC (σ := Nat) (fun i => [(1, .pointer (some ⟨b1, 0, none⟩)), (2, vi (lookTo t i).1), (3, vi (lookTo t i).2), (5, .pointer (some ⟨b, 0, none⟩)), (29, .int .i64 (t.pieces.length : Int)), (30, .int .i64 (i : Int))]) (fun i => i ≤ t.pieces.length) (fun i => t.pieces.length - i) 0 ⟨rfl, rfl, rfl, rfl, rfl, rfl, trivial⟩ (Nat.zero_le _) ?_
    intro i hi
    refine W.seq ?_
    refine W.region ?_
    refine WL.val (OpVal.opv rfl) rfl rfl rfl ?_
    refine WL.nil ?_
    refine Kseq.go (W.seq ?_)
    refine W.condD rfl rfl (fun hlt => ?_) (fun hge => ?_)
    · refine W.skip (Kseq.go (W.seq (W.block (W.seq ?_))))
      refine W.region ?_
      refine WL.val (OpVal.opv rfl) rfl rfl rfl ?_
      refine WL.val (OpVal.opv rfl) rfl rfl rfl ?_
      refine WL.nil ?_
      refine Kseq.go (W.seq ?_)
      skip
      refine W.region ?_
      refine WL.val (OpVal.opv rfl) rfl rfl rfl ?_
      refine WL.nil ?_
      refine Kseq.go (W.seq (W.seq ?_))
      skip
      refine W.region ?_
      refine WL.val (OpVal.fieldAddrB rfl) rfl rfl rfl ?_
      refine WL.val (OpVal.loadP rfl (by assumption) (by repeat (first | exact .head _ | refine .tail _ ?_)) rfl) rfl rfl rfl ?_
      refine WL.val (OpVal.len rfl (by assumption)) rfl rfl rfl ?_
      refine WL.val (OpVal.opv rfl) rfl rfl rfl ?_
      refine WL.nil ?_
      refine Kseq.go (W.block ?_)
      let f0 : Nat → Nat := fun w => cntQ (ask t) i w
      refine W.loopC (σ := Nat) (fun k => [(1, .pointer (some ⟨b1, 0, none⟩)), (2, vi (lookTo t i).1), (3, vi (lookTo t i).2), (5, .pointer (some ⟨b, 0, none⟩)), (6, .int .i64 (i : Int)), (7, vi (top k f0)), (29, .int .i64 (t.pieces.length : Int)), (30, .int .i64 (i : Int)), (35, .int .i64 (t.women.length : Int)), (36, .int .i64 (k : Int))]) (fun k => k ≤ t.women.length) (fun k => t.women.length - k) 0 ⟨rfl, rfl, rfl, rfl, rfl, rfl, rfl, rfl, rfl, rfl, trivial⟩ (Nat.zero_le _) ?_
      intro k hk
      refine W.seq ?_
      refine W.region ?_
      refine WL.val (OpVal.opv rfl) rfl rfl rfl ?_
      refine WL.nil ?_
      refine Kseq.go (W.seq ?_)
      refine W.condD rfl rfl (fun hlt2 => ?_) (fun hge2 => ?_)
      · refine W.skip (Kseq.go (W.seq (W.block (W.seq ?_))))
        refine W.region ?_
        refine WL.val (OpVal.opv rfl) rfl rfl rfl ?_
        refine WL.val (OpVal.opv rfl) rfl rfl rfl ?_
        refine WL.nil ?_
        refine Kseq.go ?_
        skip
        refine W.region ?_
        refine WL.val (OpVal.opv rfl) rfl rfl rfl ?_
        refine WL.val (OpVal.opv rfl) rfl rfl rfl ?_
        refine WL.val (OpVal.opv rfl) rfl rfl rfl ?_
        refine WL.val (OpVal.fieldAddrB rfl) rfl rfl rfl ?_
        refine WL.val (OpVal.loadP rfl (by assumption) (by repeat (first | exact .head _ | refine .tail _ ?_)) rfl) rfl rfl rfl ?_
        refine WL.val (OpVal.opv rfl) rfl rfl rfl ?_
        refine WL.val (OpVal.opv rfl) rfl rfl rfl ?_
        refine WL.val (OpVal.build2 rfl rfl) rfl rfl rfl ?_
        refine WL.val (OpVal.cast (OpVal.lookupP (k := [(i : Int), (k : Int)]) rfl rfl hMp (by repeat (first | exact .head _ | refine .tail _ ?_)) rfl) (show manyG _ _ = vi (f0 k : Int) from rfl)) rfl rfl rfl ?_
        refine WL.val (OpVal.cast (OpVal.max2 rfl rfl) (congrArg (Value.int .i64) (show max ((top k f0 : Nat) : Int) (f0 k : Int) = ((top (k + 1) f0 : Nat) : Int) by simp only [top]; omega))) rfl rfl rfl ?_
        refine WL.val (OpVal.opv rfl) rfl rfl rfl ?_
        refine WL.nil ?_
        refine Kblock.normal (Kseq.go ?_)
        skip
        refine W.region ?_
        refine WL.val (OpVal.incr rfl (by omega)) rfl rfl rfl ?_
        refine WL.val (OpVal.opv rfl) rfl rfl rfl ?_
        refine WL.nil ?_
        skip
        exact Kloop.nextC (k + 1) (by omega) (by omega) ⟨rfl, rfl, rfl, rfl, rfl, rfl, rfl, rfl, rfl, rfl, trivial⟩ (by simp) (.refl _)
      · have : k = t.women.length := by omega
        subst this
        refine W.exit (Kseq.exit (Kloop.exit (Kblock.here (Kseq.go (W.seq ?_)))))
        skip
        refine W.region ?_
        refine WL.val (OpVal.opv rfl) rfl rfl rfl ?_
        refine WL.val (OpVal.opv rfl) rfl rfl rfl ?_
        refine WL.val (OpVal.opv rfl) rfl rfl rfl ?_
        refine WL.nil ?_
        refine Kseq.go ?_
        refine W.condD rfl rfl (fun he => ?_) (fun hne => ?_)
        · have e : lookTo t (i + 1) = (i, leavesP t i) := by simp only [lookTo]; rw [if_pos (by show top t.women.length f0 < _; omega)]
          skip
          refine W.region ?_
          refine WL.val (OpVal.opv rfl) rfl rfl rfl ?_
          refine WL.val (OpVal.opv rfl) rfl rfl rfl ?_
          refine WL.val (OpVal.opv rfl) rfl rfl rfl ?_
          refine WL.val (OpVal.opv rfl) rfl rfl rfl ?_
          refine WL.nil ?_
          refine Kblock.normal (Kseq.go ?_)
          skip
          refine W.region ?_
          refine WL.val (OpVal.incr rfl (by omega)) rfl rfl rfl ?_
          refine WL.val (OpVal.opv rfl) rfl rfl rfl ?_
          refine WL.nil ?_
          skip
          exact Kloop.nextC (i + 1) (by omega) (by omega) ⟨rfl, by rw [e]; rfl, by rw [e]; rfl, rfl, rfl, rfl, trivial⟩ (by simp) (.refl _)
        · have e : lookTo t (i + 1) = lookTo t i := by simp only [lookTo]; rw [if_neg (by show ¬ top t.women.length f0 < _; omega)]
          refine W.skip (Kblock.normal (Kseq.go ?_))
          skip
          refine W.region ?_
          refine WL.val (OpVal.incr rfl (by omega)) rfl rfl rfl ?_
          refine WL.val (OpVal.opv rfl) rfl rfl rfl ?_
          refine WL.nil ?_
          skip
          exact Kloop.nextC (i + 1) (by omega) (by omega) ⟨rfl, by rw [e]; rfl, by rw [e]; rfl, rfl, rfl, rfl, trivial⟩ (by simp) (.refl _)
    · have : i = t.pieces.length := by omega
      subst this
      refine W.exit (Kseq.exit (Kloop.exit (Kblock.here (Kseq.go (W.seq ?_)))))
      skip
      refine W.region ?_
      refine WL.val (OpVal.opv rfl) rfl rfl rfl ?_
      refine WL.val (OpVal.opv rfl) rfl rfl rfl ?_
      refine WL.val (OpVal.opv rfl) rfl rfl rfl ?_
      refine WL.val (OpVal.opv rfl) rfl rfl rfl ?_
      refine WL.val (OpVal.opv rfl) rfl rfl rfl ?_
      refine WL.nil ?_
      refine Kseq.go ?_
      refine W.ret ?_; skip
      refine ⟨.inl rfl, [_, _, _], h, ⟨.tmp rfl, .tmp rfl, .tmp rfl, trivial⟩, (by repeat (first | exact .head _ | refine .tail _ ?_)), ?_⟩
      rw [if_pos hL]; rfl
end Go.Proofs.Ytbmohbeocnfefaa

/- The program's functions First, Leave: their contracts. -/
namespace Go.Proofs.Ytbmohbeocnfefaa
open Go Go.Eng Go.RowKit

/-- slices.Clone, its result a row of one's own -/
theorem cloneM_any {h : Mem} {v : Value} {xs : List Int} (hv : IsInts h v xs) (hb : xs.length < 1000000000000) : FnM Try.prog 34 #[v] [h] [] (fun r Ms' μ' => Ms' = [] ∧ μ' = [ir 3 r xs] ∧ r.cells = #[r]) := by
  obtain ⟨a, cp, rfl⟩ := IsArr.form hv
  refine FnM.of_W (n := 8) Try.func34 rfl rfl (Nat.le_of_ble_eq_true rfl) rfl fun c hr hD hF => ?_
  skip
  refine W.seq ?_
  refine W.region ?_
  refine WL.val (OpVal.opv rfl) rfl rfl rfl ?_
  refine WL.nil ?_
  refine Kseq.go (W.seq (W.seq ?_))
  skip
  refine W.region ?_
  refine WL.val (OpVal.opv rfl) rfl rfl rfl ?_
  refine WL.val (OpVal.eqNil rfl rfl) rfl rfl rfl ?_
  refine WL.nil ?_
  refine Kseq.go ?_
  refine W.cond rfl rfl (fun he => ?_) (fun hne => ?_)
  · refine W.seq ?_
    refine W.region ?_
    refine WL.val (OpVal.opv rfl) rfl rfl rfl ?_
    refine WL.nil ?_
    refine Kseq.go ?_
    have h0 : xs = [] := by
      obtain ⟨a', c', e, _, _, _, h4⟩ := hv
      cases e
      rcases Nat.eq_zero_or_pos xs.length with h5 | h5
      · exact List.length_eq_zero_iff.1 h5
      · obtain ⟨b, o, rfl, _⟩ := h4 h5
        cases he
    subst h0
    refine W.nilRow 3 1 ?_
    refine W.ret ?_; refine Kseq.ret ?_
    exact ⟨.inl rfl, [_], [], _, ⟨.tmp rfl, trivial⟩, ⟨rfl, rfl, rfl⟩, by simp, .refl _, by simp [markOf]⟩
  · refine W.skip (Kseq.go (W.seq ?_))
    refine W.region ?_
    (refine WL.lit (vs := []) [] rfl (Nat.le_of_ble_eq_true rfl) rfl rfl (by simp) (Nat.le_of_ble_eq_true rfl) rfl rfl rfl rfl (fun b5 => ?_))
    refine WL.val (OpVal.opv rfl) rfl rfl rfl ?_
    (refine WL.appInts (xs := []) rfl (fun _ => .head _) rfl hv (by repeat (first | exact .head _ | refine .tail _ ?_)) (by simp; omega) rfl rfl rfl ?_; intro a7 c7)
    refine WL.val (OpVal.opv rfl) rfl rfl rfl ?_
    refine WL.nil ?_
    refine Kseq.go ?_
    refine W.ret ?_; skip
    exact ⟨.inl rfl, [_], [], _, ⟨.tmp rfl, trivial⟩, ⟨rfl, rfl, rfl⟩, by simp, .refl _, by simp [markOf]⟩

/-- All numbers below n. -/
def upto (n : Nat) : List Int := sel n (fun _ => true)
theorem upto_len (n : Nat) : (upto n).length = n := by unfold upto; rw [sel_length]; simp [cnt]
/-- Can all women but those behind one have counted right? -/
def firstQ (t : Table) (k : Nat) : Bool := possibleB t ((upto t.women.length).drop (k + 1))
def firstV (t : Table) : Int × Int := if fault t = 0 then (if fstNo (firstQ t) t.women.length < t.women.length then ((fstNo (firstQ t) t.women.length : Int), 0) else (0, 7)) else (0, fault t)
/-- First -/
theorem firstT_any {h : Mem} {v : Value} {t : Table} (hv : IsTable h v t) (hs : Sm t) : FnV Try.prog 16 #[v] h (.tuple #[vi (firstV t).1, vi (firstV t).2]) := by
  have hv' := hv
  obtain ⟨wv, pv, f, rfl, hW, hP, hM⟩ := hv
  refine FnR.val ?_
  refine FnR.of_W (n := 39) Try.func16 rfl rfl (Nat.le_of_ble_eq_true rfl) fun c hr hD hF => ?_
  refine W.seq ?_
  refine W.region ?_
  refine WL.box rfl rfl rfl rfl (fun b1 => ?_)
  refine WL.val (OpVal.opv rfl) rfl rfl rfl ?_
  refine WL.val (OpVal.opv rfl) rfl rfl rfl ?_
  refine WL.nil ?_
  refine Kseq.go (W.seq (W.seq ?_))
  refine W.freezeBox (.head _) (fun b hb => (hF b hb).elim) fun m1 h1 => ?_
  skip
  refine W.region ?_
  refine WL.val (OpVal.loadPW rfl (by assumption) (by repeat (first | exact .head _ | refine .tail _ ?_)) (by rfl)) rfl rfl rfl ?_
  refine WL.val (OpVal.call rfl (fun m hm => check_any (hv'.le (by repeat (first | exact hm.1 | replace hm := hm.2))) hs)) rfl rfl rfl ?_
  refine WL.val (OpVal.opv rfl) rfl rfl rfl ?_
  refine WL.nil ?_
  refine Kseq.go (W.seq ?_)
  skip
  refine W.region ?_
  refine WL.val (OpVal.opv rfl) rfl rfl rfl ?_
  refine WL.val (OpVal.opv rfl) rfl rfl rfl ?_
  refine WL.nil ?_
  refine Kseq.go ?_
  refine W.cond rfl rfl (fun he => ?_) (fun hne => ?_)
  · refine W.seq ?_
    refine W.region ?_
    refine WL.val (OpVal.opv rfl) rfl rfl rfl ?_
    refine WL.val (OpVal.opv rfl) rfl rfl rfl ?_
    refine WL.val (OpVal.opv rfl) rfl rfl rfl ?_
    refine WL.nil ?_
    refine Kseq.go ?_
    refine W.ret ?_; refine Kseq.ret ?_; refine ⟨.inl rfl, [_, _], h, ⟨.tmp rfl, .tmp rfl, trivial⟩, (by repeat (first | exact .head _ | refine .tail _ ?_)), ?_⟩
    have he' : fault t ≠ 0 := by simpa using he
    unfold firstV
    rw [if_neg he']; rfl
  have hf0 : fault t = 0 := by simpa using hne
  have hVa := fault_zero.1 hf0
  have hs1 := hs.1
  refine W.skip (Kseq.go (W.seq ?_))
  skip
  refine W.region ?_
  refine WL.val (OpVal.opv rfl) rfl rfl rfl ?_
  refine WL.nil ?_
  refine Kseq.go (W.seq (W.seq ?_))
  skip
  refine W.region ?_
  refine WL.val (OpVal.fieldAddrB rfl) rfl rfl rfl ?_
  refine WL.val (OpVal.loadP rfl (by assumption) (by repeat (first | exact .head _ | refine .tail _ ?_)) rfl) rfl rfl rfl ?_
  refine WL.val (OpVal.len rfl (by assumption)) rfl rfl rfl ?_
  refine WL.val (OpVal.opv rfl) rfl rfl rfl ?_
  refine WL.nil ?_
  refine Kseq.go (W.block ?_)
  refine W.nilRow 3 1 ?_
  refine W.loopA (σ := Nat × Value) (fun s => [(1, .pointer (some ⟨b1, 0, none⟩)), (5, s.2), (15, .int .i64 (t.women.length : Int)), (16, .int .i64 (s.1 : Int))]) (fun s => ir 3 s.2 (upto s.1)) (fun s => s.1 ≤ t.women.length) (fun s => t.women.length - s.1) (0, .slice none 0 0) ⟨rfl, rfl, rfl, rfl, trivial⟩ rfl (Nat.zero_le _) ?_
  rintro ⟨k, a⟩ hk
  dsimp only at hk ⊢
  have hlen := upto_len k
  refine W.seq ?_
  refine W.region ?_
  refine WL.val (OpVal.opv rfl) rfl rfl rfl ?_
  refine WL.nil ?_
  refine Kseq.go (W.seq ?_)
  refine W.condD rfl rfl (fun hlt => ?_) (fun hge => ?_)
  · refine W.skip (Kseq.go (W.seq (W.block (W.seq ?_))))
    refine W.region ?_
    refine WL.val (OpVal.opv rfl) rfl rfl rfl ?_
    refine WL.val (OpVal.opv rfl) rfl rfl rfl ?_
    refine WL.nil ?_
    refine Kseq.go ?_
    skip
    refine W.region ?_
    refine WL.val (OpVal.opv rfl) rfl rfl rfl ?_
    refine WL.val (OpVal.opv rfl) rfl rfl rfl ?_
    refine WL.abs (OpAbs.lit [_] rfl (Nat.le_of_ble_eq_true rfl) rfl rfl (by simp [Value.cells]) (Nat.le_of_ble_eq_true rfl) rfl (by first | (simp [Value.oneCell']; done) | exact List.all_eq_true.1 rfl)) rfl rfl rfl ?_
    rintro m21 _ ⟨hc21, a21, rfl⟩
    refine WL.appInt rfl (fun _ => (.head _)) rfl (by assumption) (by repeat (first | exact .head _ | refine .tail _ ?_)) (by omega) rfl rfl rfl ?_
    intro a22 cp22
    refine WL.val (OpVal.opv rfl) rfl rfl rfl ?_
    refine WL.nil ?_
    refine Kblock.normal (Kseq.go ?_)
    skip
    refine W.region ?_
    refine WL.val (OpVal.incr rfl (by omega)) rfl rfl rfl ?_
    refine WL.val (OpVal.opv rfl) rfl rfl rfl ?_
    refine WL.nil ?_
    skip
    exact Kloop.next (k + 1, _) (by omega) (by omega) ⟨rfl, rfl, rfl, rfl, trivial⟩ (by simp) (sub_yes (q := fun _ => true) rfl)
  · have : k = t.women.length := by omega
    subst this
    refine W.exit (Kseq.exit (Kloop.exit (Kblock.here (Kseq.go (W.seq (W.seq ?_))))))
    refine W.freezeInts (.head _) (fun b hb => (hF b hb).elim) fun m5 h5 => ?_
    have hub := upto_len t.women.length
    skip
    refine W.region ?_
    refine WL.val (OpVal.fieldAddrB rfl) rfl rfl rfl ?_
    refine WL.val (OpVal.loadP rfl (by assumption) (by repeat (first | exact .head _ | refine .tail _ ?_)) rfl) rfl rfl rfl ?_
    refine WL.val (OpVal.len rfl (by assumption)) rfl rfl rfl ?_
    refine WL.val (OpVal.opv rfl) rfl rfl rfl ?_
    refine WL.nil ?_
    refine Kseq.go (W.block ?_)
    refine W.loopC (σ := Nat) (fun k => [(1, .pointer (some ⟨b1, 0, none⟩)), (5, a), (26, .int .i64 (t.women.length : Int)), (27, .int .i64 (k : Int))]) (fun k => k ≤ t.women.length ∧ ∀ i, i < k → firstQ t i = true) (fun k => t.women.length - k) 0 ⟨rfl, rfl, rfl, rfl, trivial⟩ ⟨Nat.zero_le _, fun i hi => absurd hi (Nat.not_lt_zero _)⟩ ?_
    rintro k ⟨hk, hall⟩
    refine W.seq ?_
    refine W.region ?_
    refine WL.val (OpVal.opv rfl) rfl rfl rfl ?_
    refine WL.nil ?_
    refine Kseq.go (W.seq ?_)
    refine W.condD rfl rfl (fun hlt => ?_) (fun hge => ?_)
    · have hsub := IsInts.sub h5 (lo := k + 1) (hi := (upto t.women.length).length) (by omega) (Nat.le_refl _)
      rw [show ((upto t.women.length).drop (k + 1)).take ((upto t.women.length).length - (k + 1)) = (upto t.women.length).drop (k + 1) from List.take_of_length_le (by simp)] at hsub
      refine W.skip (Kseq.go (W.seq (W.block (W.seq ?_))))
      refine W.region ?_
      refine WL.val (OpVal.opv rfl) rfl rfl rfl ?_
      refine WL.val (OpVal.opv rfl) rfl rfl rfl ?_
      refine WL.nil ?_
      refine Kseq.go (W.seq ?_)
      skip
      refine W.draw 5 (by kernel_rfl) (by kernel_rfl) (by kernel_rfl) rfl ?_
      refine DJ.val [] (OpVal.loadPW rfl (by assumption) (by repeat (first | exact .head _ | refine .tail _ ?_)) (by rfl)) rfl rfl rfl rfl ?_
      refine DJ.val [] (OpVal.opv rfl) rfl rfl rfl rfl ?_
      refine DJ.val [] (OpVal.opv rfl) rfl rfl rfl rfl ?_
      refine DJ.val [] (OpVal.incr rfl (by omega)) rfl rfl rfl rfl ?_
      refine DJ.val [] (OpVal.sliceL rfl rfl h5 (by omega)) rfl rfl rfl rfl ?_
      refine DJ.nil ?_
      refine WL.val (OpVal.call rfl (fun m hm => possible_any (hv'.le (by repeat (first | exact hm.1 | replace hm := hm.2))) hs hVa.pieces (hsub.le (by repeat (first | exact hm.1 | replace hm := hm.2))))) rfl rfl rfl ?_
      refine WL.val (OpVal.opv rfl) rfl rfl rfl ?_
      refine WL.nil ?_
      refine Kseq.go ?_
      refine W.cond rfl rfl (fun he => ?_) (fun hne => ?_)
      · refine W.seq ?_
        refine W.region ?_
        refine WL.val (OpVal.opv rfl) rfl rfl rfl ?_
        refine WL.val (OpVal.opv rfl) rfl rfl rfl ?_
        refine WL.val (OpVal.opv rfl) rfl rfl rfl ?_
        refine WL.nil ?_
        refine Kseq.go ?_
        refine W.ret ?_; refine Kblock.ret (Kseq.ret (Kloop.ret (Kblock.ret (Kseq.ret ?_)))); refine ⟨.inl rfl, [_, _], h, ⟨.tmp rfl, .tmp rfl, trivial⟩, (by repeat (first | exact .head _ | refine .tail _ ?_)), ?_⟩
        have hq : firstQ t k = false := by unfold firstQ; simpa using he
        have hfk := fstNo_at (by omega : k < t.women.length) hall hq
        unfold firstV
        rw [if_pos hf0, hfk, if_pos (by omega)]; rfl
      · have hq : firstQ t k = true := by unfold firstQ; simpa using hne
        refine W.skip (Kblock.normal (Kseq.go ?_))
        refine W.region ?_
        refine WL.val (OpVal.incr rfl (by omega)) rfl rfl rfl ?_
        refine WL.val (OpVal.opv rfl) rfl rfl rfl ?_
        refine WL.nil ?_
        skip
        refine Kloop.nextC (k + 1) ⟨by omega, fun i hi => ?_⟩ (by omega) ⟨rfl, rfl, rfl, rfl, trivial⟩ (by simp) (.refl _)
        rcases Nat.lt_succ_iff_lt_or_eq.1 hi with h2 | rfl
        · exact hall i h2
        · exact hq
    · have : k = t.women.length := by omega
      subst this
      refine W.exit (Kseq.exit (Kloop.exit (Kblock.here (Kseq.go (W.seq ?_)))))
      skip
      refine W.region ?_
      refine WL.val (OpVal.opv rfl) rfl rfl rfl ?_
      refine WL.val (OpVal.opv rfl) rfl rfl rfl ?_
      refine WL.nil ?_
      refine Kseq.go ?_
      refine W.ret ?_; skip; refine ⟨.inl rfl, [_, _], h, ⟨.tmp rfl, .tmp rfl, trivial⟩, (by repeat (first | exact .head _ | refine .tail _ ?_)), ?_⟩
      unfold firstV
      rw [if_pos hf0, fstNo_all hall, if_neg (Nat.lt_irrefl _)]; rfl
end Go.Proofs.Ytbmohbeocnfefaa
