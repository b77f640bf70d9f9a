/- The statement BundleTurned: its contract for tables with pieces. -/
import Derived.Test.YtbmohbeocnfefaaT54
import Derived.Test.YtbmohbeocnfefaaT46
namespace Go.Proofs.Ytbmohbeocnfefaa
open Go Go.Eng Go.RowKit

theorem astrayT_no {h : Mem} {v : Value} {t : Table} (hv : IsTable h v t) (hs : Sm t) (hE : askE t = 11) : FnV Try.prog 10 #[v] h (.tuple #[.agg #[vi 0, vi 0], vi 11]) := by
  have := astrayT_any hv hs
  rwa [if_neg (by rw [hE]; decide), hE] at this
theorem women_put {ws : List Woman} {i : Nat} (hi : i < ws.length) (w : Woman) :
    (flatv (ws.map wv3)).take (i * 3 + 0) ++ ((wv3 w).cells.toList ++ (flatv (ws.map wv3)).drop (i * 3 + 0 + 3)) = flatv ((ws.set i w).map wv3) := by
  obtain ⟨a, b, e, hl, hset⟩ := women_cut hi
  rw [hset]
  generalize ws.getD i default = v at *
  subst e
  rw [flat_women, flat_women]
  have hf := flat_wlen a
  generalize flatv (a.map wv3) = A at *
  generalize flatv (b.map wv3) = B at *
  rw [List.take_append, List.take_of_length_le (by omega), hf, hl, show i * 3 + 0 - i * 3 = 0 by omega, List.drop_append, List.drop_of_length_le (by omega), hf, hl, show i * 3 + 0 + 3 - i * 3 = 3 by omega]
  simp [wv3, Value.cells]
/-- The first bundles, renamed. -/
def swTo (ps : List Piece) (a b : Nat) : Nat → List Piece
  | 0 => ps
  | k + 1 => setB (swTo ps a b k) k (swapI (ps.getD k default).bundle a b)
theorem swTo_len (ps : List Piece) (a b : Nat) : ∀ k, (swTo ps a b k).length = ps.length
  | 0 => rfl
  | k + 1 => by simp only [swTo]; rw [setB_len, swTo_len ps a b k]
theorem swTo_marks (ps : List Piece) (a b i : Nat) : ∀ k, ((swTo ps a b k).getD i default).marks = (ps.getD i default).marks
  | 0 => rfl
  | k + 1 => by simp only [swTo]; rw [setB_marks, swTo_marks ps a b i k]
theorem swTo_get {ps : List Piece} {a b i : Nat} (hi : i < ps.length) : ∀ k, ((swTo ps a b k).getD i default).bundle = if i < k then swapI (ps.getD i default).bundle a b else (ps.getD i default).bundle
  | 0 => rfl
  | k + 1 => by
    simp only [swTo]
    rw [setB_get, swTo_len]
    by_cases h : i = k
    · subst h
      rw [if_pos ⟨rfl, hi⟩, if_pos (Nat.lt_succ_self i)]
    · rw [if_neg (fun hh => h hh.1), swTo_get hi k]
      by_cases h1 : i < k
      · rw [if_pos h1, if_pos (by omega)]
      · rw [if_neg h1, if_neg (by omega)]
def turnT (t : Table) (a b : Nat) : Table := ⟨(t.women.set a (t.women.getD b default)).set b (t.women.getD a default), swTo t.pieces a b t.pieces.length, t.wrong⟩
theorem turn_turn {t : Table} (hV : Valid t) {a b : Nat} (ha : a < t.women.length) (hb : b < t.women.length) : Turn a b t (turnT t a b) := by
  have hg : ∀ i, ((t.women.set a (t.women.getD b default)).set b (t.women.getD a default)).getD i default = if i = b then t.women.getD a default else if i = a then t.women.getD b default else t.women.getD i default := fun i => by
    rw [getD_set, getD_set, List.length_set]
    by_cases h1 : i = b
    · rw [if_pos ⟨h1, hb⟩, if_pos h1]
    · rw [if_neg (fun h => h1 h.1), if_neg h1]
      by_cases h2 : i = a
      · rw [if_pos ⟨h2, ha⟩, if_pos h2]
      · rw [if_neg (fun h => h2 h.1), if_neg h2]
  refine ⟨ha, hb, by simp [turnT], swTo_len _ _ _ _, fun i hi => ?_, fun i => swTo_marks _ _ _ _ _, fun i hi => ?_, rfl⟩
  · show ((t.women.set a _).set b _).getD (sw a b i) default = _
    rw [hg]
    unfold sw
    by_cases h1 : i = a
    · subst h1; rw [if_pos rfl, if_pos rfl]
    · rw [if_neg h1]
      by_cases h2 : i = b
      · subst h2
        rw [if_pos rfl]
        by_cases h3 : a = i
        · exact absurd h3.symm h1
        · rw [if_neg h3, if_pos rfl]
      · rw [if_neg h2, if_neg h2, if_neg h1]
  · have h1 := hV.piece i hi
    unfold pieceBad at h1
    simp only [Bool.or_eq_false_iff, Bool.not_eq_false', decide_eq_true_eq] at h1
    have h2 := h1.1.2
    refine ⟨(t.pieces.getD i default).bundle.toNat, by omega, by omega, ?_⟩
    show ((swTo t.pieces a b t.pieces.length).getD i default).bundle = _
    rw [swTo_get hi, if_pos hi, ← swapI_nat]
    congr 1
    omega
/-- BundleTurned -/
theorem bundleTurned_some {h : Mem} {v : Value} {t : Table} {n n2 : Nat} (hv : IsTable h v t) (hn : n < 256) (hn2 : n2 < 256) (hpp : 0 < t.pieces.length) : FnV Try.prog 3 #[v, .int .u8 n, .int .u8 n2] h (.bool true) := by
  have hv' := hv
  obtain ⟨wv, pv, f, rfl, hW, hP, hM⟩ := hv
  refine FnR.val ?_
  refine FnR.of_W (n := 241) Try.func3 rfl rfl (Nat.le_of_ble_eq_true rfl) fun c hr hD hF => ?_
  refine W.seq ?_
  refine W.region ?_
  refine WL.box rfl rfl rfl rfl (fun b3 => ?_)
  refine WL.val (OpVal.opv rfl) rfl rfl rfl ?_
  refine WL.nil ?_
  refine Kseq.go (W.seq (W.seq ?_))
  refine W.freezeBox (.head _) (fun b hb => (hF b hb).elim) fun m1 h1 => ?_
  by_cases hR : readyB t = false
  · skip
    refine W.region ?_
    refine WL.val (OpVal.loadPW rfl (by assumption) (by repeat (first | exact .head _ | refine .tail _ ?_)) (by rfl)) rfl rfl rfl ?_
    refine WL.val (OpVal.cast (OpVal.call rfl (fun m hm => ready_any (hv'.le (by repeat (first | exact hm.1 | replace hm := hm.2))))) (congrArg Value.bool hR)) rfl rfl rfl ?_
    refine WL.val (OpVal.opv rfl) rfl rfl rfl ?_
    refine WL.val (OpVal.opv rfl) rfl rfl rfl ?_
    refine WL.pass rfl rfl rfl ?_
    refine WL.pass rfl rfl rfl ?_
    refine WL.pass rfl rfl rfl ?_
    refine WL.pass rfl rfl rfl ?_
    refine WL.val (OpVal.opv rfl) rfl rfl rfl ?_
    refine WL.nil ?_
    refine Kseq.go ?_
    refine W.condT rfl rfl ?_
    refine W.seq ?_
    refine W.region ?_
    refine WL.val (OpVal.call rfl (fun m hm => awake_any)) rfl rfl rfl ?_
    refine WL.val (OpVal.opv rfl) rfl rfl rfl ?_
    refine WL.nil ?_
    refine Kseq.go ?_
    refine W.ret ?_; refine Kseq.ret ?_; refine ⟨.inl rfl, [_], h, ⟨.tmp rfl, trivial⟩, (by repeat (first | exact .head _ | refine .tail _ ?_)), ?_⟩
    rfl
  have hR : readyB t = true := by simpa using hR
  by_cases hp0 : t.women.length = 0
  · skip
    refine W.region ?_
    refine WL.val (OpVal.loadPW rfl (by assumption) (by repeat (first | exact .head _ | refine .tail _ ?_)) (by rfl)) rfl rfl rfl ?_
    refine WL.val (OpVal.cast (OpVal.call rfl (fun m hm => ready_any (hv'.le (by repeat (first | exact hm.1 | replace hm := hm.2))))) (congrArg Value.bool hR)) rfl rfl rfl ?_
    refine WL.val (OpVal.opv rfl) rfl rfl rfl ?_
    refine WL.val (OpVal.opv rfl) rfl rfl rfl ?_
    refine WL.val (OpVal.fieldAddrB rfl) rfl rfl rfl ?_
    refine WL.val (OpVal.loadP rfl (by assumption) (by repeat (first | exact .head _ | refine .tail _ ?_)) rfl) rfl rfl rfl ?_
    refine WL.val (OpVal.len rfl hW) rfl rfl rfl ?_
    refine WL.val (OpVal.cast (OpVal.opv rfl) (congrArg Value.bool (decide_eq_true (by omega)))) rfl rfl rfl ?_
    refine WL.val (OpVal.opv rfl) rfl rfl rfl ?_
    refine WL.nil ?_
    refine Kseq.go ?_
    refine W.condT rfl rfl ?_
    refine W.seq ?_
    refine W.region ?_
    refine WL.val (OpVal.call rfl (fun m hm => awake_any)) rfl rfl rfl ?_
    refine WL.val (OpVal.opv rfl) rfl rfl rfl ?_
    refine WL.nil ?_
    refine Kseq.go ?_
    refine W.ret ?_; refine Kseq.ret ?_; refine ⟨.inl rfl, [_], h, ⟨.tmp rfl, trivial⟩, (by repeat (first | exact .head _ | refine .tail _ ?_)), ?_⟩
    rfl
  skip
  refine W.region ?_
  refine WL.val (OpVal.loadPW rfl (by assumption) (by repeat (first | exact .head _ | refine .tail _ ?_)) (by rfl)) rfl rfl rfl ?_
  refine WL.val (OpVal.cast (OpVal.call rfl (fun m hm => ready_any (hv'.le (by repeat (first | exact hm.1 | replace hm := hm.2))))) (congrArg Value.bool hR)) rfl rfl rfl ?_
  refine WL.val (OpVal.opv rfl) rfl rfl rfl ?_
  refine WL.val (OpVal.opv rfl) rfl rfl rfl ?_
  refine WL.val (OpVal.fieldAddrB rfl) rfl rfl rfl ?_
  refine WL.val (OpVal.loadP rfl (by assumption) (by repeat (first | exact .head _ | refine .tail _ ?_)) rfl) rfl rfl rfl ?_
  refine WL.val (OpVal.len rfl hW) rfl rfl rfl ?_
  refine WL.val (OpVal.cast (OpVal.opv rfl) (congrArg Value.bool (decide_eq_false (by omega)))) rfl rfl rfl ?_
  refine WL.val (OpVal.opv rfl) rfl rfl rfl ?_
  refine WL.nil ?_
  refine Kseq.go ?_
  refine W.condF rfl rfl ?_
  obtain ⟨hTh, hVa⟩ := readyB_iff.1 hR
  have hs : Sm t := ThinB.sm hTh
  have hs1 := hs.1
  have hs2 := hs.2.1
  have hal' : n % t.women.length < t.women.length := Nat.mod_lt _ (by omega)
  have hbl' : n2 % t.women.length < t.women.length := Nat.mod_lt _ (by omega)
  obtain ⟨wa, wc, rfl⟩ := IsArr.form hW
  obtain ⟨pa, pc, rfl⟩ := IsArr.form hP
  have hPc := hP.toCells
  have hWc := hW.toCells
  have hfl := fsOf_len f t.pieces
  have hal := fsOf_all hM
  have hcl := pcs_len hfl
  have hwl : (t.women.map wv3).length = t.women.length := by rw [List.length_map]
  generalize hfs : fsOf f t.pieces = fs at *
  refine W.skip (Kseq.go (W.seq ?_))
  skip
  refine W.draw 13 (by kernel_rfl) (by kernel_rfl) (by kernel_rfl) rfl ?_
  refine DJ.val [] (OpVal.opv rfl) rfl rfl rfl rfl ?_
  refine DJ.val [] (OpVal.conv rfl (i64_in (by omega) (by omega))) rfl rfl rfl rfl ?_
  refine DJ.val [] (OpVal.fieldAddrB rfl) rfl rfl rfl rfl ?_
  refine DJ.val [] (OpVal.loadP rfl (by assumption) (by repeat (first | exact .head _ | refine .tail _ ?_)) rfl) rfl rfl rfl rfl ?_
  refine DJ.val [] (OpVal.len rfl hW) rfl rfl rfl rfl ?_
  refine DJ.val [] (OpVal.cast (OpVal.rem rfl rfl (by omega) (by omega)) (show vi ((n : Int) % (t.women.length : Int)) = vi ((n % t.women.length : Nat) : Int) from rfl)) rfl rfl rfl rfl ?_
  refine DJ.val [] (OpVal.opv rfl) rfl rfl rfl rfl ?_
  refine DJ.val [] (OpVal.conv rfl (i64_in (by omega) (by omega))) rfl rfl rfl rfl ?_
  refine DJ.val [] (OpVal.fieldAddrB rfl) rfl rfl rfl rfl ?_
  refine DJ.val [] (OpVal.loadP rfl (by assumption) (by repeat (first | exact .head _ | refine .tail _ ?_)) rfl) rfl rfl rfl rfl ?_
  refine DJ.val [] (OpVal.len rfl hW) rfl rfl rfl rfl ?_
  refine DJ.val [] (OpVal.cast (OpVal.rem rfl rfl (by omega) (by omega)) (show vi ((n2 : Int) % (t.women.length : Int)) = vi ((n2 % t.women.length : Nat) : Int) from rfl)) rfl rfl rfl rfl ?_
  refine DJ.val [] (OpVal.opv rfl) rfl rfl rfl rfl ?_
  refine DJ.nil ?_
  refine WL.val (OpVal.opv rfl) rfl rfl rfl ?_
  refine WL.nil ?_
  refine Kseq.go (W.seq ?_)
  generalize n % t.women.length = a at *
  generalize n2 % t.women.length = b at *
  skip
  refine W.region ?_
  refine WL.val (OpVal.loadPW rfl (by assumption) (by repeat (first | exact .head _ | refine .tail _ ?_)) (by rfl)) rfl rfl rfl ?_
  refine WL.alloc rfl rfl rfl (fun b9 => ?_)
  refine WL.store [_, _, _] rfl (.head _) rfl rfl rfl (Nat.le_of_ble_eq_true rfl) (by first | (simp [Value.cells, Value.oneCell']; done) | exact IsArr.ones hW (by omega) | exact IsArr.ones hP (by omega) | exact IsArr.ones hS (by omega) | exact IsArr.ones hH (by omega) | exact IsArr.ones hL (by omega) | exact IsArr.ones hB (by omega) | exact IsArr.ones hT (by omega) | exact IsArr.ones hm (by omega)) rfl ?_
  refine WL.nil ?_
  refine Kseq.go (W.seq ?_)
  let l0 : List (Nat × Value) := [(3, .pointer (some ⟨b3, 0, none⟩)), (7, .int .i64 (a : Int)), (8, .int .i64 (b : Int)), (9, .pointer (some ⟨b9, 0, none⟩))]
  skip
  refine W.weaken l0 [m1, h] [.blk b9 [.slice wa t.women.length wc, .slice pa t.pieces.length pc, vi t.wrong].toArray 25] (by repeat (first | exact trivial | refine ⟨rfl, ?_⟩)) (by simp) (.refl _) ?_
  skip
  refine W.drawN (γ := Ph2 (Option Addr × Nat) (Option Addr × Nat)) .a 9 [3, 7] (Ph2.sel l0 (fun g => (51, .slice g.1 t.women.length g.2) :: l0) (fun g g2 => (55, .slice g2.1 t.pieces.length g2.2) :: (51, .slice g.1 t.women.length g.2) :: l0)) (Ph2.sel [.blk b9 [.slice wa t.women.length wc, .slice pa t.pieces.length pc, vi t.wrong].toArray 25] (fun g => [.row 31 3 (.slice g.1 t.women.length g.2) t.women.length (flatv (t.women.map wv3)), .blk b9 [.slice wa t.women.length wc, .slice pa t.pieces.length pc, vi t.wrong].toArray 25]) (fun g g2 => [.row 35 2 (.slice g2.1 t.pieces.length g2.2) t.pieces.length (flatv (pcs fs t.pieces)), .row 31 3 (.slice g.1 t.women.length g.2) t.women.length (flatv (t.women.map wv3)), .blk b9 [.slice wa t.women.length wc, .slice pa t.pieces.length pc, vi t.wrong].toArray 25])) Ph2.num (by kernel_rfl) (by kernel_rfl) (by kernel_rfl) rfl Ph2.le (Ph2.all rfl (fun _ => rfl) (fun _ _ => rfl)) rfl rfl ?_
  refine DJN.abs (A := fun m r => ∃ b, r = .slice (some ⟨b, 0, none⟩) 0 0) [] (Ph2.all (fun hg => (OpAbs.mono (OpAbs.lit (vs := []) [] rfl (Nat.le_of_ble_eq_true rfl) rfl rfl (by simp) (Nat.le_of_ble_eq_true rfl) rfl (by simp)) (fun m r hr => hr.2))) (fun x1 hg => Bool.noConfusion (show false = true from hg)) (fun x1 x2 hg => Bool.noConfusion (show false = true from hg))) (Ph2.all (fun hg => rfl) (fun x1 hg => Bool.noConfusion (show false = true from hg)) (fun x1 x2 hg => Bool.noConfusion (show false = true from hg))) rfl rfl (Ph2.all rfl (fun _ => rfl) (fun _ _ => rfl)) rfl ?_
  refine DJN.val [] (Ph2.all (fun hg => OpVal.fieldAddrB rfl) (fun x1 hg => OpVal.fieldAddrB rfl) (fun x1 x2 hg => OpVal.fieldAddrB rfl)) (Ph2.all (fun hg => rfl) (fun x1 hg => rfl) (fun x1 x2 hg => rfl)) rfl rfl (Ph2.all rfl (fun _ => rfl) (fun _ _ => rfl)) rfl ?_
  refine DJN.val [] (Ph2.all (fun hg => (by first | exact OpVal.loadB rfl (.head _) rfl | exact OpVal.loadB rfl (.tail _ (.head _)) rfl | exact OpVal.loadB rfl (.tail _ (.tail _ (.head _))) rfl | exact OpVal.loadB rfl (.tail _ (.tail _ (.tail _ (.head _)))) rfl | exact OpVal.loadB rfl (.tail _ (.tail _ (.tail _ (.tail _ (.head _))))) rfl | exact OpVal.loadB rfl (.tail _ (.tail _ (.tail _ (.tail _ (.tail _ (.head _)))))) rfl | exact OpVal.loadP rfl (by assumption) (by repeat (first | exact .head _ | refine .tail _ ?_)) rfl)) (fun x1 hg => Bool.noConfusion (show false = true from hg)) (fun x1 x2 hg => Bool.noConfusion (show false = true from hg))) (Ph2.all (fun hg => rfl) (fun x1 hg => Bool.noConfusion (show false = true from hg)) (fun x1 x2 hg => Bool.noConfusion (show false = true from hg))) rfl rfl (Ph2.all rfl (fun _ => rfl) (fun _ _ => rfl)) rfl ?_
  refine DJN.eff 0 [(50, _)] ⟨rfl, trivial⟩ rfl rfl [(48, fun m r => ∃ b, r = .slice (some ⟨b, 0, none⟩) 0 0)] ⟨(by repeat (first | exact .head _ | refine .tail _ ?_)), rfl, trivial⟩ (Ph2.all (fun hg => ⟨rfl, fun M2 hM2 => ?_⟩) (fun x1 hg => absurd hg (by simp [Ph2.num])) (fun x1 x2 hg => absurd hg (by simp [Ph2.num]))) ?_
  · intro m48 v48 h48
    (obtain ⟨bA, rfl⟩ := h48; refine WL.append0 rfl rfl hWc (.tail _ (hM2 h (by simp))) (by omega) rfl (by omega) (by unfold maxLen; omega) (by omega) rfl rfl rfl ?_; intro a51 c51; exact WL.nil ⟨.b (a51, c51), rfl, Keff.intro (by repeat (first | exact trivial | refine ⟨rfl, ?_⟩)) (fun x hx => .tail _ hx) (.refl _)⟩)
  refine DJN.abs (A := fun m r => ∃ b, r = .slice (some ⟨b, 0, none⟩) 0 0) [] (Ph2.all (fun hg => (OpAbs.mono (OpAbs.lit (vs := []) [] rfl (Nat.le_of_ble_eq_true rfl) rfl rfl (by simp) (Nat.le_of_ble_eq_true rfl) rfl (by simp)) (fun m r hr => hr.2))) (fun x1 hg => (OpAbs.mono (OpAbs.lit (vs := []) [] rfl (Nat.le_of_ble_eq_true rfl) rfl rfl (by simp) (Nat.le_of_ble_eq_true rfl) rfl (by simp)) (fun m r hr => hr.2))) (fun x1 x2 hg => Bool.noConfusion (show false = true from hg))) (Ph2.all (fun hg => rfl) (fun x1 hg => rfl) (fun x1 x2 hg => Bool.noConfusion (show false = true from hg))) rfl rfl (Ph2.all rfl (fun _ => rfl) (fun _ _ => rfl)) rfl ?_
  refine DJN.val [] (Ph2.all (fun hg => OpVal.fieldAddrB rfl) (fun x1 hg => OpVal.fieldAddrB rfl) (fun x1 x2 hg => OpVal.fieldAddrB rfl)) (Ph2.all (fun hg => rfl) (fun x1 hg => rfl) (fun x1 x2 hg => rfl)) rfl rfl (Ph2.all rfl (fun _ => rfl) (fun _ _ => rfl)) rfl ?_
  refine DJN.val [] (Ph2.all (fun hg => (by first | exact OpVal.loadB rfl (.head _) rfl | exact OpVal.loadB rfl (.tail _ (.head _)) rfl | exact OpVal.loadB rfl (.tail _ (.tail _ (.head _))) rfl | exact OpVal.loadB rfl (.tail _ (.tail _ (.tail _ (.head _)))) rfl | exact OpVal.loadB rfl (.tail _ (.tail _ (.tail _ (.tail _ (.head _))))) rfl | exact OpVal.loadB rfl (.tail _ (.tail _ (.tail _ (.tail _ (.tail _ (.head _)))))) rfl | exact OpVal.loadP rfl (by assumption) (by repeat (first | exact .head _ | refine .tail _ ?_)) rfl)) (fun x1 hg => (by first | exact OpVal.loadB rfl (.head _) rfl | exact OpVal.loadB rfl (.tail _ (.head _)) rfl | exact OpVal.loadB rfl (.tail _ (.tail _ (.head _))) rfl | exact OpVal.loadB rfl (.tail _ (.tail _ (.tail _ (.head _)))) rfl | exact OpVal.loadB rfl (.tail _ (.tail _ (.tail _ (.tail _ (.head _))))) rfl | exact OpVal.loadB rfl (.tail _ (.tail _ (.tail _ (.tail _ (.tail _ (.head _)))))) rfl | exact OpVal.loadP rfl (by assumption) (by repeat (first | exact .head _ | refine .tail _ ?_)) rfl)) (fun x1 x2 hg => Bool.noConfusion (show false = true from hg))) (Ph2.all (fun hg => rfl) (fun x1 hg => rfl) (fun x1 x2 hg => Bool.noConfusion (show false = true from hg))) rfl rfl (Ph2.all rfl (fun _ => rfl) (fun _ _ => rfl)) rfl ?_
  refine DJN.eff 1 [(54, _)] ⟨rfl, trivial⟩ rfl rfl [(52, fun m r => ∃ b, r = .slice (some ⟨b, 0, none⟩) 0 0)] ⟨(by repeat (first | exact .head _ | refine .tail _ ?_)), rfl, trivial⟩ (Ph2.all (fun hg => absurd hg (by simp [Ph2.num])) (fun x1 hg => ⟨rfl, fun M2 hM2 => ?_⟩) (fun x1 x2 hg => absurd hg (by simp [Ph2.num]))) ?_
  · intro m52 v52 h52
    (obtain ⟨bA, rfl⟩ := h52; refine WL.append0 rfl rfl hPc (.tail _ (hM2 h (by simp))) (by omega) rfl (by omega) (by unfold maxLen; omega) (by omega) rfl rfl rfl ?_; intro a55 c55; exact WL.nil ⟨.c x1 (a55, c55), rfl, Keff.intro (by repeat (first | exact trivial | refine ⟨rfl, ?_⟩)) (fun x hx => .tail _ hx) (.refl _)⟩)
  refine DJN.val [] (Ph2.all (fun hg => Bool.noConfusion (show false = true from hg)) (fun x1 hg => OpVal.fieldAddrB rfl) (fun x1 x2 hg => OpVal.fieldAddrB rfl)) (Ph2.all (fun hg => Bool.noConfusion (show false = true from hg)) (fun x1 hg => rfl) (fun x1 x2 hg => rfl)) rfl rfl (Ph2.all rfl (fun _ => rfl) (fun _ _ => rfl)) rfl ?_
  refine DJN.nil (Ph2.all (fun hg => absurd hg (by simp [Ph2.num])) (fun x1 hg => absurd hg (by simp [Ph2.num])) (fun x1 x2 hg => ?_))
  rintro m52 v52 h52
  rintro m48 v48 h48
  refine WL.store [_, _, _] rfl (.tail _ (.tail _ (.head _))) rfl rfl rfl (Nat.le_of_ble_eq_true rfl) (by first | (simp [Value.cells, Value.oneCell']; done) | exact IsArr.ones hW (by omega) | exact IsArr.ones hP (by omega) | exact IsArr.ones hS (by omega) | exact IsArr.ones hH (by omega) | exact IsArr.ones hL (by omega) | exact IsArr.ones hB (by omega) | exact IsArr.ones hT (by omega) | exact IsArr.ones hm (by omega)) rfl ?_
  refine WL.val (OpVal.fieldAddrB rfl) rfl rfl rfl ?_
  refine WL.store [_, _, _] rfl (.tail _ (.tail _ (.head _))) rfl rfl rfl (Nat.le_of_ble_eq_true rfl) (by first | (simp [Value.cells, Value.oneCell']; done) | exact IsArr.ones hW (by omega) | exact IsArr.ones hP (by omega) | exact IsArr.ones hS (by omega) | exact IsArr.ones hH (by omega) | exact IsArr.ones hL (by omega) | exact IsArr.ones hB (by omega) | exact IsArr.ones hT (by omega) | exact IsArr.ones hm (by omega)) rfl ?_
  refine WL.nil ?_
  refine Kseq.go (W.seq ?_)
  obtain ⟨wA, wC⟩ := x1
  obtain ⟨pA, pC⟩ := x2
  dsimp only
  have e1 := women_put hal' (t.women.getD b default)
  have e2 := women_put (ws := t.women.set a (t.women.getD b default)) (i := b) (by rw [List.length_set]; exact hbl') (t.women.getD a default)
  skip
  refine W.weaken l0 [m1, h] [.row 35 2 (.slice pA t.pieces.length pC) t.pieces.length (flatv (pcs fs t.pieces)), .row 31 3 (.slice wA t.women.length wC) t.women.length (flatv ((t.women).map wv3)), .blk b9 [.slice wA t.women.length wC, .slice pA t.pieces.length pC, vi t.wrong].toArray 25] (by repeat (first | exact trivial | refine ⟨rfl, ?_⟩)) (by simp) (.refl _) ?_
  skip
  refine W.drawN (γ := Ph1 Unit) .a 18 [17] (Ph1.sel l0 (fun _ => l0)) (Ph1.sel [.row 35 2 (.slice pA t.pieces.length pC) t.pieces.length (flatv (pcs fs t.pieces)), .row 31 3 (.slice wA t.women.length wC) t.women.length (flatv ((t.women).map wv3)), .blk b9 [.slice wA t.women.length wC, .slice pA t.pieces.length pC, vi t.wrong].toArray 25] (fun _ => [.row 35 2 (.slice pA t.pieces.length pC) t.pieces.length (flatv (pcs fs t.pieces)), .row 31 3 (.slice wA t.women.length wC) t.women.length (flatv ((t.women.set a (t.women.getD b default)).map wv3)), .blk b9 [.slice wA t.women.length wC, .slice pA t.pieces.length pC, vi t.wrong].toArray 25])) Ph1.num (by kernel_rfl) (by kernel_rfl) (by kernel_rfl) rfl Ph1.le (Ph1.all rfl (fun _ => rfl)) rfl rfl ?_
  refine DJN.val [] (Ph1.all (fun hg => OpVal.fieldAddrB rfl) (fun x1 hg => Bool.noConfusion (show false = true from hg))) (Ph1.all (fun hg => rfl) (fun x1 hg => Bool.noConfusion (show false = true from hg))) rfl rfl (Ph1.all rfl (fun _ => rfl)) rfl ?_
  refine DJN.val [] (Ph1.all (fun hg => (by first | exact OpVal.loadB rfl (.head _) rfl | exact OpVal.loadB rfl (.tail _ (.head _)) rfl | exact OpVal.loadB rfl (.tail _ (.tail _ (.head _))) rfl | exact OpVal.loadB rfl (.tail _ (.tail _ (.tail _ (.head _)))) rfl | exact OpVal.loadB rfl (.tail _ (.tail _ (.tail _ (.tail _ (.head _))))) rfl | exact OpVal.loadB rfl (.tail _ (.tail _ (.tail _ (.tail _ (.tail _ (.head _)))))) rfl | exact OpVal.loadP rfl (by assumption) (by repeat (first | exact .head _ | refine .tail _ ?_)) rfl)) (fun x1 hg => Bool.noConfusion (show false = true from hg))) (Ph1.all (fun hg => rfl) (fun x1 hg => Bool.noConfusion (show false = true from hg))) rfl rfl (Ph1.all rfl (fun _ => rfl)) rfl ?_
  refine DJN.val [] (Ph1.all (fun hg => OpVal.opv rfl) (fun x1 hg => Bool.noConfusion (show false = true from hg))) (Ph1.all (fun hg => rfl) (fun x1 hg => Bool.noConfusion (show false = true from hg))) rfl rfl (Ph1.all rfl (fun _ => rfl)) rfl ?_
  refine DJN.val [] (Ph1.all (fun hg => OpVal.fieldAddrB rfl) (fun x1 hg => OpVal.fieldAddrB rfl)) (Ph1.all (fun hg => rfl) (fun x1 hg => rfl)) rfl rfl (Ph1.all rfl (fun _ => rfl)) rfl ?_
  refine DJN.val [] (Ph1.all (fun hg => (by first | exact OpVal.loadB rfl (.head _) rfl | exact OpVal.loadB rfl (.tail _ (.head _)) rfl | exact OpVal.loadB rfl (.tail _ (.tail _ (.head _))) rfl | exact OpVal.loadB rfl (.tail _ (.tail _ (.tail _ (.head _)))) rfl | exact OpVal.loadB rfl (.tail _ (.tail _ (.tail _ (.tail _ (.head _))))) rfl | exact OpVal.loadB rfl (.tail _ (.tail _ (.tail _ (.tail _ (.tail _ (.head _)))))) rfl | exact OpVal.loadP rfl (by assumption) (by repeat (first | exact .head _ | refine .tail _ ?_)) rfl)) (fun x1 hg => (by first | exact OpVal.loadB rfl (.head _) rfl | exact OpVal.loadB rfl (.tail _ (.head _)) rfl | exact OpVal.loadB rfl (.tail _ (.tail _ (.head _))) rfl | exact OpVal.loadB rfl (.tail _ (.tail _ (.tail _ (.head _)))) rfl | exact OpVal.loadB rfl (.tail _ (.tail _ (.tail _ (.tail _ (.head _))))) rfl | exact OpVal.loadB rfl (.tail _ (.tail _ (.tail _ (.tail _ (.tail _ (.head _)))))) rfl | exact OpVal.loadP rfl (by assumption) (by repeat (first | exact .head _ | refine .tail _ ?_)) rfl))) (Ph1.all (fun hg => rfl) (fun x1 hg => rfl)) rfl rfl (Ph1.all rfl (fun _ => rfl)) rfl ?_
  refine DJN.val [] (Ph1.all (fun hg => OpVal.opv rfl) (fun x1 hg => OpVal.opv rfl)) (Ph1.all (fun hg => rfl) (fun x1 hg => rfl)) rfl rfl (Ph1.all rfl (fun _ => rfl)) rfl ?_
  refine DJN.val [] (Ph1.all (fun hg => OpVal.fieldAddrB rfl) (fun x1 hg => Bool.noConfusion (show false = true from hg))) (Ph1.all (fun hg => rfl) (fun x1 hg => Bool.noConfusion (show false = true from hg))) rfl rfl (Ph1.all rfl (fun _ => rfl)) rfl ?_
  refine DJN.val [] (Ph1.all (fun hg => (by first | exact OpVal.loadB rfl (.head _) rfl | exact OpVal.loadB rfl (.tail _ (.head _)) rfl | exact OpVal.loadB rfl (.tail _ (.tail _ (.head _))) rfl | exact OpVal.loadB rfl (.tail _ (.tail _ (.tail _ (.head _)))) rfl | exact OpVal.loadB rfl (.tail _ (.tail _ (.tail _ (.tail _ (.head _))))) rfl | exact OpVal.loadB rfl (.tail _ (.tail _ (.tail _ (.tail _ (.tail _ (.head _)))))) rfl | exact OpVal.loadP rfl (by assumption) (by repeat (first | exact .head _ | refine .tail _ ?_)) rfl)) (fun x1 hg => Bool.noConfusion (show false = true from hg))) (Ph1.all (fun hg => rfl) (fun x1 hg => Bool.noConfusion (show false = true from hg))) rfl rfl (Ph1.all rfl (fun _ => rfl)) rfl ?_
  refine DJN.val [] (Ph1.all (fun hg => OpVal.opv rfl) (fun x1 hg => Bool.noConfusion (show false = true from hg))) (Ph1.all (fun hg => rfl) (fun x1 hg => Bool.noConfusion (show false = true from hg))) rfl rfl (Ph1.all rfl (fun _ => rfl)) rfl ?_
  refine DJN.val [] (Ph1.all (fun hg => OpVal.indexAddrN rfl rfl hW hbl') (fun x1 hg => Bool.noConfusion (show false = true from hg))) (Ph1.all (fun hg => rfl) (fun x1 hg => Bool.noConfusion (show false = true from hg))) rfl rfl (Ph1.all rfl (fun _ => rfl)) rfl ?_
  refine DJN.val [] (Ph1.all (fun hg => OpVal.cast (OpVal.loadEA rfl hW (by repeat (first | exact .head _ | refine .tail _ ?_)) hbl') (show _ = wv3 (t.women.getD b default) from rfl)) (fun x1 hg => Bool.noConfusion (show false = true from hg))) (Ph1.all (fun hg => rfl) (fun x1 hg => Bool.noConfusion (show false = true from hg))) rfl rfl (Ph1.all rfl (fun _ => rfl)) rfl ?_
  refine DJN.val [] (Ph1.all (fun hg => OpVal.fieldAddrB rfl) (fun x1 hg => OpVal.fieldAddrB rfl)) (Ph1.all (fun hg => rfl) (fun x1 hg => rfl)) rfl rfl (Ph1.all rfl (fun _ => rfl)) rfl ?_
  refine DJN.val [] (Ph1.all (fun hg => (by first | exact OpVal.loadB rfl (.head _) rfl | exact OpVal.loadB rfl (.tail _ (.head _)) rfl | exact OpVal.loadB rfl (.tail _ (.tail _ (.head _))) rfl | exact OpVal.loadB rfl (.tail _ (.tail _ (.tail _ (.head _)))) rfl | exact OpVal.loadB rfl (.tail _ (.tail _ (.tail _ (.tail _ (.head _))))) rfl | exact OpVal.loadB rfl (.tail _ (.tail _ (.tail _ (.tail _ (.tail _ (.head _)))))) rfl | exact OpVal.loadP rfl (by assumption) (by repeat (first | exact .head _ | refine .tail _ ?_)) rfl)) (fun x1 hg => (by first | exact OpVal.loadB rfl (.head _) rfl | exact OpVal.loadB rfl (.tail _ (.head _)) rfl | exact OpVal.loadB rfl (.tail _ (.tail _ (.head _))) rfl | exact OpVal.loadB rfl (.tail _ (.tail _ (.tail _ (.head _)))) rfl | exact OpVal.loadB rfl (.tail _ (.tail _ (.tail _ (.tail _ (.head _))))) rfl | exact OpVal.loadB rfl (.tail _ (.tail _ (.tail _ (.tail _ (.tail _ (.head _)))))) rfl | exact OpVal.loadP rfl (by assumption) (by repeat (first | exact .head _ | refine .tail _ ?_)) rfl))) (Ph1.all (fun hg => rfl) (fun x1 hg => rfl)) rfl rfl (Ph1.all rfl (fun _ => rfl)) rfl ?_
  refine DJN.val [] (Ph1.all (fun hg => OpVal.opv rfl) (fun x1 hg => OpVal.opv rfl)) (Ph1.all (fun hg => rfl) (fun x1 hg => rfl)) rfl rfl (Ph1.all rfl (fun _ => rfl)) rfl ?_
  refine DJN.val [] (Ph1.all (fun hg => OpVal.indexAddrN rfl rfl hW hal') (fun x1 hg => OpVal.indexAddrN rfl rfl hW hal')) (Ph1.all (fun hg => rfl) (fun x1 hg => rfl)) rfl rfl (Ph1.all rfl (fun _ => rfl)) rfl ?_
  refine DJN.val [] (Ph1.all (fun hg => OpVal.cast (OpVal.loadEA rfl hW (by repeat (first | exact .head _ | refine .tail _ ?_)) hal') (show _ = wv3 (t.women.getD a default) from rfl)) (fun x1 hg => Bool.noConfusion (show false = true from hg))) (Ph1.all (fun hg => rfl) (fun x1 hg => Bool.noConfusion (show false = true from hg))) rfl rfl (Ph1.all rfl (fun _ => rfl)) rfl ?_
  refine DJN.val [] (Ph1.all (fun hg => OpVal.indexAddrR rfl rfl (.tail _ (.head _)) hal') (fun x1 hg => Bool.noConfusion (show false = true from hg))) (Ph1.all (fun hg => rfl) (fun x1 hg => Bool.noConfusion (show false = true from hg))) rfl rfl (Ph1.all rfl (fun _ => rfl)) rfl ?_
  refine DJN.eff 0 [(74, _), (68, _)] ⟨rfl, rfl, trivial⟩ rfl rfl [] trivial (Ph1.all (fun hg => ⟨rfl, fun M2 hM2 => ?_⟩) (fun x1 hg => absurd hg (by simp [Ph1.num]))) ?_
  · (refine WL.storeR (T := 31) (k := 3) (xs := flatv (t.women.map wv3)) (μ' := [.row 35 2 (.slice pA t.pieces.length pC) t.pieces.length (flatv (pcs fs t.pieces)), .row 31 3 (.slice wA t.women.length wC) t.women.length (flatv ((t.women.set a (t.women.getD b default)).map wv3)), .blk b9 [.slice wA t.women.length wC, .slice pA t.pieces.length pC, vi t.wrong].toArray 25]) rfl (by rw [← e1]; exact .tail _ (.head _)) rfl rfl rfl hal' (Nat.le_of_ble_eq_true rfl) (by simp [wv3, Value.cells, Value.oneCell']) ?_; exact WL.nil ⟨.b (), rfl, Keff.intro (by repeat (first | exact trivial | refine ⟨rfl, ?_⟩)) (fun x hx => hx) (.refl _)⟩)
  refine DJN.nil (Ph1.all (fun hg => absurd hg (by simp [Ph1.num])) (fun x1 hg => ?_))
  refine WL.val (OpVal.indexAddrR rfl rfl (.tail _ (.head _)) hbl') rfl rfl rfl ?_
  (refine WL.storeR (T := 31) (k := 3) (xs := flatv ((t.women.set a (t.women.getD b default)).map wv3)) (μ' := [.row 35 2 (.slice pA t.pieces.length pC) t.pieces.length (flatv (pcs fs t.pieces)), .row 31 3 (.slice wA t.women.length wC) t.women.length (flatv (((t.women.set a (t.women.getD b default)).set b (t.women.getD a default)).map wv3)), .blk b9 [.slice wA t.women.length wC, .slice pA t.pieces.length pC, vi t.wrong].toArray 25]) rfl (by rw [← e2]; exact .tail _ (.head _)) rfl rfl rfl hbl' (Nat.le_of_ble_eq_true rfl) (by simp [wv3, Value.cells, Value.oneCell']) ?_)
  refine WL.nil ?_
  refine Kseq.go (W.seq (W.seq ?_))
  skip
  refine W.region ?_
  refine WL.val (OpVal.opv rfl) rfl rfl rfl ?_
  refine WL.nil ?_
  refine Kseq.go (W.block ?_)
  refine W.loop (σ := Nat) (fun k => [(3, .pointer (some ⟨b3, 0, none⟩)), (7, .int .i64 (a : Int)), (8, .int .i64 (b : Int)), (9, .pointer (some ⟨b9, 0, none⟩)), (10, .int .i64 (k : Int))]) (fun _ => [m1, h]) (fun k => [.row 35 2 (.slice pA t.pieces.length pC) t.pieces.length (flatv (pcs fs (swTo t.pieces a b (k)))), .row 31 3 (.slice wA t.women.length wC) t.women.length (flatv (((t.women.set a (t.women.getD b default)).set b (t.women.getD a default)).map wv3)), .blk b9 [.slice wA t.women.length wC, .slice pA t.pieces.length pC, vi t.wrong].toArray 25]) (fun k => k ≤ t.pieces.length) (fun k => t.pieces.length - k) 0 ⟨rfl, rfl, rfl, rfl, rfl, trivial⟩ (by simp) (.refl _) (Nat.zero_le _) ?_
  intro k hk
  refine W.seq (W.seq ?_)
  refine W.region ?_
  refine WL.val (OpVal.opv rfl) rfl rfl rfl ?_
  refine WL.val (OpVal.fieldAddrB rfl) rfl rfl rfl ?_
  refine WL.val (OpVal.loadB rfl (.tail _ (.tail _ (.head _))) rfl) rfl rfl rfl ?_
  refine WL.val (OpVal.lenR rfl (.head _)) rfl rfl rfl ?_
  refine WL.val (OpVal.opv rfl) rfl rfl rfl ?_
  refine WL.nil ?_
  refine Kseq.go ?_
  refine W.condD rfl rfl (fun hlt => ?_) (fun hge => ?_)
  · have hkp : k < t.pieces.length := by omega
    have est := setB_store (fs := fs) (ps := swTo t.pieces a b k) (by rw [swTo_len]; exact hfl) (p := k) (by rw [swTo_len]; exact hkp) (swapI (t.pieces.getD k default).bundle a b)
    have hys : setB (swTo t.pieces a b k) k (swapI (t.pieces.getD k default).bundle a b) = swTo t.pieces a b (k + 1) := rfl
    rw [hys] at est
    refine W.skip (Kseq.go (W.seq (W.block ?_)))
    refine W.draw 12 (by kernel_rfl) (by kernel_rfl) (by kernel_rfl) rfl ?_
    refine DJ.val [] (OpVal.fieldAddrB rfl) rfl rfl rfl rfl ?_
    refine DJ.val [] (OpVal.loadB rfl (.tail _ (.tail _ (.head _))) rfl) rfl rfl rfl rfl ?_
    refine DJ.val [] (OpVal.opv rfl) rfl rfl rfl rfl ?_
    refine DJ.val [] (OpVal.fieldAddrB rfl) rfl rfl rfl rfl ?_
    refine DJ.val [] (OpVal.loadP rfl (by assumption) (by repeat (first | exact .head _ | refine .tail _ ?_)) rfl) rfl rfl rfl rfl ?_
    refine DJ.val [] (OpVal.opv rfl) rfl rfl rfl rfl ?_
    refine DJ.val [] (OpVal.indexAddrN rfl rfl hP hkp) rfl rfl rfl rfl ?_
    refine DJ.val [] (OpVal.fieldAddrN rfl hP hkp) rfl rfl rfl rfl ?_
    refine DJ.val [] (OpVal.loadE rfl hP (by repeat (first | exact .head _ | refine .tail _ ?_)) hkp (by omega)) rfl rfl rfl rfl ?_
    refine DJ.val [] (OpVal.opv rfl) rfl rfl rfl rfl ?_
    refine DJ.val [] (OpVal.opv rfl) rfl rfl rfl rfl ?_
    refine DJ.val [] (OpVal.call rfl (fun m hm => swap_any _ _ _)) rfl rfl rfl rfl ?_
    refine DJ.nil ?_
    refine WL.val (OpVal.indexAddrR rfl rfl (.head _) hkp) rfl rfl rfl ?_
    refine WL.val (OpVal.fieldAddrR rfl (.head _) hkp) rfl rfl rfl ?_
    (refine WL.storeR (T := 35) (k := 2) (xs := flatv (pcs fs (swTo t.pieces a b k))) (μ' := [.row 35 2 (.slice pA t.pieces.length pC) t.pieces.length (flatv (pcs fs (swTo t.pieces a b (k + 1)))), .row 31 3 (.slice wA t.women.length wC) t.women.length (flatv (((t.women.set a (t.women.getD b default)).set b (t.women.getD a default)).map wv3)), .blk b9 [.slice wA t.women.length wC, .slice pA t.pieces.length pC, vi t.wrong].toArray 25]) rfl (by rw [← est]; exact .head _) rfl rfl rfl hkp (Nat.le_of_ble_eq_true rfl) (by simp [Value.cells, Value.oneCell']) ?_)
    refine WL.nil ?_
    refine Kblock.normal (Kseq.go ?_)
    skip
    refine W.region ?_
    refine WL.val (OpVal.opv rfl) rfl rfl rfl ?_
    refine WL.val (OpVal.incr rfl (by omega)) rfl rfl rfl ?_
    refine WL.val (OpVal.opv rfl) rfl rfl rfl ?_
    refine WL.nil ?_
    skip
    exact Kloop.next (k + 1) (by omega) (by omega) ⟨rfl, rfl, rfl, rfl, rfl, trivial⟩ (by simp) (.refl _)
  refine W.exit (Kseq.exit (Kloop.exit (Kblock.here (Kseq.go (W.seq ?_)))))
  have hkk : k = t.pieces.length := by omega
  subst hkk
  have hTu := turn_turn hVa hal' hbl'
  have hlp : (pcs fs (swTo t.pieces a b t.pieces.length)).length = t.pieces.length := by rw [pcs_len (by rw [hfl, swTo_len]), swTo_len]
  have hlw : (((t.women.set a (t.women.getD b default)).set b (t.women.getD a default)).map wv3).length = t.women.length := by rw [List.length_map, List.length_set, List.length_set]
  refine W.weaken [(3, .pointer (some ⟨b3, 0, none⟩)), (7, .int .i64 (a : Int)), (8, .int .i64 (b : Int)), (9, .pointer (some ⟨b9, 0, none⟩))] [m1, h] [kr 35 2 (.slice pA t.pieces.length pC) (pcs fs (swTo t.pieces a b t.pieces.length)), kr 31 3 (.slice wA t.women.length wC) (((t.women.set a (t.women.getD b default)).set b (t.women.getD a default)).map wv3), .blk b9 [.slice wA t.women.length wC, .slice pA t.pieces.length pC, vi t.wrong].toArray 25] (by repeat (first | exact trivial | refine ⟨rfl, ?_⟩)) (by simp) (sub_eq (by unfold kr; rw [hlp, hlw])) ?_
  refine W.freezeK (.head _) (fun b hb => (hF b hb).elim) (by omega) (pcs_size _ _) (pcs_one hal) fun m4 hm4 => ?_
  have hp4 := pieces_of (by rw [hfl, swTo_len]) hm4
  clear hm4
  refine W.freezeK (.head _) (fun b hb => (hF b hb).elim) (by omega) (fun u hu => by obtain ⟨w, _, rfl⟩ := List.mem_map.1 hu; rfl) (fun u hu => by obtain ⟨w, _, rfl⟩ := List.mem_map.1 hu; simp [wv3, Value.cells, Value.oneCell']) fun m5 hm5 => ?_
  have hw5' := women_of hm5
  clear hm5
  refine W.join fun mj hj => ?_
  subst hfs
  have hx : IsTable mj (.agg #[.slice wA t.women.length wC, .slice pA t.pieces.length pC, vi t.wrong]) (turnT t a b) := by
    refine ⟨_, _, fun i => (fsOf f t.pieces).getD i undef, rfl, hw5'.le (hj m5 (by simp)), hp4.le (hj m4 (by simp)), fun i hi => ?_⟩
    have hi' : i < t.pieces.length := by rw [← swTo_len t.pieces a b t.pieces.length]; exact hi
    show IsInts mj ((fsOf f t.pieces).getD i undef) ((swTo t.pieces a b t.pieces.length).getD i default).marks
    rw [fsOf_get hi', swTo_marks]
    exact (hM i hi').le (hj h (by simp))
  refine W.freezeBox (.head _) (fun b hb => (hF b hb).elim) fun m9 h9 => ?_
  have hVx := hTu.valid hVa
  have hsx : Sm (turnT t a b) := ⟨by rw [hTu.women]; exact hs.1, by rw [hTu.pieces]; exact hs.2.1, fun i hi => by rw [hTu.marks]; exact hs.2.2 i (by rw [← hTu.pieces]; exact hi)⟩
  have hEx := hTu.askE hVa
  have hwx := hTu.women
  have hpx := hTu.pieces
  obtain ⟨c1, hce, _, hcS⟩ := left_small hVa
  obtain ⟨d1, hde, _, hdS⟩ := left_small hVx
  have hl1 := hTu.left_le hVa hcS hdS
  have hl2 := hTu.symm.left_le hVx hdS hcS
  have hf1 := fault_zero.2 hVa
  have hf2 := fault_zero.2 hVx
  have hvj := hv'.le (hj h (by simp))
  have h3j := h1.le (hj m1 (by simp))
  have hPj := hP.le (hj h (by simp))
  have hq1 := fun h0 => hTu.lo_le h0
  have hq2 := fun h0 => hTu.hi_le h0
  have hq3 := fun h0 => hTu.symm.lo_le h0
  have hq4 := fun h0 => hTu.symm.hi_le h0
  have hwl := fun k (hk : k < t.pieces.length) => hTu.whoLen hk
  have hwm := fun k w (hk : k < t.pieces.length) (hw : ((w : Nat) : Int) ∈ whoP t k) => hTu.whoMem hk hw
  have hnil := hTu.nil
  clear hTu
  generalize turnT t a b = x at *
  skip
  refine W.weaken [(3, .pointer (some ⟨b3, 0, none⟩)), (7, .int .i64 (a : Int)), (8, .int .i64 (b : Int)), (9, .pointer (some ⟨b9, 0, none⟩))] [m9, mj] [] (by repeat (first | exact trivial | refine ⟨rfl, ?_⟩)) (by simp) (List.nil_sublist _) ?_
  skip
  refine W.region ?_
  refine WL.val (OpVal.loadPW rfl h3j (by repeat (first | exact .head _ | refine .tail _ ?_)) rfl) rfl rfl rfl ?_
  refine WL.abs (OpAbs.call rfl (fun m hm => table_any (hvj.le (by repeat (first | exact hm.1 | replace hm := hm.2))) hs)) rfl rfl rfl ?_
  rintro m99 v99 h99
  refine WL.abs (OpAbs.call rfl (fun m hm => whoseT_any (h99.le (by repeat (first | exact hm.1 | replace hm := hm.2))) hs)) rfl rfl rfl ?_
  rintro m100 _ ⟨w1, rfl, hw1⟩
  refine WL.val (OpVal.opv rfl) rfl rfl rfl ?_
  refine WL.val (OpVal.opv rfl) rfl rfl rfl ?_
  refine WL.val (OpVal.opv rfl) rfl rfl rfl ?_
  refine WL.val (OpVal.opv rfl) rfl rfl rfl ?_
  refine WL.val (OpVal.opv rfl) rfl rfl rfl ?_
  refine WL.nil ?_
  refine Kseq.go (W.seq ?_)
  skip
  refine W.region ?_
  refine WL.val (OpVal.loadPW rfl h9 (by repeat (first | exact .head _ | refine .tail _ ?_)) rfl) rfl rfl rfl ?_
  refine WL.abs (OpAbs.call rfl (fun m hm => table_any (hx.le (by repeat (first | exact hm.1 | replace hm := hm.2))) hsx)) rfl rfl rfl ?_
  rintro m105 v105 h105
  refine WL.abs (OpAbs.call rfl (fun m hm => whoseT_any (h105.le (by repeat (first | exact hm.1 | replace hm := hm.2))) hsx)) rfl rfl rfl ?_
  rintro m106 _ ⟨w2, rfl, hw2⟩
  refine WL.val (OpVal.opv rfl) rfl rfl rfl ?_
  refine WL.val (OpVal.opv rfl) rfl rfl rfl ?_
  refine WL.val (OpVal.opv rfl) rfl rfl rfl ?_
  refine WL.val (OpVal.opv rfl) rfl rfl rfl ?_
  refine WL.val (OpVal.opv rfl) rfl rfl rfl ?_
  refine WL.nil ?_
  refine Kseq.go (W.seq ?_)
  by_cases hE : askE t = 0
  · have h0 := askE_ne hE
    have hE2 : askE x = 0 := hEx.trans hE
    have h02 := askE_ne hE2
    rw [if_pos hE] at hw1
    rw [if_pos hE2] at hw2
    have k1 := hq1 h0
    have k2 := hq2 h0
    have k3 := hq3 h02
    have k4 := hq4 h02
    obtain ⟨lo1, hlo1⟩ : ∃ z, loQ (aN t) (ask t) (ask t).length = z := ⟨_, rfl⟩
    obtain ⟨hi1, hhi1⟩ : ∃ z, hiQ (aN t) (ask t) (ask t).length = z := ⟨_, rfl⟩
    have hlo2 : loQ (aN x) (ask x) (ask x).length = lo1 := by rw [← hlo1]; exact Int.le_antisymm k1 k3
    have hhi2 : hiQ (aN x) (ask x) (ask x).length = hi1 := by rw [← hhi1]; exact Int.le_antisymm k4 k2
    rw [hE, hE2]
    skip
    refine W.region ?_
    refine WL.val (OpVal.loadPW rfl h3j (by repeat (first | exact .head _ | refine .tail _ ?_)) rfl) rfl rfl rfl ?_
    refine WL.abs (OpAbs.call rfl (fun m hm => table_any (hvj.le (by repeat (first | exact hm.1 | replace hm := hm.2))) hs)) rfl rfl rfl ?_
    rintro m111 v111 h111
    refine WL.val (OpVal.call rfl (fun m hm => astrayT_at (h111.le (by repeat (first | exact hm.1 | replace hm := hm.2))) hs hE hlo1 hhi1)) rfl rfl rfl ?_
    refine WL.val (OpVal.opv rfl) rfl rfl rfl ?_
    refine WL.val (OpVal.opv rfl) rfl rfl rfl ?_
    refine WL.val (OpVal.opv rfl) rfl rfl rfl ?_
    refine WL.alloc rfl rfl rfl (fun b15 => ?_)
    (refine WL.store [_, _] rfl (.head _) rfl rfl rfl (Nat.le_of_ble_eq_true rfl) (by simp [Value.cells, Value.oneCell']) rfl ?_)
    refine WL.val (OpVal.opv rfl) rfl rfl rfl ?_
    refine WL.nil ?_
    refine Kseq.go (W.seq ?_)
    skip
    refine W.region ?_
    refine WL.val (OpVal.loadPW rfl h9 (by repeat (first | exact .head _ | refine .tail _ ?_)) rfl) rfl rfl rfl ?_
    refine WL.abs (OpAbs.call rfl (fun m hm => table_any (hx.le (by repeat (first | exact hm.1 | replace hm := hm.2))) hsx)) rfl rfl rfl ?_
    rintro m117 v117 h117
    refine WL.val (OpVal.call rfl (fun m hm => astrayT_at (h117.le (by repeat (first | exact hm.1 | replace hm := hm.2))) hsx hE2 hlo2 hhi2)) rfl rfl rfl ?_
    refine WL.val (OpVal.opv rfl) rfl rfl rfl ?_
    refine WL.val (OpVal.opv rfl) rfl rfl rfl ?_
    refine WL.val (OpVal.opv rfl) rfl rfl rfl ?_
    refine WL.alloc rfl rfl rfl (fun b17 => ?_)
    (refine WL.store [_, _] rfl (.head _) rfl rfl rfl (Nat.le_of_ble_eq_true rfl) (by simp [Value.cells, Value.oneCell']) rfl ?_)
    refine WL.val (OpVal.opv rfl) rfl rfl rfl ?_
    refine WL.nil ?_
    refine Kseq.go (W.seq ?_)
    refine W.freezeBox (.head _) (fun b hb => (hF b hb).elim) fun m17 h17 => ?_
    refine W.freezeBox (.head _) (fun b hb => (hF b hb).elim) fun m15 h15 => ?_
    skip
    refine W.region ?_
    refine WL.val (OpVal.loadPW rfl h3j (by repeat (first | exact .head _ | refine .tail _ ?_)) rfl) rfl rfl rfl ?_
    refine WL.abs (OpAbs.call rfl (fun m hm => table_any (hvj.le (by repeat (first | exact hm.1 | replace hm := hm.2))) hs)) rfl rfl rfl ?_
    rintro m123 v123 h123
    refine WL.abs (OpAbs.call rfl (fun m hm => leaveT_any (h123.le (by repeat (first | exact hm.1 | replace hm := hm.2))) hs)) rfl rfl rfl ?_
    rintro m124 _ ⟨u1, rfl, _, hu1⟩
    have hU1 := hu1 hf1 c1 hce
    rw [hf1]
    refine WL.val (OpVal.opv rfl) rfl rfl rfl ?_
    refine WL.val (OpVal.opv rfl) rfl rfl rfl ?_
    refine WL.val (OpVal.opv rfl) rfl rfl rfl ?_
    refine WL.val (OpVal.opv rfl) rfl rfl rfl ?_
    refine WL.val (OpVal.opv rfl) rfl rfl rfl ?_
    refine WL.nil ?_
    refine Kseq.go (W.seq ?_)
    skip
    refine W.region ?_
    refine WL.val (OpVal.loadPW rfl h9 (by repeat (first | exact .head _ | refine .tail _ ?_)) rfl) rfl rfl rfl ?_
    refine WL.abs (OpAbs.call rfl (fun m hm => table_any (hx.le (by repeat (first | exact hm.1 | replace hm := hm.2))) hsx)) rfl rfl rfl ?_
    rintro m129 v129 h129
    refine WL.abs (OpAbs.call rfl (fun m hm => leaveT_any (h129.le (by repeat (first | exact hm.1 | replace hm := hm.2))) hsx)) rfl rfl rfl ?_
    rintro m130 _ ⟨u2, rfl, _, hu2⟩
    have hU2 := hu2 hf2 d1 hde
    rw [hf2]
    refine WL.val (OpVal.opv rfl) rfl rfl rfl ?_
    refine WL.val (OpVal.opv rfl) rfl rfl rfl ?_
    refine WL.val (OpVal.opv rfl) rfl rfl rfl ?_
    refine WL.val (OpVal.opv rfl) rfl rfl rfl ?_
    refine WL.val (OpVal.opv rfl) rfl rfl rfl ?_
    refine WL.nil ?_
    refine Kseq.go (W.seq (W.seq ?_))
    have hb1 := hU1.bd
    have hb2 := hU2.bd
    skip
    refine W.region ?_
    refine WL.val (OpVal.opv rfl) rfl rfl rfl ?_
    refine WL.val (OpVal.opv rfl) rfl rfl rfl ?_
    refine WL.val (OpVal.opv rfl) rfl rfl rfl ?_
    refine WL.val (OpVal.opv rfl) rfl rfl rfl ?_
    refine WL.val (OpVal.opv rfl) rfl rfl rfl ?_
    refine WL.val (OpVal.opv rfl) rfl rfl rfl ?_
    refine WL.val (OpVal.opv rfl) rfl rfl rfl ?_
    refine WL.val (OpVal.opv rfl) rfl rfl rfl ?_
    refine WL.val (OpVal.len rfl hU1) rfl rfl rfl ?_
    refine WL.val (OpVal.opv rfl) rfl rfl rfl ?_
    refine WL.val (OpVal.len rfl hU2) rfl rfl rfl ?_
    refine WL.val (OpVal.cast (OpVal.opv rfl) (show _ = Value.bool false from congrArg (fun b => Value.bool (!b)) (decide_eq_true (by omega)))) rfl rfl rfl ?_
    refine WL.val (OpVal.opv rfl) rfl rfl rfl ?_
    refine WL.nil ?_
    refine Kseq.go ?_
    refine W.condF rfl rfl ?_
    refine W.skip (Kseq.go (W.seq (W.seq ?_)))
    skip
    refine W.region ?_
    refine WL.val (OpVal.opv rfl) rfl rfl rfl ?_
    refine WL.val (OpVal.opv rfl) rfl rfl rfl ?_
    refine WL.nil ?_
    refine Kseq.go ?_
    refine W.condF rfl rfl ?_
    refine W.skip (Kseq.go (W.seq (W.seq ?_)))
    obtain ⟨vs, hvs, hvA⟩ := hw1
    obtain ⟨us, hus, huA⟩ := hw2
    have hnl : (whoTo t t.pieces.length).length = t.pieces.length := by simp [whoTo]
    have hnl2 : (whoTo x x.pieces.length).length = t.pieces.length := by simp [whoTo, hpx]
    skip
    refine W.region ?_
    refine WL.val (OpVal.opv rfl) rfl rfl rfl ?_
    refine WL.val (OpVal.opv rfl) rfl rfl rfl ?_
    refine WL.val (OpVal.opv rfl) rfl rfl rfl ?_
    refine WL.val (OpVal.opv rfl) rfl rfl rfl ?_
    refine WL.val (OpVal.opv rfl) rfl rfl rfl ?_
    refine WL.val (OpVal.opv rfl) rfl rfl rfl ?_
    refine WL.val (OpVal.opv rfl) rfl rfl rfl ?_
    refine WL.val (OpVal.opv rfl) rfl rfl rfl ?_
    refine WL.val (OpVal.opv rfl) rfl rfl rfl ?_
    refine WL.val (OpVal.opv rfl) rfl rfl rfl ?_
    refine WL.val (OpVal.opv rfl) rfl rfl rfl ?_
    refine WL.val (OpVal.cast (OpVal.loadPW rfl h15 (by repeat (first | exact .head _ | refine .tail _ ?_)) rfl) (show _ = vq [lo1, hi1] from rfl)) rfl rfl rfl ?_
    refine WL.val (OpVal.cast (OpVal.loadPW rfl h17 (by repeat (first | exact .head _ | refine .tail _ ?_)) rfl) (show _ = vq [lo1, hi1] from rfl)) rfl rfl rfl ?_
    refine WL.val (OpVal.cast (OpVal.neqQ (N := 2) (enc := vi) (xs := [lo1, hi1]) (ys := [lo1, hi1]) rfl rfl rfl rfl) (show _ = Value.bool false from congrArg Value.bool (by simp))) rfl rfl rfl ?_
    refine WL.val (OpVal.opv rfl) rfl rfl rfl ?_
    refine WL.val (OpVal.opv rfl) rfl rfl rfl ?_
    refine WL.val (OpVal.opv rfl) rfl rfl rfl ?_
    refine WL.val (OpVal.len rfl hvA) rfl rfl rfl ?_
    refine WL.val (OpVal.fieldAddrB rfl) rfl rfl rfl ?_
    refine WL.val (OpVal.loadP rfl h3j (by repeat (first | exact .head _ | refine .tail _ ?_)) rfl) rfl rfl rfl ?_
    refine WL.val (OpVal.len rfl hPj) rfl rfl rfl ?_
    refine WL.val (OpVal.cast (OpVal.opv rfl) (show _ = Value.bool false from congrArg (fun b => Value.bool (!b)) (decide_eq_true (by omega)))) rfl rfl rfl ?_
    refine WL.val (OpVal.opv rfl) rfl rfl rfl ?_
    refine WL.val (OpVal.opv rfl) rfl rfl rfl ?_
    refine WL.val (OpVal.opv rfl) rfl rfl rfl ?_
    refine WL.val (OpVal.len rfl huA) rfl rfl rfl ?_
    refine WL.val (OpVal.opv rfl) rfl rfl rfl ?_
    refine WL.val (OpVal.len rfl hvA) rfl rfl rfl ?_
    refine WL.val (OpVal.cast (OpVal.opv rfl) (show _ = Value.bool false from congrArg (fun b => Value.bool (!b)) (decide_eq_true (by omega)))) rfl rfl rfl ?_
    refine WL.val (OpVal.opv rfl) rfl rfl rfl ?_
    refine WL.nil ?_
    refine Kseq.go ?_
    refine W.condF rfl rfl ?_
    refine W.skip (Kseq.go (W.seq (W.seq ?_)))
    have hget : ∀ k, k < t.pieces.length → (whoTo t t.pieces.length).getD k [] = whoP t k := fun k hk => by unfold whoTo; simp [List.getD_eq_getElem?_getD, hk]
    have hget2 : ∀ k, k < t.pieces.length → (whoTo x x.pieces.length).getD k [] = whoP x k := fun k hk => by unfold whoTo; simp [List.getD_eq_getElem?_getD, hpx, hk]
    refine W.join fun mz hz => ?_
    have hvs2 : AllInts mz vs (whoTo t t.pieces.length) := hvs.le (hz m100 (by simp))
    have hus2 : AllInts mz us (whoTo x x.pieces.length) := hus.le (hz m106 (by simp))
    have hvA2 := IsArr.le hvA (hz m100 (by simp))
    have huA2 := IsArr.le huA (hz m106 (by simp))
    clear hz hvs hus hvA huA
    refine W.weaken [(7, .int .i64 (a : Int)), (8, .int .i64 (b : Int)), (11, w1), (13, w2)] [mz] [] (by repeat (first | exact trivial | refine ⟨rfl, ?_⟩)) (by simp) (List.nil_sublist _) ?_
    skip
    refine W.region ?_
    refine WL.val (OpVal.opv rfl) rfl rfl rfl ?_
    refine WL.nil ?_
    refine Kseq.go (W.block ?_)
    refine W.loop (σ := Nat) (fun k => [(7, .int .i64 (a : Int)), (8, .int .i64 (b : Int)), (11, w1), (13, w2), (23, vi (k : Int))]) (fun _ => [mz]) (fun _ => []) (fun k => k ≤ t.pieces.length) (fun k => t.pieces.length - k) 0 ⟨rfl, rfl, rfl, rfl, rfl, trivial⟩ (by simp) (List.nil_sublist _) (Nat.zero_le _) ?_
    intro k hk
    refine W.seq (W.seq ?_)
    refine W.region ?_
    refine WL.val (OpVal.opv rfl) rfl rfl rfl ?_
    refine WL.val (OpVal.opv rfl) rfl rfl rfl ?_
    refine WL.val (OpVal.len rfl hvA2) rfl rfl rfl ?_
    refine WL.val (OpVal.opv rfl) rfl rfl rfl ?_
    refine WL.nil ?_
    refine Kseq.go ?_
    refine W.condD rfl rfl (fun hlt => ?_) (fun hge => ?_)
    · have hkl : k < t.pieces.length := by omega
      have g1 := hvs2.2 k (by omega)
      have g2 := hus2.2 k (by omega)
      rw [hget k hkl] at g1
      rw [hget2 k hkl] at g2
      have hln := hwl k hkl
      have hgb := g1.bd
      refine W.skip (Kseq.go (W.seq (W.block (W.seq (W.seq ?_)))))
      refine W.draw 10 (by kernel_rfl) (by kernel_rfl) (by kernel_rfl) rfl ?_
      refine DJ.val [] (OpVal.opv rfl) rfl rfl rfl rfl ?_
      refine DJ.val [] (OpVal.opv rfl) rfl rfl rfl rfl ?_
      refine DJ.val [] (OpVal.indexAddrN rfl rfl hvA2 (by omega)) rfl rfl rfl rfl ?_
      refine DJ.val [] (OpVal.cast (OpVal.loadE rfl hvA2 (by repeat (first | exact .head _ | refine .tail _ ?_)) (by omega) (by omega)) (show _ = vs.getD k undef from rfl)) rfl rfl rfl rfl ?_
      refine DJ.val [] (OpVal.len rfl g1) rfl rfl rfl rfl ?_
      refine DJ.val [] (OpVal.opv rfl) rfl rfl rfl rfl ?_
      refine DJ.val [] (OpVal.opv rfl) rfl rfl rfl rfl ?_
      refine DJ.val [] (OpVal.indexAddrN rfl rfl huA2 (by omega)) rfl rfl rfl rfl ?_
      refine DJ.val [] (OpVal.cast (OpVal.loadE rfl huA2 (by repeat (first | exact .head _ | refine .tail _ ?_)) (by omega) (by omega)) (show _ = us.getD k undef from rfl)) rfl rfl rfl rfl ?_
      refine DJ.val [] (OpVal.len rfl g2) rfl rfl rfl rfl ?_
      refine DJ.nil ?_
      refine WL.val (OpVal.cast (OpVal.opv rfl) (show _ = Value.bool false from congrArg (fun b => Value.bool (!b)) (decide_eq_true (by omega)))) rfl rfl rfl ?_
      refine WL.nil ?_
      refine Kseq.go ?_
      refine W.condF rfl rfl ?_
      refine W.skip (Kseq.go (W.seq ?_))
      skip
      refine W.region ?_
      refine WL.val (OpVal.opv rfl) rfl rfl rfl ?_
      refine WL.nil ?_
      refine Kseq.go (W.block ?_)
      refine W.loop (σ := Nat) (fun d => [(7, .int .i64 (a : Int)), (8, .int .i64 (b : Int)), (11, w1), (13, w2), (23, vi (k : Int)), (24, vi (d : Int))]) (fun _ => [mz]) (fun _ => []) (fun d => d ≤ (whoP t k).length) (fun d => (whoP t k).length - d) 0 ⟨rfl, rfl, rfl, rfl, rfl, rfl, trivial⟩ (by simp) (List.nil_sublist _) (Nat.zero_le _) ?_
      intro d hd
      refine W.seq (W.seq ?_)
      refine W.region ?_
      refine WL.val (OpVal.opv rfl) rfl rfl rfl ?_
      refine WL.val (OpVal.opv rfl) rfl rfl rfl ?_
      refine WL.val (OpVal.opv rfl) rfl rfl rfl ?_
      refine WL.val (OpVal.indexAddrN rfl rfl hvA2 (by omega)) rfl rfl rfl ?_
      refine WL.val (OpVal.cast (OpVal.loadE rfl hvA2 (by repeat (first | exact .head _ | refine .tail _ ?_)) (by omega) (by omega)) (show _ = vs.getD k undef from rfl)) rfl rfl rfl ?_
      refine WL.val (OpVal.len rfl g1) rfl rfl rfl ?_
      refine WL.val (OpVal.opv rfl) rfl rfl rfl ?_
      refine WL.nil ?_
      refine Kseq.go ?_
      refine W.condD rfl rfl (fun hlt2 => ?_) (fun hge2 => ?_)
      · have hdl : d < (whoP t k).length := by omega
        obtain ⟨w, hww, _, ew⟩ := mem_sel.1 (show (whoP t k).getD d 0 ∈ whoP t k from mem_getD hdl)
        have hin : (((sw a b w : Nat) : Int) ∈ whoP x k) := hwm k w hkl (by rw [← ew]; exact mem_getD hdl)
        refine W.skip (Kseq.go (W.seq (W.block (W.seq ?_))))
        refine W.draw 14 (by kernel_rfl) (by kernel_rfl) (by kernel_rfl) rfl ?_
        refine DJ.val [] (OpVal.opv rfl) rfl rfl rfl rfl ?_
        refine DJ.val [] (OpVal.opv rfl) rfl rfl rfl rfl ?_
        refine DJ.val [] (OpVal.indexAddrN rfl rfl huA2 (by omega)) rfl rfl rfl rfl ?_
        refine DJ.val [] (OpVal.cast (OpVal.loadE rfl huA2 (by repeat (first | exact .head _ | refine .tail _ ?_)) (by omega) (by omega)) (show _ = us.getD k undef from rfl)) rfl rfl rfl rfl ?_
        refine DJ.val [] (OpVal.opv rfl) rfl rfl rfl rfl ?_
        refine DJ.val [] (OpVal.opv rfl) rfl rfl rfl rfl ?_
        refine DJ.val [] (OpVal.indexAddrN rfl rfl hvA2 (by omega)) rfl rfl rfl rfl ?_
        refine DJ.val [] (OpVal.cast (OpVal.loadE rfl hvA2 (by repeat (first | exact .head _ | refine .tail _ ?_)) (by omega) (by omega)) (show _ = vs.getD k undef from rfl)) rfl rfl rfl rfl ?_
        refine DJ.val [] (OpVal.opv rfl) rfl rfl rfl rfl ?_
        refine DJ.val [] (OpVal.indexAddrN rfl rfl g1 hdl) rfl rfl rfl rfl ?_
        refine DJ.val [] (OpVal.cast (OpVal.loadE rfl g1 (by repeat (first | exact .head _ | refine .tail _ ?_)) hdl (by omega)) (congrArg vi ew)) rfl rfl rfl rfl ?_
        refine DJ.val [] (OpVal.opv rfl) rfl rfl rfl rfl ?_
        refine DJ.val [] (OpVal.opv rfl) rfl rfl rfl rfl ?_
        refine DJ.val [] (OpVal.cast (OpVal.call rfl (fun m hm => swap_any _ _ _)) (congrArg vi (swapI_nat a b w))) rfl rfl rfl rfl ?_
        refine DJ.nil ?_
        refine WL.val (OpVal.cast (OpVal.call rfl (fun m hm => has_any _ (g2.le (by repeat (first | exact hm.1 | replace hm := hm.2))))) (congrArg Value.bool (decide_eq_true hin))) rfl rfl rfl ?_
        refine WL.val (OpVal.opv rfl) rfl rfl rfl ?_
        refine WL.nil ?_
        refine Kseq.go ?_
        refine W.condF rfl rfl ?_
        refine W.skip (Kblock.normal (Kseq.go ?_))
        skip
        refine W.region ?_
        refine WL.val (OpVal.opv rfl) rfl rfl rfl ?_
        refine WL.val (OpVal.incr rfl (by omega)) rfl rfl rfl ?_
        refine WL.val (OpVal.opv rfl) rfl rfl rfl ?_
        refine WL.nil ?_
        skip
        exact Kloop.next (d + 1) (by omega) (by omega) ⟨rfl, rfl, rfl, rfl, rfl, rfl, trivial⟩ (by simp) (by repeat (first | exact List.Sublist.refl _ | refine List.Sublist.cons _ ?_ | refine List.Sublist.cons_cons _ ?_))
      refine W.exit (Kseq.exit (Kloop.exit (Kblock.here (Kblock.normal (Kseq.go ?_)))))
      skip
      refine W.region ?_
      refine WL.val (OpVal.opv rfl) rfl rfl rfl ?_
      refine WL.val (OpVal.incr rfl (by omega)) rfl rfl rfl ?_
      refine WL.val (OpVal.opv rfl) rfl rfl rfl ?_
      refine WL.nil ?_
      skip
      exact Kloop.next (k + 1) (by omega) (by omega) ⟨rfl, rfl, rfl, rfl, rfl, trivial⟩ (by simp) (by repeat (first | exact List.Sublist.refl _ | refine List.Sublist.cons _ ?_ | refine List.Sublist.cons_cons _ ?_))
    refine W.exit (Kseq.exit (Kloop.exit (Kblock.here (Kseq.go (W.seq ?_)))))
    skip
    refine W.region ?_
    refine WL.val (OpVal.call rfl (fun m hm => awake_any)) rfl rfl rfl ?_
    refine WL.val (OpVal.opv rfl) rfl rfl rfl ?_
    refine WL.nil ?_
    refine Kseq.go ?_
    refine W.ret ?_; skip; refine ⟨.inl rfl, [_], mz, ⟨.tmp rfl, trivial⟩, (by repeat (first | exact .head _ | refine .tail _ ?_)), ?_⟩
    rfl
  · have hE' := (askE_valid hVa hE).1
    have hE2 : askE x = 11 := hEx.trans hE'
    rw [hE', hE2]
    skip
    refine W.region ?_
    refine WL.val (OpVal.loadPW rfl h3j (by repeat (first | exact .head _ | refine .tail _ ?_)) rfl) rfl rfl rfl ?_
    refine WL.abs (OpAbs.call rfl (fun m hm => table_any (hvj.le (by repeat (first | exact hm.1 | replace hm := hm.2))) hs)) rfl rfl rfl ?_
    rintro m111 v111 h111
    refine WL.val (OpVal.call rfl (fun m hm => astrayT_no (h111.le (by repeat (first | exact hm.1 | replace hm := hm.2))) hs hE')) rfl rfl rfl ?_
    refine WL.val (OpVal.opv rfl) rfl rfl rfl ?_
    refine WL.val (OpVal.opv rfl) rfl rfl rfl ?_
    refine WL.val (OpVal.opv rfl) rfl rfl rfl ?_
    refine WL.alloc rfl rfl rfl (fun b15 => ?_)
    (refine WL.store [_, _] rfl (.head _) rfl rfl rfl (Nat.le_of_ble_eq_true rfl) (by simp [Value.cells, Value.oneCell']) rfl ?_)
    refine WL.val (OpVal.opv rfl) rfl rfl rfl ?_
    refine WL.nil ?_
    refine Kseq.go (W.seq ?_)
    skip
    refine W.region ?_
    refine WL.val (OpVal.loadPW rfl h9 (by repeat (first | exact .head _ | refine .tail _ ?_)) rfl) rfl rfl rfl ?_
    refine WL.abs (OpAbs.call rfl (fun m hm => table_any (hx.le (by repeat (first | exact hm.1 | replace hm := hm.2))) hsx)) rfl rfl rfl ?_
    rintro m117 v117 h117
    refine WL.val (OpVal.call rfl (fun m hm => astrayT_no (h117.le (by repeat (first | exact hm.1 | replace hm := hm.2))) hsx hE2)) rfl rfl rfl ?_
    refine WL.val (OpVal.opv rfl) rfl rfl rfl ?_
    refine WL.val (OpVal.opv rfl) rfl rfl rfl ?_
    refine WL.val (OpVal.opv rfl) rfl rfl rfl ?_
    refine WL.alloc rfl rfl rfl (fun b17 => ?_)
    (refine WL.store [_, _] rfl (.head _) rfl rfl rfl (Nat.le_of_ble_eq_true rfl) (by simp [Value.cells, Value.oneCell']) rfl ?_)
    refine WL.val (OpVal.opv rfl) rfl rfl rfl ?_
    refine WL.nil ?_
    refine Kseq.go (W.seq ?_)
    refine W.freezeBox (.head _) (fun b hb => (hF b hb).elim) fun m17 h17 => ?_
    refine W.freezeBox (.head _) (fun b hb => (hF b hb).elim) fun m15 h15 => ?_
    skip
    refine W.region ?_
    refine WL.val (OpVal.loadPW rfl h3j (by repeat (first | exact .head _ | refine .tail _ ?_)) rfl) rfl rfl rfl ?_
    refine WL.abs (OpAbs.call rfl (fun m hm => table_any (hvj.le (by repeat (first | exact hm.1 | replace hm := hm.2))) hs)) rfl rfl rfl ?_
    rintro m123 v123 h123
    refine WL.abs (OpAbs.call rfl (fun m hm => leaveT_any (h123.le (by repeat (first | exact hm.1 | replace hm := hm.2))) hs)) rfl rfl rfl ?_
    rintro m124 _ ⟨u1, rfl, _, hu1⟩
    have hU1 := hu1 hf1 c1 hce
    rw [hf1]
    refine WL.val (OpVal.opv rfl) rfl rfl rfl ?_
    refine WL.val (OpVal.opv rfl) rfl rfl rfl ?_
    refine WL.val (OpVal.opv rfl) rfl rfl rfl ?_
    refine WL.val (OpVal.opv rfl) rfl rfl rfl ?_
    refine WL.val (OpVal.opv rfl) rfl rfl rfl ?_
    refine WL.nil ?_
    refine Kseq.go (W.seq ?_)
    skip
    refine W.region ?_
    refine WL.val (OpVal.loadPW rfl h9 (by repeat (first | exact .head _ | refine .tail _ ?_)) rfl) rfl rfl rfl ?_
    refine WL.abs (OpAbs.call rfl (fun m hm => table_any (hx.le (by repeat (first | exact hm.1 | replace hm := hm.2))) hsx)) rfl rfl rfl ?_
    rintro m129 v129 h129
    refine WL.abs (OpAbs.call rfl (fun m hm => leaveT_any (h129.le (by repeat (first | exact hm.1 | replace hm := hm.2))) hsx)) rfl rfl rfl ?_
    rintro m130 _ ⟨u2, rfl, _, hu2⟩
    have hU2 := hu2 hf2 d1 hde
    rw [hf2]
    refine WL.val (OpVal.opv rfl) rfl rfl rfl ?_
    refine WL.val (OpVal.opv rfl) rfl rfl rfl ?_
    refine WL.val (OpVal.opv rfl) rfl rfl rfl ?_
    refine WL.val (OpVal.opv rfl) rfl rfl rfl ?_
    refine WL.val (OpVal.opv rfl) rfl rfl rfl ?_
    refine WL.nil ?_
    refine Kseq.go (W.seq (W.seq ?_))
    have hb1 := hU1.bd
    have hb2 := hU2.bd
    skip
    refine W.region ?_
    refine WL.val (OpVal.opv rfl) rfl rfl rfl ?_
    refine WL.val (OpVal.opv rfl) rfl rfl rfl ?_
    refine WL.val (OpVal.opv rfl) rfl rfl rfl ?_
    refine WL.val (OpVal.opv rfl) rfl rfl rfl ?_
    refine WL.val (OpVal.opv rfl) rfl rfl rfl ?_
    refine WL.val (OpVal.opv rfl) rfl rfl rfl ?_
    refine WL.val (OpVal.opv rfl) rfl rfl rfl ?_
    refine WL.val (OpVal.opv rfl) rfl rfl rfl ?_
    refine WL.val (OpVal.len rfl hU1) rfl rfl rfl ?_
    refine WL.val (OpVal.opv rfl) rfl rfl rfl ?_
    refine WL.val (OpVal.len rfl hU2) rfl rfl rfl ?_
    refine WL.val (OpVal.cast (OpVal.opv rfl) (show _ = Value.bool false from congrArg (fun b => Value.bool (!b)) (decide_eq_true (by omega)))) rfl rfl rfl ?_
    refine WL.val (OpVal.opv rfl) rfl rfl rfl ?_
    refine WL.nil ?_
    refine Kseq.go ?_
    refine W.condF rfl rfl ?_
    refine W.skip (Kseq.go (W.seq (W.seq ?_)))
    skip
    refine W.region ?_
    refine WL.val (OpVal.opv rfl) rfl rfl rfl ?_
    refine WL.val (OpVal.opv rfl) rfl rfl rfl ?_
    refine WL.nil ?_
    refine Kseq.go ?_
    refine W.condT rfl rfl ?_
    refine W.seq ?_
    refine W.region ?_
    refine WL.val (OpVal.opv rfl) rfl rfl rfl ?_
    refine WL.val (OpVal.opv rfl) rfl rfl rfl ?_
    refine WL.val (OpVal.opv rfl) rfl rfl rfl ?_
    refine WL.val (OpVal.opv rfl) rfl rfl rfl ?_
    refine WL.val (OpVal.opv rfl) rfl rfl rfl ?_
    refine WL.val (OpVal.opv rfl) rfl rfl rfl ?_
    refine WL.val (OpVal.opv rfl) rfl rfl rfl ?_
    refine WL.val (OpVal.opv rfl) rfl rfl rfl ?_
    refine WL.val (OpVal.opv rfl) rfl rfl rfl ?_
    refine WL.val (OpVal.opv rfl) rfl rfl rfl ?_
    refine WL.val (OpVal.opv rfl) rfl rfl rfl ?_
    refine WL.val (OpVal.opv rfl) rfl rfl rfl ?_
    refine WL.val (OpVal.opv rfl) rfl rfl rfl ?_
    refine WL.val (OpVal.opv rfl) rfl rfl rfl ?_
    refine WL.val (OpVal.opv rfl) rfl rfl rfl ?_
    refine WL.val (OpVal.opv rfl) rfl rfl rfl ?_
    refine WL.val (OpVal.opv rfl) rfl rfl rfl ?_
    refine WL.val (OpVal.opv rfl) rfl rfl rfl ?_
    refine WL.val (OpVal.call rfl (fun m hm => awake_any)) rfl rfl rfl ?_
    refine WL.val (OpVal.opv rfl) rfl rfl rfl ?_
    refine WL.val (OpVal.opv rfl) rfl rfl rfl ?_
    refine WL.nil ?_
    refine Kseq.go ?_
    refine W.ret ?_; refine Kseq.ret ?_; refine ⟨.inl rfl, [_], mj, ⟨.tmp rfl, trivial⟩, (by repeat (first | exact .head _ | refine .tail _ ?_)), ?_⟩
    rfl
end Go.Proofs.Ytbmohbeocnfefaa
