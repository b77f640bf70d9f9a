/- Counted: its contract and its plain law. -/
import Derived.Test.YtgolpbkapphciaaT39
import Derived.Test.YtgolpbkapphciaaT43
namespace Go.Proofs.Ytgolpbkapphciaa
open Go Go.Eng Go.RowKit

def upTo (ws : List Woman) (g : Nat → Woman → Woman) (k : Nat) : List Woman := (List.range ws.length).map fun i => if i < k then g i (ws.getD i default) else ws.getD i default
theorem upTo_zero (ws : List Woman) (g : Nat → Woman → Woman) : upTo ws g 0 = ws := by
  unfold upTo
  simp only [Nat.not_lt_zero, if_false]
  exact map_range_getD _ _
theorem upTo_len (ws : List Woman) (g : Nat → Woman → Woman) (k : Nat) : (upTo ws g k).length = ws.length := by simp [upTo]
theorem upTo_get {ws : List Woman} {g : Nat → Woman → Woman} {k i : Nat} (hi : i < ws.length) : (upTo ws g k).getD i default = if i < k then g i (ws.getD i default) else ws.getD i default := by
  simp [upTo, List.getD_eq_getElem?_getD, hi]
theorem upTo_succ {ws : List Woman} {g : Nat → Woman → Woman} {k : Nat} (_ : k < ws.length) : upTo ws g (k + 1) = (upTo ws g k).set k (g k (ws.getD k default)) := by
  apply List.ext_getElem
  · simp [upTo_len]
  intro i h1 h2
  have hi : i < ws.length := by simpa [upTo_len] using h1
  rw [List.getElem_set]
  have hg : ∀ k' (hh : i < (upTo ws g k').length), (upTo ws g k')[i] = if i < k' then g i (ws.getD i default) else ws.getD i default := fun k' hh => by
    have := upTo_get (ws := ws) (g := g) (k := k') hi
    rwa [List.getD_eq_getElem?_getD, List.getElem?_eq_getElem hh] at this
  split
  · rename_i e; subst e
    rw [hg, if_pos (by omega)]
  · rename_i e
    rw [hg, hg]
    by_cases h1 : i < k
    · rw [if_pos (by omega), if_pos h1]
    · rw [if_neg (by omega), if_neg h1]
def countW (l : List Int) (ws : List Nat) (i : Nat) (w : Woman) : Woman := withCame w (max 0 ((own l i : Int) - (wordAt ws i : Int) % 2)) (min 7 ((own l i : Int) + (wordAt ws i : Int) / 2 % 3))
def countT (t : Table) (l : List Int) (ws : List Nat) : Table := ⟨upTo t.women (countW l ws) t.women.length, t.pieces, t.wrong⟩
theorem countT_same (t : Table) (l : List Int) (ws : List Nat) : Same t (countT t l ws) := by
  refine ⟨upTo_len _ _ _, rfl, fun i hi => ?_, fun _ => rfl⟩
  show ((upTo t.women (countW l ws) t.women.length).getD i default).mark = _
  rw [upTo_get hi, if_pos hi]; rfl
theorem countT_get {t : Table} {l : List Int} {ws : List Nat} {i : Nat} (hi : i < t.women.length) : (countT t l ws).women.getD i default = countW l ws i (t.women.getD i default) := by
  show (upTo t.women (countW l ws) t.women.length).getD i default = _
  rw [upTo_get hi, if_pos hi]
theorem countT_valid {t : Table} (hV : Valid t) {l : List Int} (hl : l.length ≤ 7) (ws : List Nat) : Valid (countT t l ws) := by
  have hS := countT_same t l ws
  refine ⟨by rw [hS.women]; exact hV.women, hV.pieces, hV.wrong, fun i hi => ?_, fun i hi => ?_, by rw [hS.many]; exact hV.many⟩
  · rw [hS.women] at hi
    rw [countT_get hi]
    have h1 := womanBad_iff.1 (hV.woman i hi)
    have h2 := own_le l i
    rw [womanBad_iff]
    unfold countW withCame
    refine ⟨h1.1, ?_, ?_, ?_⟩
    · show (0 : Int) ≤ max 0 _; omega
    · show max 0 ((own l i : Int) - (wordAt ws i : Int) % 2) ≤ min 7 ((own l i : Int) + (wordAt ws i : Int) / 2 % 3); omega
    · show min 7 _ ≤ (7 : Int); omega
  · rw [hS.bad i rfl]; exact hV.piece i hi
theorem countT_right {t : Table} {l : List Int} (hl : l.length ≤ 7) {ws : List Nat} {i : Nat} (hi : i < t.women.length) : rightP (countT t l ws) l i = true := by
  have h2 := own_le l i
  unfold rightP
  rw [countT_get hi]
  unfold countW withCame
  refine decide_eq_true ?_
  show max 0 ((own l i : Int) - (wordAt ws i : Int) % 2) ≤ (own l i : Int) ∧ (own l i : Int) ≤ min 7 ((own l i : Int) + (wordAt ws i : Int) / 2 % 3)
  omega
theorem countT_ask {t : Table} (hV : Valid t) {l : List Int} (hl : l ∈ allOwners t) (ws : List Nat) : l ∈ ask (countT t l ws) := by
  have hS := countT_same t l ws
  have h7 : l.length ≤ 7 := by rw [(areOwners_iff.1 (allOwners_are hl)).1]; exact hV.pieces
  unfold ask
  rw [hS.all]
  refine List.mem_filter.2 ⟨hl, ?_⟩
  unfold isTruthP
  have : wrongP (countT t l ws) l = [] := by
    cases e : wrongP (countT t l ws) l with
    | nil => rfl
    | cons a s =>
      obtain ⟨i, hi, hr, _⟩ := mem_wrongP.1 (show a ∈ wrongP (countT t l ws) l by rw [e]; exact .head _)
      rw [hS.women] at hi
      rw [countT_right h7 hi] at hr; cases hr
  rw [this]
  exact decide_eq_true hV.wrong.1
/-- Counted -/
theorem counted_any {h : Mem} {v wsv : Value} {t : Table} {ws : List Nat} {n : Nat} (hv : IsTable h v t) (hs : Sm t) (hV : Valid t) (hw : IsU16s h wsv ws) (hn : n < 65536) :
    FnR Try.prog 58 #[v, .int .u16 n, wsv] h (fun m r => ∃ xv lv, r = .tuple #[xv, lv] ∧ IsTable m xv (countT t (nth t (n % (many t).toNat)) ws) ∧ IsInts m lv (nth t (n % (many t).toNat))) := by
  have hv' := hv
  obtain ⟨wv, pv, f, rfl, hW, hP, hM⟩ := hv
  obtain ⟨hs1, hs2, hs3⟩ := hs
  obtain ⟨wa, wc, rfl⟩ := IsArr.form hW
  obtain ⟨pa, pc, rfl⟩ := IsArr.form hP
  have hmo := allOwners_many hV.many
  obtain ⟨o1, ho1⟩ := owners_some hV
  have hmp : 0 < (allOwners t).length := List.length_pos_of_mem ho1
  have hmK : many t = ((many t).toNat : Int) := by omega
  have hl7 : (nth t (n % (many t).toNat)).length ≤ 7 := by
    have hlt : n % (many t).toNat < (allOwners t).length := by rw [hmo.1]; exact Nat.mod_lt _ (by omega)
    rw [← allOwners_nth hV.owned hlt, (areOwners_iff.1 (allOwners_at hlt)).1]
    exact hV.pieces
  have hnm : n % (many t).toNat < 1000000 := Nat.lt_of_le_of_lt (Nat.mod_le _ _) (by omega)
  refine FnR.of_W (n := 58) Try.func58 rfl rfl (Nat.le_of_ble_eq_true rfl) fun c hr hD hF => ?_
  refine W.seq ?_
  refine W.region ?_
  refine WL.box rfl rfl rfl rfl (fun b3 => ?_)
  refine WL.alloc rfl rfl rfl (fun b6 => ?_)
  refine WL.val (OpVal.opv rfl) rfl rfl rfl ?_
  refine WL.nil ?_
  refine Kseq.go (W.seq ?_)
  refine W.freezeBox (.tail _ (.head _)) (fun b hb => (hF b hb).elim) fun m2 h2 => ?_
  skip
  refine W.draw 6 (by kernel_rfl) (by kernel_rfl) (by kernel_rfl) rfl ?_
  refine DJ.val [] (OpVal.loadPW rfl (by assumption) (by repeat (first | exact .head _ | refine .tail _ ?_)) (by rfl)) rfl rfl rfl rfl ?_
  refine DJ.val [] (OpVal.opv rfl) rfl rfl rfl rfl ?_
  refine DJ.val [] (OpVal.conv rfl (i64_in (by omega) (by omega))) rfl rfl rfl rfl ?_
  refine DJ.val [] (OpVal.loadPW rfl (by assumption) (by repeat (first | exact .head _ | refine .tail _ ?_)) (by rfl)) rfl rfl rfl rfl ?_
  refine DJ.val [] (OpVal.cast (OpVal.call rfl (fun m hm => many_any (hv'.le (by repeat (first | exact hm.1 | replace hm := hm.2))) ⟨hs1, hs2, hs3⟩)) (congrArg (Value.int .i64) hmK)) rfl rfl rfl rfl ?_
  refine DJ.val [] (OpVal.cast (OpVal.rem rfl rfl (by omega) (by omega)) (show vi ((n : Int) % ((many t).toNat : Int)) = vi ((n % (many t).toNat : Nat) : Int) from rfl)) rfl rfl rfl rfl ?_
  refine DJ.nil ?_
  refine WL.abs (OpAbs.call rfl (fun m hm => nth_any (hv'.le (by repeat (first | exact hm.1 | replace hm := hm.2))) ⟨hs1, hs2, hs3⟩ hV.owned hnm)) rfl rfl rfl ?_
  rintro m19 v19 h19
  refine WL.val (OpVal.opv rfl) rfl rfl rfl ?_
  refine WL.nil ?_
  refine Kseq.go (W.seq ?_)
  generalize nth t (n % (many t).toNat) = l at *
  skip
  refine W.region ?_
  refine WL.val (OpVal.loadPW rfl (by assumption) (by repeat (first | exact .head _ | refine .tail _ ?_)) (by rfl)) rfl rfl rfl ?_
  refine WL.alloc rfl rfl rfl (fun b9 => ?_)
  refine WL.store [_, _, _] rfl (.head _) rfl rfl rfl (Nat.le_of_ble_eq_true rfl) (by first | (simp [Value.cells, Value.oneCell']; done) | exact IsArr.ones hW (by omega) | exact IsArr.ones hP (by omega)) rfl ?_
  refine WL.nil ?_
  refine Kseq.go (W.seq ?_)
  skip
  refine W.region ?_
  (refine WL.lit (vs := []) [] rfl (Nat.le_of_ble_eq_true rfl) rfl rfl (by simp) (Nat.le_of_ble_eq_true rfl) rfl rfl rfl rfl (fun b21 => ?_))
  refine WL.val (OpVal.fieldAddrB rfl) rfl rfl rfl ?_
  refine WL.val (OpVal.loadP rfl (by assumption) (by repeat (first | exact .head _ | refine .tail _ ?_)) rfl) rfl rfl rfl ?_
  (refine WL.append (e := 69) (k := 3) (bytes := 24) (xs := []) (ys := flatv (t.women.map wv3)) (N := 0) (m2 := t.women.length) (μ' := fun v' => [kr 69 3 v' (t.women.map wv3), .blk b9 _ 25, .blk b6 _ 25]) rfl (fun v' => by simp only [kr, List.length_map, Nat.zero_add, List.nil_append]; exact .head _) rfl hW.toCells (by repeat (first | exact .head _ | refine .tail _ ?_)) rfl (by omega) (by unfold maxLen; omega) (by omega) rfl rfl rfl ?_; intro a24 c24)
  refine WL.val (OpVal.fieldAddrB rfl) rfl rfl rfl ?_
  refine WL.store [_, _, _] rfl (.tail _ (.head _)) rfl rfl rfl (Nat.le_of_ble_eq_true rfl) (by first | (simp [Value.cells, Value.oneCell']; done) | exact IsArr.ones hW (by omega) | exact IsArr.ones hP (by omega)) rfl ?_
  refine WL.nil ?_
  refine Kseq.go (W.seq (W.seq ?_))
  skip
  refine W.region ?_
  refine WL.val (OpVal.opv rfl) rfl rfl rfl ?_
  refine WL.nil ?_
  refine Kseq.go (W.block ?_)
  refine W.loop (σ := Nat) (fun k => [(2, wsv), (3, .pointer (some ⟨b3, 0, none⟩)), (6, .pointer (some ⟨b6, 0, none⟩)), (8, v19), (9, .pointer (some ⟨b9, 0, none⟩)), (10, .int .i64 (k : Int))]) (fun _ => [m19, m2, h])
    (fun k => [kr 69 3 (.slice a24 (0 + t.women.length) c24) ((upTo t.women (countW l ws) k).map wv3), .blk b9 [.slice a24 (0 + t.women.length) c24, .slice pa t.pieces.length pc, vi t.wrong].toArray 25, .blk b6 (Value.agg #[.slice none 0 0, .slice none 0 0, vi 0]).cells 25]) (fun k => k ≤ t.women.length) (fun k => t.women.length - k) 0 ⟨rfl, rfl, rfl, rfl, rfl, rfl, trivial⟩ (by simp) ?_ (Nat.zero_le _) ?_
  · rw [upTo_zero]
    exact (by repeat (first | exact List.Sublist.refl _ | refine List.Sublist.cons _ ?_ | refine List.Sublist.cons_cons _ ?_))
  intro k hk
  have hN : ∀ j, ((upTo t.women (countW l ws) j).map wv3).length = t.women.length := fun j => by rw [List.length_map, upTo_len]
  have hNk := hN k
  refine W.seq (W.seq ?_)
  refine W.region ?_
  refine WL.val (OpVal.opv rfl) rfl rfl rfl ?_
  refine WL.val (OpVal.fieldAddrB rfl) rfl rfl rfl ?_
  refine WL.val (OpVal.loadB rfl (.tail _ (.head _)) rfl) rfl rfl rfl ?_
  refine WL.val (OpVal.lenR rfl (by repeat (first | exact .head _ | refine .tail _ ?_))) rfl rfl rfl ?_
  refine WL.val (OpVal.opv rfl) rfl rfl rfl ?_
  refine WL.nil ?_
  refine Kseq.go ?_
  refine W.condD rfl rfl (fun hlt => ?_) (fun hge => ?_)
  · have hkw : k < t.women.length := by omega
    have hok := own_le l k
    have hwk := wordAt_lt hw.2 k
    have hup := upTo_get (ws := t.women) (g := countW l ws) (k := k) hkw
    rw [if_neg (Nat.lt_irrefl _)] at hup
    have e := women_store (ws := upTo t.women (countW l ws) k) (i := k) (by rw [upTo_len]; exact hkw) (max 0 ((own l k : Int) - (wordAt ws k : Int) % 2)) (min 7 ((own l k : Int) + (wordAt ws k : Int) / 2 % 3))
    rw [hup] at e
    have hsu : (upTo t.women (countW l ws) k).set k (withCame (t.women.getD k default) (max 0 ((own l k : Int) - (wordAt ws k : Int) % 2)) (min 7 ((own l k : Int) + (wordAt ws k : Int) / 2 % 3))) = upTo t.women (countW l ws) (k + 1) := (upTo_succ hkw).symm
    rw [hsu] at e
    have hN1 := hN (k + 1)
    refine W.skip (Kseq.go (W.seq (W.block (W.seq ?_))))
    refine W.region ?_
    refine WL.val (OpVal.opv rfl) rfl rfl rfl ?_
    refine WL.val (OpVal.opv rfl) rfl rfl rfl ?_
    refine WL.val (OpVal.call rfl (fun m hm => own_any _ (h19.le (by repeat (first | exact hm.1 | replace hm := hm.2))))) rfl rfl rfl ?_
    refine WL.val (OpVal.opv rfl) rfl rfl rfl ?_
    refine WL.val (OpVal.opv rfl) rfl rfl rfl ?_
    refine WL.val (OpVal.call rfl (fun m hm => word_any k (hw.le (by repeat (first | exact hm.1 | replace hm := hm.2))))) rfl rfl rfl ?_
    refine WL.val (OpVal.opv rfl) rfl rfl rfl ?_
    refine WL.val (OpVal.opv rfl) rfl rfl rfl ?_
    refine WL.nil ?_
    refine Kseq.go ?_
    skip
    refine W.region ?_
    refine WL.val (OpVal.fieldAddrB rfl) rfl rfl rfl ?_
    refine WL.val (OpVal.loadB rfl (.tail _ (.head _)) rfl) rfl rfl rfl ?_
    refine WL.val (OpVal.opv rfl) rfl rfl rfl ?_
    refine WL.val (OpVal.opv rfl) rfl rfl rfl ?_
    refine WL.val (OpVal.opv rfl) rfl rfl rfl ?_
    refine WL.val (OpVal.rem rfl rfl (by omega) (by omega)) rfl rfl rfl ?_
    refine WL.val (OpVal.sub rfl rfl (by omega) (by omega)) rfl rfl rfl ?_
    refine WL.val (OpVal.max2 rfl rfl) rfl rfl rfl ?_
    refine WL.val (OpVal.opv rfl) rfl rfl rfl ?_
    refine WL.val (OpVal.opv rfl) rfl rfl rfl ?_
    refine WL.val (OpVal.quo rfl rfl (by omega) (by omega) (by omega)) rfl rfl rfl ?_
    refine WL.val (OpVal.rem rfl rfl (by omega) (by omega)) rfl rfl rfl ?_
    refine WL.val (OpVal.add rfl rfl (by omega) (by omega)) rfl rfl rfl ?_
    refine WL.val (OpVal.min2 rfl rfl) rfl rfl rfl ?_
    refine WL.val (OpVal.build2 rfl rfl) rfl rfl rfl ?_
    refine WL.val (OpVal.indexAddrR rfl rfl (.head _) (by omega)) rfl rfl rfl ?_
    refine WL.val (OpVal.fieldAddrR rfl (.head _) (by omega)) rfl rfl rfl ?_
    (refine WL.storeR (T := 69) (k := 3) (xs := flatv ((upTo t.women (countW l ws) k).map wv3)) (μ' := [kr 69 3 (.slice a24 (0 + t.women.length) c24) ((upTo t.women (countW l ws) (k + 1)).map wv3), .blk b9 [.slice a24 (0 + t.women.length) c24, .slice pa t.pieces.length pc, vi t.wrong].toArray 25, .blk b6 (Value.agg #[.slice none 0 0, .slice none 0 0, vi 0]).cells 25]) rfl (by unfold kr; rw [← e, hNk, hN1]; exact .head _) rfl rfl rfl hkw (Nat.le_of_ble_eq_true rfl) (by simp [Value.cells, Value.oneCell']) ?_)
    refine WL.nil ?_
    refine Kblock.normal (Kseq.go ?_)
    skip
    refine W.region ?_
    refine WL.val (OpVal.opv rfl) rfl rfl rfl ?_
    refine WL.val (OpVal.incr rfl (by omega)) rfl rfl rfl ?_
    refine WL.val (OpVal.opv rfl) rfl rfl rfl ?_
    refine WL.nil ?_
    skip
    exact Kloop.next (k + 1) (by omega) (by omega) ⟨rfl, rfl, rfl, rfl, rfl, rfl, trivial⟩ (by simp) (.refl _)
  · refine W.exit (Kseq.exit (Kloop.exit (Kblock.here (Kseq.go (W.seq ?_)))))
    have hkk : k = t.women.length := by omega
    subst hkk
    refine W.freezeK (.head _) (fun b hb => (hF b hb).elim) (by omega) (by simp [wv3, Value.cells]) (by simp [wv3, Value.cells, Value.oneCell']) fun m6 hm6 => ?_
    have hm6' := women_of hm6
    clear hm6
    refine W.join fun mj hj => ?_
    skip
    refine W.region ?_
    refine WL.val (OpVal.loadBW rfl (.head _) rfl) rfl rfl rfl ?_
    refine WL.val (OpVal.opv rfl) rfl rfl rfl ?_
    refine WL.store [_, _, _] rfl (.tail _ (.head _)) rfl rfl rfl (Nat.le_of_ble_eq_true rfl) (by first | (simp [Value.cells, Value.oneCell']; done) | exact IsArr.ones hW (by omega) | exact IsArr.ones hP (by omega)) rfl ?_
    refine WL.val (OpVal.opv rfl) rfl rfl rfl ?_
    refine WL.nil ?_
    refine Kseq.go ?_
    refine W.ret ?_; skip
    refine ⟨.inl rfl, [_, _], mj, ⟨.agg inferInstance inferInstance rfl (.tail _ (.head _)) rfl, .tmp rfl, trivial⟩, .head _, _, _, rfl, ⟨_, _, f, rfl, hm6'.le (hj _ (by simp)), IsPieces.le hP (hj _ (by simp)), IsMarks.le hM (hj _ (by simp))⟩, h19.le (hj _ (by simp))⟩
end Go.Proofs.Ytgolpbkapphciaa
