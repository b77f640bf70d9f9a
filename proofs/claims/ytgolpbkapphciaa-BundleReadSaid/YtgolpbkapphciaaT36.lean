/- The statements' helpers of chapter 3, on: tables with other counts. -/
import Derived.Test.YtgolpbkapphciaaT35
namespace Go.Proofs.Ytgolpbkapphciaa
open Go Go.Eng Go.RowKit

/-- Words. -/
def IsU16s (m : Mem) (v : Value) (ws : List Nat) : Prop := IsArr m 1 v ws.length (fun i _ => .int .u16 ((ws.getD i 0 : Nat) : Int)) ∧ ∀ w ∈ ws, w < 65536
theorem IsU16s.le {m m' : Mem} {v : Value} {ws : List Nat} (h : IsU16s m v ws) (hm : MLe m m') : IsU16s m' v ws := ⟨IsArr.le h.1 hm, h.2⟩
def wordAt (ws : List Nat) (k : Nat) : Nat := if ws.length = 0 then 0 else ws.getD (k % ws.length) 0
theorem wordAt_lt {ws : List Nat} (h : ∀ w ∈ ws, w < 65536) (k : Nat) : wordAt ws k < 65536 := by
  unfold wordAt
  split
  · omega
  · rename_i h0
    have hk : k % ws.length < ws.length := Nat.mod_lt _ (by omega)
    rw [List.getD_eq_getElem?_getD, List.getElem?_eq_getElem hk]
    exact h _ (List.getElem_mem _)
theorem word_any {h : Mem} {wv : Value} {ws : List Nat} (k : Nat) (hw : IsU16s h wv ws) : FnV Try.prog 95 #[wv, vi k] h (vi (wordAt ws k)) := by
  obtain ⟨hv, hb⟩ := hw
  have hlen := IsArr.len hv
  unfold maxLen at hlen
  refine FnR.val ?_
  refine FnR.of_W (n := 16) Try.func95 rfl rfl (Nat.le_of_ble_eq_true rfl) fun c hr hD hF => ?_
  refine W.seq ?_
  refine W.region ?_
  refine WL.val (OpVal.opv rfl) rfl rfl rfl ?_
  refine WL.nil ?_
  refine Kseq.go (W.seq (W.seq ?_))
  skip
  refine W.region ?_
  refine WL.val (OpVal.opv rfl) rfl rfl rfl ?_
  refine WL.val (OpVal.len rfl hv) rfl rfl rfl ?_
  refine WL.val (OpVal.opv rfl) rfl rfl rfl ?_
  refine WL.nil ?_
  refine Kseq.go ?_
  refine W.condD rfl rfl (fun he => ?_) (fun hne => ?_)
  · refine W.seq ?_
    refine W.region ?_
    refine WL.val (OpVal.opv rfl) rfl rfl rfl ?_
    refine WL.nil ?_
    refine Kseq.go ?_
    refine W.ret ?_; refine Kseq.ret ?_; refine ⟨.inl rfl, [_], h, ⟨.tmp rfl, trivial⟩, (by repeat (first | exact .head _ | refine .tail _ ?_)), ?_⟩
    unfold wordAt
    rw [if_pos (by omega)]; rfl
  · have hk : k % ws.length < ws.length := Nat.mod_lt _ (by omega)
    have hx : ws.getD (k % ws.length) 0 < 65536 := by
      rw [List.getD_eq_getElem?_getD, List.getElem?_eq_getElem hk]
      exact hb _ (List.getElem_mem _)
    refine W.skip (Kseq.go (W.seq ?_))
    refine W.region ?_
    refine WL.val (OpVal.opv rfl) rfl rfl rfl ?_
    refine WL.val (OpVal.opv rfl) rfl rfl rfl ?_
    refine WL.val (OpVal.opv rfl) rfl rfl rfl ?_
    refine WL.val (OpVal.len rfl hv) rfl rfl rfl ?_
    refine WL.val (OpVal.cast (OpVal.rem rfl rfl (by omega) (by omega)) (show vi ((k : Int) % (ws.length : Int)) = vi ((k % ws.length : Nat) : Int) from rfl)) rfl rfl rfl ?_
    refine WL.val (OpVal.indexAddrN rfl rfl hv (by omega)) rfl rfl rfl ?_
    refine WL.val (OpVal.loadE rfl hv (by repeat (first | exact .head _ | refine .tail _ ?_)) (by omega) (by omega)) rfl rfl rfl ?_
    refine WL.val (OpVal.conv rfl (i64_in (by omega) (by omega))) rfl rfl rfl ?_
    refine WL.val (OpVal.opv rfl) rfl rfl rfl ?_
    refine WL.nil ?_
    refine Kseq.go ?_
    refine W.ret ?_; skip; refine ⟨.inl rfl, [_], h, ⟨.tmp rfl, trivial⟩, (by repeat (first | exact .head _ | refine .tail _ ?_)), ?_⟩
    unfold wordAt
    rw [if_neg (by omega)]; rfl

/-! ### Rows of women of one's own -/
theorem flatv_append (a b : List Value) : flatv (a ++ b) = flatv a ++ flatv b := List.flatMap_append ..
theorem flatv_len {k : Nat} : ∀ {vs : List Value}, (∀ u ∈ vs, u.cells.size = k) → (flatv vs).length = vs.length * k
  | [], _ => by simp
  | u :: vs, h => by
    have ih := flatv_len (vs := vs) (k := k) (fun x hx => h x (.tail _ hx))
    have := h u (.head _)
    simp only [flatv, List.flatMap_cons, List.length_append, List.length_cons, Array.length_toList] at ih ⊢
    rw [ih, this, Nat.add_mul, Nat.one_mul, Nat.add_comm]
theorem IsWomen.toCells {m : Mem} {v : Value} {ws : List Woman} (h : IsWomen m v ws) : IsCells m 3 v ws.length (flatv (ws.map wv3)) := by
  refine ⟨by rw [flatv_len (k := 3) (by simp [wv3, Value.cells])]; simp, IsArr.congr h fun i j hi hj => ?_⟩
  rw [flat_at (k := 3) (by omega) (by simp [wv3, Value.cells]) (by simpa using hi) hj]
  rw [show (ws.map wv3).getD i undef = wv3 (ws.getD i default) by simp [List.getD_eq_getElem?_getD, List.getElem?_eq_getElem hi]]
  match j, hj with
  | 0, _ => rfl
  | 1, _ => rfl
  | 2, _ => rfl
/-- Other counts of a woman. -/
def withCame (w : Woman) (lo hi : Int) : Woman := ⟨w.mark, lo, hi⟩
theorem women_store {ws : List Woman} {i : Nat} (hi : i < ws.length) (lo hi' : Int) :
    (flatv (ws.map wv3)).take (i * 3 + 1) ++ ((Value.agg #[vi lo, vi hi']).cells.toList ++ (flatv (ws.map wv3)).drop (i * 3 + 1 + 2)) = flatv ((ws.set i (withCame (ws.getD i default) lo hi')).map wv3) := by
  have e : ws = ws.take i ++ ws.getD i default :: ws.drop (i + 1) := by
    rw [List.getD_eq_getElem?_getD, List.getElem?_eq_getElem hi]
    simp
  generalize ha : ws.take i = a at e
  generalize hw : ws.getD i default = w at e
  generalize hb : ws.drop (i + 1) = b at e
  have hla : a.length = i := by rw [← ha, List.length_take]; omega
  have hf : (flatv (a.map wv3)).length = i * 3 := by rw [flatv_len (k := 3) (by simp [wv3, Value.cells]), List.length_map, hla]
  rw [List.set_eq_take_append_cons_drop, if_pos hi, ha, hb]
  rw [e]
  simp only [List.map_append, List.map_cons, flatv_append]
  have e1 : ∀ (x : Woman), flatv (wv3 x :: b.map wv3) = [vi x.mark, vi x.lo, vi x.hi] ++ flatv (b.map wv3) := fun x => rfl
  rw [e1, e1]
  rw [List.take_append, List.take_of_length_le (by omega), hf, show i * 3 + 1 - i * 3 = 1 by omega, List.drop_append, List.drop_of_length_le (by omega), hf, show i * 3 + 1 + 2 - i * 3 = 3 by omega]
  simp [withCame, Value.cells]
/-- some -/
def someW (bits : Nat) (i : Nat) (w : Woman) : Woman := if bits.testBit i then w else withCame w 0 7
def someTo (t : Table) (bits k : Nat) : List Woman := (List.range t.women.length).map fun i => if i < k then someW bits i (t.women.getD i default) else t.women.getD i default
def someT (t : Table) (bits : Nat) : Table := ⟨someTo t bits t.women.length, t.pieces, 0⟩
theorem someTo_zero (t : Table) (bits : Nat) : someTo t bits 0 = t.women := by
  unfold someTo
  simp only [Nat.not_lt_zero, if_false]
  exact map_range_getD _ _
theorem someTo_len (t : Table) (bits k : Nat) : (someTo t bits k).length = t.women.length := by simp [someTo]
theorem someTo_get {t : Table} {bits k i : Nat} (hi : i < t.women.length) : (someTo t bits k).getD i default = if i < k then someW bits i (t.women.getD i default) else t.women.getD i default := by
  simp [someTo, List.getD_eq_getElem?_getD, hi]
theorem someTo_yes {t : Table} {bits k : Nat} (hk : k < t.women.length) (h : bits.testBit k = true) : someTo t bits (k + 1) = someTo t bits k := by
  unfold someTo
  refine List.map_congr_left fun i _ => ?_
  by_cases e : i = k
  · subst e; rw [if_pos (by omega), if_neg (by omega)]; simp [someW, h]
  · by_cases h1 : i < k
    · rw [if_pos (by omega), if_pos h1]
    · rw [if_neg (by omega), if_neg h1]
theorem someTo_no {t : Table} {bits k : Nat} (hk : k < t.women.length) (h : bits.testBit k = false) : someTo t bits (k + 1) = (someTo t bits k).set k (withCame ((someTo t bits k).getD k default) 0 7) := by
  rw [someTo_get hk, if_neg (Nat.lt_irrefl _)]
  apply List.ext_getElem
  · simp [someTo_len]
  intro i h1 h2
  have hi : i < t.women.length := by simpa [someTo_len] using h1
  rw [List.getElem_set]
  have hg : ∀ k' (hh : i < (someTo t bits k').length), (someTo t bits k')[i] = if i < k' then someW bits i (t.women.getD i default) else t.women.getD i default := fun k' hh => by
    have := someTo_get (t := t) (bits := bits) (k := k') hi
    rwa [List.getD_eq_getElem?_getD, List.getElem?_eq_getElem hh] at this
  split
  · rename_i e; subst e
    rw [hg, if_pos (by omega)]; simp [someW, h]
  · rename_i e
    rw [hg, hg]
    by_cases h1 : i < k
    · rw [if_pos (by omega), if_pos h1]
    · rw [if_neg (by omega), if_neg h1]
theorem mod2_bit (x k : Nat) : (x / 2 ^ k) % 2 = 0 ↔ x.testBit k = false := by
  rw [Nat.testBit_eq_decide_div_mod_eq]
  simp only [decide_eq_false_iff_not]; omega
theorem some_any {h : Mem} {v : Value} {t : Table} {bits : Nat} (hv : IsTable h v t) (hs : Sm t) : FnR Try.prog 48 #[v, vi bits] h (fun m r => IsTable m r (someT t bits)) := by
  have hv' := hv
  obtain ⟨wv, pv, f, rfl, hW, hP, hM⟩ := hv
  obtain ⟨hs1, hs2, hs3⟩ := hs
  obtain ⟨wa, wc, rfl⟩ := IsArr.form hW
  obtain ⟨pa, pc, rfl⟩ := IsArr.form hP
  refine FnR.of_W (n := 34) Try.func48 rfl rfl (Nat.le_of_ble_eq_true rfl) fun c hr hD hF => ?_
  refine W.seq ?_
  refine W.region ?_
  refine WL.box rfl rfl rfl rfl (fun b2 => ?_)
  refine WL.alloc rfl rfl rfl (fun b4 => ?_)
  refine WL.nil ?_
  refine Kseq.go (W.seq ?_)
  refine W.freezeBox (.tail _ (.head _)) (fun b hb => (hF b hb).elim) fun m2 h2 => ?_
  skip
  refine W.region ?_
  refine WL.val (OpVal.loadPW rfl (by assumption) (by repeat (first | exact .head _ | refine .tail _ ?_)) (by rfl)) rfl rfl rfl ?_
  refine WL.alloc rfl rfl rfl (fun b5 => ?_)
  refine WL.store [_, _, _] rfl (.head _) rfl rfl rfl (Nat.le_of_ble_eq_true rfl) (by first | (simp [Value.cells, Value.oneCell']; done) | exact IsArr.ones hW (by omega) | exact IsArr.ones hP (by omega)) rfl ?_
  refine WL.nil ?_
  refine Kseq.go (W.seq ?_)
  skip
  refine W.region ?_
  (refine WL.lit (vs := []) [] rfl (Nat.le_of_ble_eq_true rfl) rfl rfl (by simp) (Nat.le_of_ble_eq_true rfl) rfl rfl rfl rfl (fun b8 => ?_))
  refine WL.val (OpVal.fieldAddrB rfl) rfl rfl rfl ?_
  refine WL.val (OpVal.loadP rfl (by assumption) (by repeat (first | exact .head _ | refine .tail _ ?_)) rfl) rfl rfl rfl ?_
  (refine WL.append (e := 69) (k := 3) (bytes := 24) (xs := []) (ys := flatv (t.women.map wv3)) (N := 0) (m2 := t.women.length) (μ' := fun v' => [kr 69 3 v' (t.women.map wv3), .blk b5 _ 25, .blk b4 _ 25]) rfl (fun v' => by simp only [kr, List.length_map, Nat.zero_add, List.nil_append]; exact .head _) rfl hW.toCells (by repeat (first | exact .head _ | refine .tail _ ?_)) rfl (by omega) (by unfold maxLen; omega) (by omega) rfl rfl rfl ?_; intro a11 c11)
  refine WL.val (OpVal.fieldAddrB rfl) rfl rfl rfl ?_
  refine WL.store [_, _, _] rfl (.tail _ (.head _)) rfl rfl rfl (Nat.le_of_ble_eq_true rfl) (by first | (simp [Value.cells, Value.oneCell']; done) | exact IsArr.ones hW (by omega) | exact IsArr.ones hP (by omega)) rfl ?_
  refine WL.val (OpVal.fieldAddrB rfl) rfl rfl rfl ?_
  refine WL.store [_, _, _] rfl (.tail _ (.head _)) rfl rfl rfl (Nat.le_of_ble_eq_true rfl) (by first | (simp [Value.cells, Value.oneCell']; done) | exact IsArr.ones hW (by omega) | exact IsArr.ones hP (by omega)) rfl ?_
  refine WL.nil ?_
  refine Kseq.go (W.seq (W.seq ?_))
  skip
  refine W.region ?_
  refine WL.val (OpVal.opv rfl) rfl rfl rfl ?_
  refine WL.nil ?_
  refine Kseq.go (W.block ?_)
  refine W.loop (σ := Nat) (fun k => [(1, vi bits), (2, .pointer (some ⟨b2, 0, none⟩)), (4, .pointer (some ⟨b4, 0, none⟩)), (5, .pointer (some ⟨b5, 0, none⟩)), (6, .int .i64 (k : Int))]) (fun _ => [m2, h])
    (fun k => [kr 69 3 (.slice a11 t.women.length c11) (someTo t bits k |>.map wv3), .blk b5 [.slice a11 t.women.length c11, .slice pa t.pieces.length pc, vi 0].toArray 25, .blk b4 _ 25]) (fun k => k ≤ t.women.length) (fun k => t.women.length - k) 0 ⟨rfl, rfl, rfl, rfl, rfl, trivial⟩ (by simp) ?_ (Nat.zero_le _) ?_
  · rw [someTo_zero, Nat.zero_add]
    exact (by repeat (first | exact List.Sublist.refl _ | refine List.Sublist.cons _ ?_ | refine List.Sublist.cons_cons _ ?_))
  intro k hk
  have hwl := someTo_len t bits k
  have hN : ((someTo t bits k).map wv3).length = t.women.length := by rw [List.length_map, hwl]
  refine W.seq (W.seq ?_)
  refine W.region ?_
  refine WL.val (OpVal.opv rfl) rfl rfl rfl ?_
  refine WL.val (OpVal.fieldAddrB rfl) rfl rfl rfl ?_
  refine WL.val (OpVal.loadB rfl (.tail _ (.head _)) rfl) rfl rfl rfl ?_
  refine WL.val (OpVal.lenR rfl (by repeat (first | exact .head _ | refine .tail _ ?_))) rfl rfl rfl ?_
  refine WL.val (OpVal.opv rfl) rfl rfl rfl ?_
  refine WL.nil ?_
  refine Kseq.go ?_
  refine W.condD rfl rfl (fun hlt => ?_) (fun hge => ?_)
  · have hkw : k < t.women.length := by omega
    refine W.skip (Kseq.go (W.seq (W.block (W.seq ?_))))
    refine W.region ?_
    refine WL.val (OpVal.opv rfl) rfl rfl rfl ?_
    refine WL.val (OpVal.opv rfl) rfl rfl rfl ?_
    refine WL.val (OpVal.conv rfl (wrap_u64 (by omega) (by omega))) rfl rfl rfl ?_
    refine WL.val (OpVal.shr rfl rfl (by omega)) rfl rfl rfl ?_
    refine WL.val (OpVal.rem rfl rfl (Int.natCast_nonneg _) (by omega)) rfl rfl rfl ?_
    refine WL.val (OpVal.opv rfl) rfl rfl rfl ?_
    refine WL.nil ?_
    refine Kseq.go ?_
    refine W.condD rfl rfl (fun hz => ?_) (fun hz => ?_)
    · have hb0 : bits.testBit k = false := (mod2_bit bits k).1 (by omega)
      have e := women_store (ws := someTo t bits k) (i := k) (by omega) 0 7
      rw [← someTo_no hkw hb0] at e
      skip
      refine W.region ?_
      refine WL.val (OpVal.fieldAddrB rfl) rfl rfl rfl ?_
      refine WL.val (OpVal.loadB rfl (.tail _ (.head _)) rfl) rfl rfl rfl ?_
      refine WL.val (OpVal.opv rfl) rfl rfl rfl ?_
      refine WL.val (OpVal.build2 rfl rfl) rfl rfl rfl ?_
      refine WL.val (OpVal.indexAddrR rfl rfl (.head _) (by omega)) rfl rfl rfl ?_
      refine WL.val (OpVal.fieldAddrR rfl (.head _) (by omega)) rfl rfl rfl ?_
      (refine WL.storeR rfl (.head _) rfl rfl rfl (by omega) (Nat.le_of_ble_eq_true rfl) (by simp [Value.cells, Value.oneCell']) ?_)
      refine WL.nil ?_
      refine Kblock.normal (Kseq.go ?_)
      skip
      refine W.region ?_
      refine WL.val (OpVal.opv rfl) rfl rfl rfl ?_
      refine WL.val (OpVal.incr rfl (by omega)) rfl rfl rfl ?_
      refine WL.val (OpVal.opv rfl) rfl rfl rfl ?_
      refine WL.nil ?_
      skip
      refine Kloop.next (k + 1) (by omega) (by omega) ⟨rfl, rfl, rfl, rfl, rfl, trivial⟩ (by simp) (sub_eq ?_)
      unfold kr
      rw [← e, List.length_map, List.length_map, someTo_len, someTo_len]
      rfl
    · have hb1 : bits.testBit k = true := by
        rw [← Bool.not_eq_false]
        exact fun hc => hz (by have := (mod2_bit bits k).2 hc; omega)
      refine W.skip (Kblock.normal (Kseq.go ?_))
      skip
      refine W.region ?_
      refine WL.val (OpVal.opv rfl) rfl rfl rfl ?_
      refine WL.val (OpVal.incr rfl (by omega)) rfl rfl rfl ?_
      refine WL.val (OpVal.opv rfl) rfl rfl rfl ?_
      refine WL.nil ?_
      skip
      refine Kloop.next (k + 1) (by omega) (by omega) ⟨rfl, rfl, rfl, rfl, rfl, trivial⟩ (by simp) ?_
      rw [someTo_yes hkw hb1]
      exact (by repeat (first | exact List.Sublist.refl _ | refine List.Sublist.cons _ ?_ | refine List.Sublist.cons_cons _ ?_))
  · refine W.exit (Kseq.exit (Kloop.exit (Kblock.here (Kseq.go (W.seq ?_)))))
    have hkk : k = t.women.length := by omega
    subst hkk
    refine W.freezeK (.head _) (fun b hb => (hF b hb).elim) (by omega) (by simp [wv3, Value.cells]) (by simp [wv3, Value.cells, Value.oneCell']) fun m6 hm6 => ?_
    have hm6' := women_of hm6
    clear hm6
    refine W.join fun mj hj => ?_
    skip
    refine W.region ?_
    refine WL.val (OpVal.loadBW rfl (.head _) rfl) rfl rfl rfl ?_
    refine WL.store [_, _, _] rfl (.tail _ (.head _)) rfl rfl rfl (Nat.le_of_ble_eq_true rfl) (by first | (simp [Value.cells, Value.oneCell']; done) | exact IsArr.ones hW (by omega) | exact IsArr.ones hP (by omega)) rfl ?_
    refine WL.nil ?_
    refine Kseq.go ?_
    refine W.ret ?_; skip
    refine ⟨.inl rfl, [_], mj, ⟨.agg inferInstance inferInstance rfl (.tail _ (.head _)) rfl, trivial⟩, .head _, _, _, f, rfl, hm6'.le (hj _ (by simp)), IsPieces.le hP (hj _ (by simp)), IsMarks.le hM (hj _ (by simp))⟩
end Go.Proofs.Ytgolpbkapphciaa
