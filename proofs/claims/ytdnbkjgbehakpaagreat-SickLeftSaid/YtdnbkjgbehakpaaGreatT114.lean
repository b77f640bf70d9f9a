/- The program's functions of chapter 6: right, many, CheckHouse. -/
import Derived.Test.YtdnbkjgbehakpaaGreatT113
namespace Go.Proofs.YtdnbkjgbehakpaaGreat
open Go Go.Eng Go.RowKit

theorem ValidH.signAt {r : House} (hV : ValidH r) {k : Nat} (hk : k < r.signs.length) : ∃ A : Nat, (r.signs.getD k default).thing = A ∧ A < 10 := by
  have h1 := hV.sign k hk
  have h2 := hV.others
  unfold signOk isThing at h1
  have h3 := of_decide_eq_true h1
  exact ⟨(r.signs.getD k default).thing.toNat, by omega, by omega⟩
/-- right -/
theorem right6_any {h : Mem} {v ov : Value} {r : House} {s : Nat} {out : List Int} (hv : IsHouse h v r) (hV : ValidH r) (ho : IsInts h ov out) :
    FnV Tryz.prog 113 #[v, carV s, ov] h (.bool (rightBut6 r.signs s out)) := by
  have h5 := hV.signN
  obtain ⟨wv, pv, kv, tv, bv, sv, f, rfl, hA⟩ := hv
  have hS := hA.S
  refine FnR.val ?_
  refine FnR.of_W (n := 31) Tryz.func113 rfl rfl (Nat.le_of_ble_eq_true rfl) fun c hr hD hF => ?_
  refine W.seq ?_
  refine W.region ?_
  refine WL.box rfl rfl rfl rfl (fun b3 => ?_)
  refine WL.box rfl rfl rfl rfl (fun b4 => ?_)
  refine WL.val (OpVal.opv rfl) rfl rfl rfl ?_
  refine WL.nil ?_
  refine Kseq.go (W.seq (W.seq ?_))
  skip
  refine W.region ?_
  refine WL.val (OpVal.fieldAddrB rfl) rfl rfl rfl ?_
  refine WL.val (OpVal.loadB rfl (.tail _ (.head _)) rfl) rfl rfl rfl ?_
  refine WL.val (OpVal.len rfl hS) rfl rfl rfl ?_
  refine WL.val (OpVal.opv rfl) rfl rfl rfl ?_
  refine WL.nil ?_
  refine Kseq.go (W.block ?_)
  refine W.loop (σ := Nat) (fun k => [(2, ov), (4, .pointer (some ⟨b4, 0, none⟩)), (10, sv), (11, .int .i64 (r.signs.length : Int)), (12, .int .i64 (k : Int))]) (fun _ => [h])
    (fun _ => [.blk b4 (carC s) 168]) (fun k => k ≤ r.signs.length ∧ ∀ i, i < k → (!decide ((i : Int) ∈ out) && !signS r.signs s i) = false) (fun k => r.signs.length - k) 0 ⟨rfl, rfl, rfl, rfl, rfl, trivial⟩ (by simp) (.cons_cons _ (List.nil_sublist _)) ⟨Nat.zero_le _, fun i hi => absurd hi (Nat.not_lt_zero _)⟩ ?_
  rintro k ⟨hk, hall⟩
  refine W.seq ?_
  refine W.region ?_
  refine WL.val (OpVal.opv rfl) rfl rfl rfl ?_
  refine WL.nil ?_
  refine Kseq.go (W.seq ?_)
  refine W.condD rfl rfl (fun hlt => ?_) (fun hge => ?_)
  · have hkl : k < r.signs.length := by omega
    obtain ⟨A, eA, hA10⟩ := hV.signAt hkl
    have hsg : signS r.signs s k = decide (s.testBit A = (r.signs.getD k default).carries) := by unfold signS; rw [eA]; rfl
    refine W.skip (Kseq.go (W.seq (W.block (W.seq ?_))))
    refine W.region ?_
    refine WL.val (OpVal.opv rfl) rfl rfl rfl ?_
    refine WL.val (OpVal.indexAddrN rfl rfl hS hkl) rfl rfl rfl ?_
    refine WL.val (OpVal.cast (OpVal.loadEA rfl hS (by repeat (first | exact .head _ | refine .tail _ ?_)) hkl) (show _ = Value.agg #[vi (A : Int), .bool (r.signs.getD k default).carries] from by rw [← eA]; rfl)) rfl rfl rfl ?_
    refine WL.alloc rfl rfl rfl (fun b8 => ?_)
    refine WL.val (OpVal.opv rfl) rfl rfl rfl ?_
    refine WL.store [_, _] rfl (.head _) rfl rfl rfl (Nat.le_of_ble_eq_true rfl) (by first | (simp [Value.cells, Value.oneCell']; done) | exact IsArr.ones hW (by omega) | exact IsArr.ones hP (by omega) | exact IsArr.ones hS (by omega) | exact IsArr.ones hH (by omega) | exact IsArr.ones hL (by omega) | exact IsArr.ones hB (by omega) | exact IsArr.ones hT (by omega) | exact IsArr.ones hm (by omega)) rfl ?_
    refine WL.nil ?_
    refine Kseq.go (W.seq ?_)
    skip
    refine W.toS [(2, ov), (4, .pointer (some ⟨b4, 0, none⟩)), (10, sv), (11, .int .i64 (r.signs.length : Int)), (12, .int .i64 (k : Int)), (29, .bool (!decide ((k : Int) ∈ out) && !signS r.signs s k))] ?_ ?_
    · generalize hgb : s.testBit A = tb at hsg
      have hcg := (carC_get (s := s) hA10).trans (congrArg (fun b => some (Value.bool b)) hgb)
      skip
      refine W.draw 11 (by kernel_rfl) (by kernel_rfl) (by kernel_rfl) rfl ?_
      refine DJ.val [] (OpVal.opv rfl) rfl rfl rfl rfl ?_
      refine DJ.val [] (OpVal.opv rfl) rfl rfl rfl rfl ?_
      refine DJ.val [] (OpVal.call rfl (fun m hm => contains_any _ (ho.le (by repeat (first | exact hm.1 | replace hm := hm.2))))) rfl rfl rfl rfl ?_
      refine DJ.val [] (OpVal.opv rfl) rfl rfl rfl rfl ?_
      refine DJ.val [] (OpVal.opv rfl) rfl rfl rfl rfl ?_
      refine DJ.splitN rfl rfl (fun g21 => ?_) (fun g21 => ?_)
      · refine DJ.val [] (OpVal.fieldAddrB rfl) rfl rfl rfl rfl ?_
        refine DJ.val [] (OpVal.loadB rfl (.head _) rfl) rfl rfl rfl rfl ?_
        refine DJ.val [] (OpVal.indexAddrB rfl rfl (by omega)) rfl rfl rfl rfl ?_
        refine DJ.val [] (OpVal.loadB rfl (.tail _ (.head _)) hcg) rfl rfl rfl rfl ?_
        refine DJ.val [] (OpVal.fieldAddrB rfl) rfl rfl rfl rfl ?_
        refine DJ.val [] (OpVal.loadB rfl (.head _) rfl) rfl rfl rfl rfl ?_
        refine DJ.nil ?_
        refine WL.val (OpVal.neqB6 rfl rfl) rfl rfl rfl ?_
        refine WL.val (OpVal.opv rfl) rfl rfl rfl ?_
        refine WL.nil ?_
        skip
        exact Keff.intro ⟨rfl, rfl, rfl, rfl, rfl, congrArg (fun b => some (Value.bool b)) (by rw [hsg]; exact (by first | (simp [true_and, -List.getD_eq_getElem?_getD]; done) | (simp_all [-List.getD_eq_getElem?_getD]; done) | (simp [true_and, -List.getD_eq_getElem?_getD]; omega) | (rw [Bool.eq_iff_iff]; simp [true_and, -List.getD_eq_getElem?_getD]; omega) | (simp [true_and, -List.getD_eq_getElem?_getD] at *; omega))), trivial⟩ (by simp) (by repeat (first | exact List.Sublist.refl _ | refine List.Sublist.cons _ ?_ | refine List.Sublist.cons_cons _ ?_))
      · refine DJ.pass rfl rfl rfl rfl ?_
        refine DJ.pass rfl rfl rfl rfl ?_
        refine DJ.pass rfl rfl rfl rfl ?_
        refine DJ.pass rfl rfl rfl rfl ?_
        refine DJ.pass rfl rfl rfl rfl ?_
        refine DJ.pass rfl rfl rfl rfl ?_
        refine DJ.nil ?_
        refine WL.pass rfl rfl rfl ?_
        refine WL.val (OpVal.opv rfl) rfl rfl rfl ?_
        refine WL.nil ?_
        skip
        exact Keff.intro ⟨rfl, rfl, rfl, rfl, rfl, congrArg (fun b => some (Value.bool b)) (by rw [hsg]; exact (by first | (simp [true_and, -List.getD_eq_getElem?_getD]; done) | (simp_all [-List.getD_eq_getElem?_getD]; done) | (simp [true_and, -List.getD_eq_getElem?_getD]; omega) | (rw [Bool.eq_iff_iff]; simp [true_and, -List.getD_eq_getElem?_getD]; omega) | (simp [true_and, -List.getD_eq_getElem?_getD] at *; omega))), trivial⟩ (by simp) (by repeat (first | exact List.Sublist.refl _ | refine List.Sublist.cons _ ?_ | refine List.Sublist.cons_cons _ ?_))
    refine Kseq.go ?_
    refine W.cond rfl rfl (fun hb => ?_) (fun hb => ?_)
    · refine W.seq ?_
      refine W.region ?_
      refine WL.val (OpVal.opv rfl) rfl rfl rfl ?_
      refine WL.nil ?_
      refine Kseq.go ?_
      refine W.ret ?_; refine Kblock.ret (Kseq.ret (Kloop.ret (Kblock.ret (Kseq.ret ?_)))); refine ⟨.inl rfl, [_], h, ⟨.tmp rfl, trivial⟩, (by repeat (first | exact .head _ | refine .tail _ ?_)), ?_⟩
      refine congrArg Value.bool ?_
      unfold rightBut6
      rw [ex_iff.2 ⟨k, hkl, hb⟩]; rfl
    · refine W.skip (Kblock.normal (Kseq.go ?_))
      skip
      refine W.region ?_
      refine WL.val (OpVal.incr rfl (by omega)) rfl rfl rfl ?_
      refine WL.val (OpVal.opv rfl) rfl rfl rfl ?_
      refine WL.nil ?_
      skip
      refine Kloop.next (k + 1) ⟨hkl, fun i hi => ?_⟩ (by omega) ⟨rfl, rfl, rfl, rfl, rfl, trivial⟩ (by simp) (by repeat (first | exact List.Sublist.refl _ | refine List.Sublist.cons _ ?_ | refine List.Sublist.cons_cons _ ?_))
      rcases Nat.lt_succ_iff_lt_or_eq.1 hi with h2 | rfl
      · exact hall i h2
      · exact hb
  · have : k = r.signs.length := by omega
    subst this
    refine W.exit (Kseq.exit (Kloop.exit (Kblock.here (Kseq.go (W.seq ?_)))))
    skip
    refine W.region ?_
    refine WL.val (OpVal.opv rfl) rfl rfl rfl ?_
    refine WL.nil ?_
    refine Kseq.go ?_
    refine W.ret ?_; skip; refine ⟨.inl rfl, [_], h, ⟨.tmp rfl, trivial⟩, (by repeat (first | exact .head _ | refine .tail _ ?_)), ?_⟩
    refine congrArg Value.bool ?_
    unfold rightBut6
    rw [ex_no.2 hall]; rfl

/-! ### How many courses there are -/
/-- The number that the program counts. -/
def manyQ (r : House) (k : Nat) : Int := min 2001 (many r.table * timesTo r k)
theorem manyP_zero (t : Table) : manyP t 0 = 1 := by simp [manyP, manyTo]; decide
theorem manyQ_zero (r : House) : manyQ r 0 = manyP r.table r.np := by simp [manyQ, timesTo, manyP, many, House.np]
theorem manyQ_succ {r : House} {k : Nat} (h0 : 1 ≤ (r.touches.getD k default).hi - (r.touches.getD k default).lo + 1) (ht : 1 ≤ timesTo r k) : manyQ r (k + 1) = min (manyQ r k * ((r.touches.getD k default).hi - (r.touches.getD k default).lo + 1)) 2001 := by
  unfold manyQ
  rw [timesTo_succ]
  generalize (r.touches.getD k default).hi - (r.touches.getD k default).lo + 1 = s at *
  have hM := manyTo_pos r.table r.table.pieces.length
  have hM' : 0 ≤ many r.table := hM.1
  generalize many r.table = M at *
  generalize timesTo r k = T at *
  have hTs : T * s ≥ 1 * 1 := Int.mul_le_mul ht h0 (by omega) (by omega)
  rcases Int.lt_or_le 0 M with h1 | h1
  · have e1 : min 2001 (M * min 3000 (T * s)) = min 2001 (M * (T * s)) := by
      rcases Int.le_total (T * s) 3000 with h2 | h2
      · rw [Int.min_eq_right h2]
      · rw [Int.min_eq_left h2]
        have h3 : 1 * 3000 ≤ M * 3000 := Int.mul_le_mul_of_nonneg_right (by omega) (by omega)
        have h4 : M * 3000 ≤ M * (T * s) := Int.mul_le_mul_of_nonneg_left h2 (by omega)
        omega
    rw [e1]
    rcases Int.le_total (M * T) 2001 with h2 | h2
    · rw [Int.min_eq_right h2, Int.mul_assoc, Int.min_comm]
    · rw [Int.min_eq_left h2]
      have h3 : 2001 * 1 ≤ 2001 * s := Int.mul_le_mul_of_nonneg_left h0 (by omega)
      have h4 : M * T * 1 ≤ M * T * s := Int.mul_le_mul_of_nonneg_left h0 (by omega)
      rw [← Int.mul_assoc]
      omega
  · have : M = 0 := by omega
    subst this
    rw [Int.zero_mul, Int.zero_mul, show min (2001 : Int) 0 = 0 from by decide, Int.zero_mul]; decide
theorem timesTo_pos {r : House} (hz : ∀ i, i < r.tn → (r.touches.getD i default).lo ≤ (r.touches.getD i default).hi) : ∀ k, k ≤ r.tn → 1 ≤ timesTo r k ∧ timesTo r k ≤ 3000
  | 0, _ => by simp [timesTo]
  | k + 1, hk => by
    have ih := timesTo_pos hz k (by omega)
    have h1 := hz k (by omega)
    rw [timesTo_succ]
    have : 1 * 1 ≤ timesTo r k * ((r.touches.getD k default).hi - (r.touches.getD k default).lo + 1) := Int.mul_le_mul ih.1 (by omega) (by omega) (by omega)
    omega
/-- Whose mark is on a piece? -/
abbrev womP (r : House) (k : Nat) (j : Nat) : Bool := decide ((r.table.women.getD j default).mark ∈ (r.table.pieces.getD k default).marks)
theorem womenOf_len (r : House) (k : Nat) : womenOf r.table k = sel r.table.women.length (womP r k) := rfl
/-- many -/
theorem many6_any {h : Mem} {v : Value} {r : House} (hv : IsHouse h v r) (hs : SmH r) (hz : ∀ i, i < r.tn → 0 ≤ (r.touches.getD i default).lo ∧ (r.touches.getD i default).lo ≤ (r.touches.getD i default).hi ∧ (r.touches.getD i default).hi ≤ 5) :
    FnV Tryz.prog 120 #[v] h (vi (manyQ r r.tn)) := by
  have hst := hs.table
  have hs1 := hst.1
  have hs2 := hst.2.1
  have htn : r.tn ≤ 20 := hs.touches
  obtain ⟨wv, pv, kv, tv, bv, sv, f, rfl, hA⟩ := hv
  have hW := hA.W
  have hP := hA.P
  have hM := hA.M
  have hT := hA.T
  refine FnR.val ?_
  refine FnR.of_W (n := 62) Tryz.func120 rfl rfl (Nat.le_of_ble_eq_true rfl) fun c hr hD hF => ?_
  refine W.seq ?_
  refine W.region ?_
  refine WL.box rfl rfl rfl rfl (fun b1 => ?_)
  refine WL.val (OpVal.opv rfl) rfl rfl rfl ?_
  refine WL.nil ?_
  refine Kseq.go (W.seq ?_)
  skip
  refine W.region ?_
  refine WL.val (OpVal.opv rfl) rfl rfl rfl ?_
  refine WL.nil ?_
  refine Kseq.go (W.seq (W.seq ?_))
  skip
  refine W.region ?_
  refine WL.val (OpVal.fieldAddrB rfl) rfl rfl rfl ?_
  refine WL.val (OpVal.fieldAddrB rfl) rfl rfl rfl ?_
  refine WL.val (OpVal.loadB rfl (.head _) rfl) rfl rfl rfl ?_
  refine WL.val (OpVal.len rfl hP) rfl rfl rfl ?_
  refine WL.val (OpVal.opv rfl) rfl rfl rfl ?_
  refine WL.nil ?_
  refine Kseq.go (W.block ?_)
  refine W.loop (σ := Nat) (fun k => [(1, .pointer (some ⟨b1, 0, none⟩)), (3, .int .i64 (manyP r.table k)), (13, pv), (14, .int .i64 (r.np : Int)), (15, .int .i64 (k : Int))]) (fun _ => [h])
    (fun _ => [.blk b1 (hcs wv pv kv tv bv sv r) 46]) (fun k => k ≤ r.np) (fun k => r.np - k) 0 ⟨rfl, congrArg (fun x : Int => some (Value.int .i64 x)) (manyP_zero r.table).symm, rfl, rfl, rfl, trivial⟩ (by simp) (by repeat (first | exact List.Sublist.refl _ | refine List.Sublist.cons _ ?_ | refine List.Sublist.cons_cons _ ?_)) (Nat.zero_le _) ?_
  rintro k hk
  try dsimp only at hk ⊢
  refine W.seq ?_
  refine W.region ?_
  refine WL.val (OpVal.opv rfl) rfl rfl rfl ?_
  refine WL.nil ?_
  refine Kseq.go (W.seq ?_)
  refine W.condD rfl rfl (fun hlt => ?_) (fun hge => ?_)
  · have hkl : k < r.table.pieces.length := by unfold House.np at *; omega
    have hMk := hM k hkl
    refine W.skip (Kseq.go (W.seq (W.block (W.seq ?_))))
    refine W.region ?_
    refine WL.val (OpVal.indexAddrN rfl rfl hP hkl) rfl rfl rfl ?_
    refine WL.val (OpVal.cast (OpVal.loadEA rfl hP (by repeat (first | exact .head _ | refine .tail _ ?_)) hkl) (show _ = Value.agg #[f k, vi (r.table.pieces.getD k default).bundle] from rfl)) rfl rfl rfl ?_
    refine WL.alloc rfl rfl rfl (fun b5 => ?_)
    (refine WL.store [_, _] rfl (.head _) rfl rfl rfl (Nat.le_of_ble_eq_true rfl) (by simp [Value.cells]; exact ⟨hMk.one, rfl⟩) rfl ?_)
    refine WL.nil ?_
    refine Kseq.go (W.seq ?_)
    skip
    refine W.region ?_
    refine WL.val (OpVal.opv rfl) rfl rfl rfl ?_
    refine WL.nil ?_
    refine Kseq.go (W.seq (W.seq ?_))
    skip
    refine W.region ?_
    refine WL.val (OpVal.fieldAddrB rfl) rfl rfl rfl ?_
    refine WL.val (OpVal.fieldAddrB rfl) rfl rfl rfl ?_
    refine WL.val (OpVal.loadB rfl (.tail _ (.head _)) rfl) rfl rfl rfl ?_
    refine WL.val (OpVal.len rfl hW) rfl rfl rfl ?_
    refine WL.val (OpVal.opv rfl) rfl rfl rfl ?_
    refine WL.nil ?_
    refine Kseq.go (W.block ?_)
    refine W.loop (σ := Nat) (fun j => [(1, .pointer (some ⟨b1, 0, none⟩)), (3, .int .i64 (manyP r.table k)), (5, .pointer (some ⟨b5, 0, none⟩)), (6, .int .i64 ((sel j (womP r k)).length : Int)), (13, pv), (14, .int .i64 (r.np : Int)), (15, .int .i64 (k : Int)), (21, wv), (22, .int .i64 (r.table.women.length : Int)), (23, .int .i64 (j : Int))]) (fun _ => [h])
      (fun _ => [.blk b5 #[f k, vi (r.table.pieces.getD k default).bundle] 126, .blk b1 (hcs wv pv kv tv bv sv r) 46]) (fun j => j ≤ r.table.women.length) (fun j => r.table.women.length - j) 0 ⟨rfl, rfl, rfl, rfl, rfl, rfl, rfl, rfl, rfl, rfl, trivial⟩ (by simp) (by repeat (first | exact List.Sublist.refl _ | refine List.Sublist.cons _ ?_ | refine List.Sublist.cons_cons _ ?_)) (Nat.zero_le _) ?_
    rintro j hj
    try dsimp only at hj ⊢
    have hsl := sel_len j (womP r k)
    refine W.seq ?_
    refine W.region ?_
    refine WL.val (OpVal.opv rfl) rfl rfl rfl ?_
    refine WL.nil ?_
    refine Kseq.go (W.seq ?_)
    refine W.condD rfl rfl (fun hlt2 => ?_) (fun hge2 => ?_)
    · have hjl : j < r.table.women.length := by omega
      refine W.skip (Kseq.go (W.seq (W.block (W.seq ?_))))
      refine W.region ?_
      refine WL.val (OpVal.indexAddrN rfl rfl hW hjl) rfl rfl rfl ?_
      refine WL.val (OpVal.cast (OpVal.loadEA rfl hW (by repeat (first | exact .head _ | refine .tail _ ?_)) hjl) (show _ = wv3 (r.table.women.getD j default) from rfl)) rfl rfl rfl ?_
      refine WL.alloc rfl rfl rfl (fun b8 => ?_)
      refine WL.store [_, _, _] rfl (.head _) rfl rfl rfl (Nat.le_of_ble_eq_true rfl) (by first | (simp [Value.cells, Value.oneCell']; done) | exact IsArr.ones hW (by omega) | exact IsArr.ones hP (by omega) | exact IsArr.ones hS (by omega) | exact IsArr.ones hH (by omega) | exact IsArr.ones hL (by omega) | exact IsArr.ones hB (by omega) | exact IsArr.ones hT (by omega) | exact IsArr.ones hm (by omega)) rfl ?_
      refine WL.nil ?_
      refine Kseq.go (W.seq ?_)
      skip
      refine W.region ?_
      refine WL.val (OpVal.fieldAddrB rfl) rfl rfl rfl ?_
      refine WL.val (OpVal.loadB rfl (.tail _ (.head _)) rfl) rfl rfl rfl ?_
      refine WL.val (OpVal.fieldAddrB rfl) rfl rfl rfl ?_
      refine WL.val (OpVal.loadB rfl (.head _) rfl) rfl rfl rfl ?_
      refine WL.val (OpVal.call rfl (fun m hm => contains_any _ (hMk.le (by repeat (first | exact hm.1 | replace hm := hm.2))))) rfl rfl rfl ?_
      refine WL.nil ?_
      refine Kseq.go ?_
      refine W.cond rfl rfl (fun hb => ?_) (fun hb => ?_)
      · have e : sel (j + 1) (womP r k) = sel j (womP r k) ++ [(j : Int)] := sel_yes hb
        skip
        refine W.region ?_
        refine WL.val (OpVal.opv rfl) rfl rfl rfl ?_
        refine WL.val (OpVal.incr rfl (by omega)) rfl rfl rfl ?_
        refine WL.val (OpVal.opv rfl) rfl rfl rfl ?_
        refine WL.nil ?_
        refine Kblock.normal (Kseq.go ?_)
        skip
        refine W.region ?_
        refine WL.val (OpVal.incr rfl (by omega)) rfl rfl rfl ?_
        refine WL.val (OpVal.opv rfl) rfl rfl rfl ?_
        refine WL.nil ?_
        skip
        exact Kloop.next (j + 1) (by omega) (by omega) ⟨rfl, rfl, rfl, congrArg (fun x : Int => some (Value.int .i64 x)) (by rw [e, List.length_append]; rfl), rfl, rfl, rfl, rfl, rfl, rfl, trivial⟩ (by simp) (by repeat (first | exact List.Sublist.refl _ | refine List.Sublist.cons _ ?_ | refine List.Sublist.cons_cons _ ?_))
      · have e : sel (j + 1) (womP r k) = sel j (womP r k) := sel_no hb
        refine W.skip (Kblock.normal (Kseq.go ?_))
        skip
        refine W.region ?_
        refine WL.val (OpVal.incr rfl (by omega)) rfl rfl rfl ?_
        refine WL.val (OpVal.opv rfl) rfl rfl rfl ?_
        refine WL.nil ?_
        skip
        exact Kloop.next (j + 1) (by omega) (by omega) ⟨rfl, rfl, rfl, congrArg (fun x : List Int => some (Value.int .i64 (x.length : Int))) e.symm, rfl, rfl, rfl, rfl, rfl, rfl, trivial⟩ (by simp) (by repeat (first | exact List.Sublist.refl _ | refine List.Sublist.cons _ ?_ | refine List.Sublist.cons_cons _ ?_))
    refine W.exit (Kseq.exit (Kloop.exit (Kblock.here (Kseq.go ?_))))
    have hjj : j = r.table.women.length := by omega
    subst hjj
    have hmp := manyTo_pos r.table k
    have hmp2 : 0 ≤ manyP r.table k ∧ manyP r.table k ≤ 2001 := by unfold manyP; omega
    have hmul : manyP r.table k * ((sel r.table.women.length (womP r k)).length : Int) ≤ 2001 * 50 := Int.mul_le_mul hmp2.2 (by omega) (by omega) (by omega)
    have hmul0 : 0 ≤ manyP r.table k * ((sel r.table.women.length (womP r k)).length : Int) := Int.mul_nonneg hmp2.1 (by omega)
    skip
    refine W.region ?_
    refine WL.val (OpVal.opv rfl) rfl rfl rfl ?_
    refine WL.val (OpVal.opv rfl) rfl rfl rfl ?_
    refine WL.val (OpVal.mul rfl rfl (by omega) (by omega)) rfl rfl rfl ?_
    refine WL.abs (OpAbs.lit [_, _] rfl (Nat.le_of_ble_eq_true rfl) rfl rfl (by simp [Value.cells]) (Nat.le_of_ble_eq_true rfl) rfl (by first | (simp [Value.oneCell']; done) | exact List.all_eq_true.1 rfl)) rfl rfl rfl ?_
    rintro m38 _ ⟨hc38, a38, rfl⟩
    refine WL.val (OpVal.call rfl (fun m hm => minimum6_any ((ints_lit (xs := [_, 2001]) hc38).le (by repeat (first | exact hm.1 | replace hm := hm.2))))) rfl rfl rfl ?_
    refine WL.val (OpVal.opv rfl) rfl rfl rfl ?_
    refine WL.nil ?_
    refine Kblock.normal (Kseq.go ?_)
    skip
    refine W.region ?_
    refine WL.val (OpVal.incr rfl (by omega)) rfl rfl rfl ?_
    refine WL.val (OpVal.opv rfl) rfl rfl rfl ?_
    refine WL.nil ?_
    skip
    exact Kloop.next (k + 1) (by omega) (by omega) ⟨rfl, congrArg (fun x : Int => some (Value.int .i64 x)) (by rw [manyP_succ, womenOf_len]), rfl, rfl, rfl, trivial⟩ (by simp) (by repeat (first | exact List.Sublist.refl _ | refine List.Sublist.cons _ ?_ | refine List.Sublist.cons_cons _ ?_))
  refine W.exit (Kseq.exit (Kloop.exit (Kblock.here (Kseq.go (W.seq (W.seq ?_))))))
  have hkk : k = r.np := by omega
  subst hkk
  skip
  refine W.region ?_
  refine WL.val (OpVal.fieldAddrB rfl) rfl rfl rfl ?_
  refine WL.val (OpVal.loadB rfl (.head _) rfl) rfl rfl rfl ?_
  refine WL.val (OpVal.len rfl hT) rfl rfl rfl ?_
  refine WL.val (OpVal.opv rfl) rfl rfl rfl ?_
  refine WL.nil ?_
  refine Kseq.go (W.block ?_)
  refine W.loop (σ := Nat) (fun k => [(3, .int .i64 (manyQ r k)), (42, tv), (43, .int .i64 (r.tn : Int)), (44, .int .i64 (k : Int))]) (fun _ => [h])
    (fun _ => []) (fun k => k ≤ r.tn) (fun k => r.tn - k) 0 ⟨congrArg (fun x : Int => some (Value.int .i64 x)) (manyQ_zero r).symm, rfl, rfl, rfl, trivial⟩ (by simp) (by repeat (first | exact List.Sublist.refl _ | refine List.Sublist.cons _ ?_ | refine List.Sublist.cons_cons _ ?_)) (Nat.zero_le _) ?_
  rintro k hk
  try dsimp only at hk ⊢
  have hq : 0 ≤ manyQ r k ∧ manyQ r k ≤ 2001 := by
    have h1 := (timesTo_pos (fun i hi => (hz i hi).2.1) k hk).1
    have h2 := (manyTo_pos r.table r.table.pieces.length).1
    have h3 : 0 ≤ many r.table * timesTo r k := Int.mul_nonneg h2 (by omega)
    unfold manyQ; omega
  refine W.seq ?_
  refine W.region ?_
  refine WL.val (OpVal.opv rfl) rfl rfl rfl ?_
  refine WL.nil ?_
  refine Kseq.go (W.seq ?_)
  refine W.condD rfl rfl (fun hlt => ?_) (fun hge => ?_)
  · have hkl : k < r.tn := by omega
    have hkl' : k < r.touches.length := hkl
    have hzk := hz k hkl
    refine W.skip (Kseq.go (W.seq (W.block (W.seq ?_))))
    refine W.region ?_
    refine WL.val (OpVal.indexAddrN rfl rfl hT hkl') rfl rfl rfl ?_
    refine WL.val (OpVal.cast (OpVal.loadEA rfl hT (by repeat (first | exact .head _ | refine .tail _ ?_)) hkl') (show _ = tv4 (r.touches.getD k default) from rfl)) rfl rfl rfl ?_
    refine WL.alloc rfl rfl rfl (fun b10 => ?_)
    refine WL.store [_, _, _, _] rfl (.head _) rfl rfl rfl (Nat.le_of_ble_eq_true rfl) (by first | (simp [Value.cells, Value.oneCell']; done) | exact IsArr.ones hW (by omega) | exact IsArr.ones hP (by omega) | exact IsArr.ones hS (by omega) | exact IsArr.ones hH (by omega) | exact IsArr.ones hL (by omega) | exact IsArr.ones hB (by omega) | exact IsArr.ones hT (by omega) | exact IsArr.ones hm (by omega)) rfl ?_
    refine WL.nil ?_
    refine Kseq.go ?_
    have hmul : manyQ r k * ((r.touches.getD k default).hi - (r.touches.getD k default).lo + 1) ≤ 2001 * 6 := Int.mul_le_mul hq.2 (by omega) (by omega) (by omega)
    have hmul0 : 0 ≤ manyQ r k * ((r.touches.getD k default).hi - (r.touches.getD k default).lo + 1) := Int.mul_nonneg hq.1 (by omega)
    skip
    refine W.region ?_
    refine WL.val (OpVal.opv rfl) rfl rfl rfl ?_
    refine WL.val (OpVal.fieldAddrB rfl) rfl rfl rfl ?_
    refine WL.val (OpVal.fieldAddrB rfl) rfl rfl rfl ?_
    refine WL.val (OpVal.loadB rfl (.head _) rfl) rfl rfl rfl ?_
    refine WL.val (OpVal.fieldAddrB rfl) rfl rfl rfl ?_
    refine WL.val (OpVal.fieldAddrB rfl) rfl rfl rfl ?_
    refine WL.val (OpVal.loadB rfl (.head _) rfl) rfl rfl rfl ?_
    refine WL.val (OpVal.sub rfl rfl (by omega) (by omega)) rfl rfl rfl ?_
    refine WL.val (OpVal.add rfl rfl (by omega) (by omega)) rfl rfl rfl ?_
    refine WL.val (OpVal.mul rfl rfl (by omega) (by omega)) rfl rfl rfl ?_
    refine WL.abs (OpAbs.lit [_, _] rfl (Nat.le_of_ble_eq_true rfl) rfl rfl (by simp [Value.cells]) (Nat.le_of_ble_eq_true rfl) rfl (by first | (simp [Value.oneCell']; done) | exact List.all_eq_true.1 rfl)) rfl rfl rfl ?_
    rintro m58 _ ⟨hc58, a58, rfl⟩
    refine WL.val (OpVal.call rfl (fun m hm => minimum6_any ((ints_lit (xs := [_, 2001]) hc58).le (by repeat (first | exact hm.1 | replace hm := hm.2))))) rfl rfl rfl ?_
    refine WL.val (OpVal.opv rfl) rfl rfl rfl ?_
    refine WL.nil ?_
    refine Kblock.normal (Kseq.go ?_)
    skip
    refine W.region ?_
    refine WL.val (OpVal.incr rfl (by omega)) rfl rfl rfl ?_
    refine WL.val (OpVal.opv rfl) rfl rfl rfl ?_
    refine WL.nil ?_
    skip
    exact Kloop.next (k + 1) (by omega) (by omega) ⟨congrArg (fun x : Int => some (Value.int .i64 x)) (manyQ_succ (by omega) (timesTo_pos (fun i hi => (hz i hi).2.1) k hk).1).symm, rfl, rfl, rfl, trivial⟩ (by simp) (by repeat (first | exact List.Sublist.refl _ | refine List.Sublist.cons _ ?_ | refine List.Sublist.cons_cons _ ?_))
  refine W.exit (Kseq.exit (Kloop.exit (Kblock.here (Kseq.go (W.seq ?_)))))
  have hkk : k = r.tn := by omega
  subst hkk
  skip
  refine W.region ?_
  refine WL.val (OpVal.opv rfl) rfl rfl rfl ?_
  refine WL.val (OpVal.opv rfl) rfl rfl rfl ?_
  refine WL.nil ?_
  refine Kseq.go ?_
  refine W.ret ?_; skip; refine ⟨.inl rfl, [_], h, ⟨.tmp rfl, trivial⟩, (by repeat (first | exact .head _ | refine .tail _ ?_)), ?_⟩
  rfl
end Go.Proofs.YtdnbkjgbehakpaaGreat
