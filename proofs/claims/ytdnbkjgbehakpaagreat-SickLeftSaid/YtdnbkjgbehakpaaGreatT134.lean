/- The statements' functions of chapter 6: some; SickFirst. -/
import Derived.Test.YtdnbkjgbehakpaaGreatP35
import Derived.Test.YtdnbkjgbehakpaaGreatT133
namespace Go.Proofs.YtdnbkjgbehakpaaGreat
open Go Go.Eng Go.RowKit

section
variable {P : Program} {n : Nat} {c : Cx P n} {l : List (Nat × Value)} {Ms : List Mem} {μ : List Res} {dst : Option Tmp} {x y : Operand} {t t' ty : TypeId} {pos : String} {af : Array Edge} {gd : Option (Nat × Bool)}
theorem OpVal.eqT6 {a : Int} (hx : lk l x = some (.int .i64 a)) (hy : lk l y = some (.int .i64 a)) : OpVal c ⟨dst, .binOp .eql t x y t', ty, pos, af, gd⟩ l Ms μ (.bool true) :=
  (OpVal.opv (v := .bool (decide (a = a))) (by simp [opv, hx, hy])).cast (congrArg Value.bool (decide_eq_true rfl))
theorem OpVal.neqF6 {a : Int} (hx : lk l x = some (.int .i64 a)) (hy : lk l y = some (.int .i64 a)) : OpVal c ⟨dst, .binOp .neq t x y t', ty, pos, af, gd⟩ l Ms μ (.bool false) :=
  (OpVal.opv (v := .bool (!decide (a = a))) (by simp [opv, hx, hy])).cast (congrArg (fun b => Value.bool (!b)) (decide_eq_true rfl))
theorem OpVal.eqF6 {a b : Int} (hx : lk l x = some (.int .i64 a)) (hy : lk l y = some (.int .i64 b)) (h : a ≠ b) : OpVal c ⟨dst, .binOp .eql t x y t', ty, pos, af, gd⟩ l Ms μ (.bool false) :=
  (OpVal.opv (v := .bool (decide (a = b))) (by simp [opv, hx, hy])).cast (congrArg Value.bool (decide_eq_false h))
end
theorem mod2_bit6 (x k : Nat) : (x / 2 ^ k) % 2 = 1 ↔ x.testBit k = true := by
  rw [Nat.testBit_eq_decide_div_mod_eq]
  simp only [decide_eq_true_eq]
/-- some -/
theorem some6_any {h : Mem} {v : Value} {r : House} {w : Nat} (hv : IsHouse h v r) (hs : SmH r) : FnR Tryz.prog 48 #[v, vi w] h (fun m q => IsHouse m q (withSigns r (someL r.signs w))) := by
  obtain ⟨wv, pv, kv, tv, bv, sv, f, rfl, hA⟩ := hv
  have hS := hA.S
  have hl := hs.signs
  refine FnR.of_W (n := 33) Tryz.func48 rfl rfl (Nat.le_of_ble_eq_true rfl) fun c hr hD hF => ?_
  refine W.seq ?_
  refine W.region ?_
  refine WL.box rfl rfl rfl rfl (fun b2 => ?_)
  refine WL.alloc rfl rfl rfl (fun b4 => ?_)
  refine WL.nil ?_
  refine Kseq.go (W.seq ?_)
  skip
  refine W.region ?_
  refine WL.val (OpVal.loadBW rfl (.tail _ (.head _)) rfl) rfl rfl rfl ?_
  refine WL.alloc rfl rfl rfl (fun b5 => ?_)
  (refine WL.store [wv, pv, vi r.table.wrong, kv, vi r.others, vi r.last, tv, bv, sv] rfl (.head _) rfl rfl rfl (Nat.le_of_ble_eq_true rfl) (by simp [Value.cells]; exact ⟨IsArr.one hA.W, IsArr.one hA.P, rfl, IsArr.one hA.K, rfl, rfl, IsArr.one hA.T, IsArr.one hA.B, IsArr.one hA.S⟩) rfl ?_)
  refine WL.nil ?_
  refine Kseq.go (W.seq ?_)
  skip
  refine W.region ?_
  refine WL.val (OpVal.fieldAddrB rfl) rfl rfl rfl ?_
  refine WL.store [_, _, _, _, _, _, _, _, _] rfl (.head _) rfl rfl rfl (Nat.le_of_ble_eq_true rfl) (by first | (simp [Value.cells, Value.oneCell']; done) | exact IsArr.ones hW (by omega) | exact IsArr.ones hP (by omega) | exact IsArr.ones hS (by omega) | exact IsArr.ones hH (by omega) | exact IsArr.ones hL (by omega) | exact IsArr.ones hB (by omega) | exact IsArr.ones hT (by omega) | exact IsArr.ones hm (by omega)) rfl ?_
  refine WL.nil ?_
  refine Kseq.go (W.seq (W.seq ?_))
  skip
  refine W.region ?_
  refine WL.val (OpVal.opv rfl) rfl rfl rfl ?_
  refine WL.nil ?_
  refine Kseq.go (W.block ?_)
  refine W.nilRow 88 2 ?_
  refine W.loop (σ := Nat × Value) (fun s => [(1, vi w), (2, .pointer (some ⟨b2, 0, none⟩)), (4, .pointer (some ⟨b4, 0, none⟩)), (5, .pointer (some ⟨b5, 0, none⟩)), (6, .int .i64 (s.1 : Int))]) (fun _ => [h])
    (fun s => [kr 88 2 s.2 ((someTo6 r.signs w s.1).map sv2), .blk b5 #[wv, pv, vi r.table.wrong, kv, vi r.others, vi r.last, tv, bv, s.2] 31, .blk b4 #[.slice none 0 0, .slice none 0 0, .int .i64 0, .slice none 0 0, .int .i64 0, .int .i64 0, .slice none 0 0, .slice none 0 0, .slice none 0 0] 31, .blk b2 (hcs wv pv kv tv bv sv r) 31]) (fun s => s.1 ≤ r.signs.length) (fun s => r.signs.length - s.1) (0, .slice none 0 0) ⟨rfl, rfl, rfl, rfl, rfl, trivial⟩ (by simp) (.refl _) (Nat.zero_le _) ?_
  rintro ⟨k, a⟩ hk
  dsimp only at hk ⊢
  have hlen := someTo6_len r.signs w k
  have hN : ((someTo6 r.signs w k).map sv2).length = (someTo6 r.signs w k).length := by simp
  refine W.seq (W.seq ?_)
  refine W.region ?_
  refine WL.val (OpVal.opv rfl) rfl rfl rfl ?_
  refine WL.val (OpVal.fieldAddrB rfl) rfl rfl rfl ?_
  refine WL.val (OpVal.loadB rfl (.tail _ (.tail _ (.tail _ (.head _)))) rfl) rfl rfl rfl ?_
  refine WL.val (OpVal.len rfl hS) rfl rfl rfl ?_
  refine WL.val (OpVal.opv rfl) rfl rfl rfl ?_
  refine WL.nil ?_
  refine Kseq.go ?_
  refine W.condD rfl rfl (fun hlt => ?_) (fun hge => ?_)
  · have hkl : k < r.signs.length := by omega
    refine W.skip (Kseq.go (W.seq (W.block (W.seq ?_))))
    refine W.region ?_
    refine WL.val (OpVal.opv rfl) rfl rfl rfl ?_
    refine WL.val (OpVal.opv rfl) rfl rfl rfl ?_
    refine WL.val (OpVal.conv rfl (wrap_u64 (by omega) (by omega))) rfl rfl rfl ?_
    refine WL.val (OpVal.shr rfl rfl (by omega)) rfl rfl rfl ?_
    refine WL.val (OpVal.rem rfl rfl (Int.natCast_nonneg _) (by omega)) rfl rfl rfl ?_
    refine WL.val (OpVal.opv rfl) rfl rfl rfl ?_
    refine WL.nil ?_
    refine Kseq.go ?_
    refine W.condD rfl rfl (fun hz => ?_) (fun hz => ?_)
    · have hb1 : w.testBit k = true := (mod2_bit6 w k).1 (by omega)
      have e : someTo6 r.signs w (k + 1) = someTo6 r.signs w k ++ [r.signs.getD k default] := by simp only [someTo6]; rw [if_pos hb1]
      obtain ⟨t, ht⟩ : ∃ t, r.signs.getD k default = t := ⟨_, rfl⟩
      skip
      refine W.draw 8 (by kernel_rfl) (by kernel_rfl) (by kernel_rfl) rfl ?_
      refine DJ.val [] (OpVal.fieldAddrB rfl) rfl rfl rfl rfl ?_
      refine DJ.val [] (OpVal.loadB rfl (.tail _ (.head _)) rfl) rfl rfl rfl rfl ?_
      refine DJ.val [] (OpVal.fieldAddrB rfl) rfl rfl rfl rfl ?_
      refine DJ.val [] (OpVal.loadB rfl (.tail _ (.tail _ (.tail _ (.head _)))) rfl) rfl rfl rfl rfl ?_
      refine DJ.val [] (OpVal.opv rfl) rfl rfl rfl rfl ?_
      refine DJ.val [] (OpVal.indexAddrN rfl rfl hS hkl) rfl rfl rfl rfl ?_
      refine DJ.val [] (OpVal.cast (OpVal.loadEA rfl hS (by repeat (first | exact .head _ | refine .tail _ ?_)) hkl) (show _ = Value.agg #[vi t.thing, .bool t.carries] from by rw [← ht]; rfl)) rfl rfl rfl rfl ?_
      refine DJ.abs (A := fun m q => IsCells m 2 q 1 [vi t.thing, .bool t.carries]) [] (OpAbs.mono (OpAbs.lit [vi t.thing, .bool t.carries] rfl (Nat.le_of_ble_eq_true rfl) rfl rfl (by simp [Value.cells]) (Nat.le_of_ble_eq_true rfl) rfl (by simp [Value.oneCell'])) (fun m' v' h' => h'.1)) rfl rfl rfl rfl ?_
      refine DJ.nil ?_
      rintro m29 v29 h29
      (refine WL.appK (sv2 t) rfl (fun _ => .head _) rfl h29 (by repeat (first | exact .head _ | refine .tail _ ?_)) rfl rfl (by omega) (by omega) (Nat.le_of_ble_eq_true rfl) rfl rfl rfl ?_; intro a30 c30)
      refine WL.val (OpVal.fieldAddrB rfl) rfl rfl rfl ?_
      (refine WL.store [_, _, _, _, _, _, _, _, _] rfl (.tail _ (.head _)) rfl rfl rfl (Nat.le_of_ble_eq_true rfl) (by simp [Value.cells, Value.oneCell']) rfl ?_)
      refine WL.nil ?_
      refine Kblock.normal (Kseq.go ?_)
      skip
      refine W.region ?_
      refine WL.val (OpVal.opv rfl) rfl rfl rfl ?_
      refine WL.val (OpVal.incr rfl (by omega)) rfl rfl rfl ?_
      refine WL.val (OpVal.opv rfl) rfl rfl rfl ?_
      refine WL.nil ?_
      skip
      refine Kloop.next (k + 1, .slice a30 (((someTo6 r.signs w k).map sv2).length + 1) c30) (by dsimp only; omega) (by dsimp only; omega) ⟨rfl, rfl, rfl, rfl, rfl, trivial⟩ (by simp) ?_
      dsimp only
      rw [e, List.map_append, ht]
      exact (by repeat (first | exact List.Sublist.refl _ | refine List.Sublist.cons _ ?_ | refine List.Sublist.cons_cons _ ?_))
    · have hb0 : w.testBit k = false := by
        rw [← Bool.not_eq_true]
        exact fun hc => hz (by have := (mod2_bit6 w k).2 hc; omega)
      have e : someTo6 r.signs w (k + 1) = someTo6 r.signs w k := by simp only [someTo6]; rw [if_neg (by rw [hb0]; exact Bool.false_ne_true)]
      refine W.skip (Kblock.normal (Kseq.go ?_))
      skip
      refine W.region ?_
      refine WL.val (OpVal.opv rfl) rfl rfl rfl ?_
      refine WL.val (OpVal.incr rfl (by omega)) rfl rfl rfl ?_
      refine WL.val (OpVal.opv rfl) rfl rfl rfl ?_
      refine WL.nil ?_
      skip
      refine Kloop.next (k + 1, a) (by dsimp only; omega) (by dsimp only; omega) ⟨rfl, rfl, rfl, rfl, rfl, trivial⟩ (by simp) ?_
      dsimp only
      rw [e]
      exact (by repeat (first | exact List.Sublist.refl _ | refine List.Sublist.cons _ ?_ | refine List.Sublist.cons_cons _ ?_))
  refine W.exit (Kseq.exit (Kloop.exit (Kblock.here (Kseq.go (W.seq ?_)))))
  have hkk : k = r.signs.length := by omega
  subst hkk
  refine W.freezeK (.head _) (fun b hb => (hF b hb).elim) (by simp) (by simp [sv2, Value.cells]) (by simp [sv2, Value.cells, Value.oneCell']) fun m3 hm3 => ?_
  have hm3' : IsSigns m3 a (someL r.signs w) := signs_of hm3
  clear hm3
  obtain ⟨a3, c3, rfl⟩ := IsArr.form hm3'
  refine W.join fun mj hj => ?_
  skip
  refine W.region ?_
  refine WL.val (OpVal.loadBW rfl (.head _) rfl) rfl rfl rfl ?_
  (refine WL.store [_, _, _, _, _, _, _, _, _] rfl (.tail _ (.head _)) rfl rfl rfl (Nat.le_of_ble_eq_true rfl) (by simp [Value.cells]; exact ⟨IsArr.one hA.W, IsArr.one hA.P, rfl, IsArr.one hA.K, rfl, rfl, IsArr.one hA.T, IsArr.one hA.B, rfl⟩) rfl ?_)
  refine WL.nil ?_
  refine Kseq.go ?_
  refine W.ret ?_; skip
  refine ⟨.inl rfl, [_], mj, ⟨.agg inferInstance inferInstance rfl (.tail _ (.head _)) rfl, trivial⟩, .head _, ?_⟩
  have hAj := hA.le (hj h (by simp))
  exact ⟨_, _, _, _, _, _, f, rfl, ⟨hAj.W, hAj.P, hAj.M, hAj.K, hAj.T, hAj.B, hm3'.le (hj m3 (by simp))⟩⟩
theorem withSigns_sm {r : House} (hs : SmH r) (w : Nat) : SmH (withSigns r (someL r.signs w)) := ⟨hs.table, hs.sick, hs.touches, hs.boiled, Nat.le_trans (someTo6_len _ _ _) hs.signs⟩
theorem ask6E_with {r : House} (hV : ValidH r) : ask6E r true = if ask6 r = [] then 11 else 0 := by
  unfold ask6E
  rw [fault6_zero.2 hV]; simp
end Go.Proofs.YtdnbkjgbehakpaaGreat
