/- The statements' functions of chapter 6: list, same, fault, Course, House. -/
import Derived.Test.YtdnbkjgbehakpaaGreatT128
import Derived.Test.YtdnbkjgbehakpaaGreatT7
namespace Go.Proofs.YtdnbkjgbehakpaaGreat
open Go Go.Eng Go.RowKit

/-- list -/
theorem list6_any {h : Mem} {v : Value} {xs : List Int} (hv : IsInts h v xs) (hn : xs.length ≤ 1000) : FnR Tryz.prog 45 #[v] h (fun m r => IsInts m r xs) := by
  refine FnR.of_W (n := 6) Tryz.func45 rfl rfl (Nat.le_of_ble_eq_true rfl) fun c hr hD hF => ?_
  refine W.seq ?_; refine W.region ?_; refine .o rfl ?_; refine WL.nil ?_
  refine Kseq.go (W.seq ?_)
  refine W.region ?_
  (refine WL.lit (vs := []) [] rfl (Nat.le_of_ble_eq_true rfl) rfl rfl (by simp) (Nat.le_of_ble_eq_true rfl) rfl rfl rfl rfl (fun b3 => ?_))
  refine .o rfl ?_
  (refine WL.appInts (xs := []) rfl (fun _ => .head _) rfl hv (by repeat constructor) (by simp; omega) rfl rfl rfl ?_; intro a5 cp5)
  refine .o rfl ?_; refine WL.nil ?_; refine Kseq.go ?_
  refine W.freezeInts (xs := xs) (.head _) (fun b hb => (hF b hb).elim) fun mr hmr => ?_
  refine W.ret ?_; refine ⟨.inl rfl, [_], mr, ⟨.tmp rfl, trivial⟩, (by repeat constructor), ?_⟩
  exact hmr

/-- House -/
theorem houseL_any {h : Mem} {v : Value} {r : House} (hv : IsHouse h v r) (hs : SmH r) : FnR Tryz.prog 23 #[v] h (fun m x => IsHouse m x r) := by
  obtain ⟨wv, pv, kv, tv, bv, sv, f, rfl, hA⟩ := hv
  have hst := hs.table
  have hTab := hA.table
  have hK := hA.K
  have hT := hA.T
  have hB := hA.B
  have hS := hA.S
  have hl1 := hs.sick
  have hl2 := hs.touches
  have hl3 := hs.boiled
  have hl4 := hs.signs
  refine FnR.of_W (n := 99) Tryz.func23 rfl rfl (Nat.le_of_ble_eq_true rfl) fun c hr hD hF => ?_
  refine W.seq ?_; refine W.region ?_
  refine WL.box rfl rfl rfl rfl (fun b1 => ?_)
  refine WL.alloc rfl rfl rfl (fun b2 => ?_)
  refine WL.nil ?_
  refine Kseq.go (W.seq ?_)
  let Z : Array Value := #[.slice none 0 0, .slice none 0 0, .int .i64 0, .slice none 0 0, .int .i64 0, .int .i64 0, .slice none 0 0, .slice none 0 0, .slice none 0 0]
  let A18 : Mem → Value → Prop := fun m q => ∃ wa wc pa pc f' ka kc, q = .agg #[.slice wa r.table.women.length wc, .slice pa r.table.pieces.length pc, .int .i64 r.table.wrong, .slice ka r.sick.length kc, .int .i64 r.others, .int .i64 r.last, .slice none 0 0, .slice none 0 0, .slice none 0 0] ∧ IsWomen m (.slice wa r.table.women.length wc) r.table.women ∧ IsPieces m (.slice pa r.table.pieces.length pc) f' r.table.pieces ∧ IsMarks m f' r.table.pieces ∧ IsInts m (.slice ka r.sick.length kc) r.sick
  refine W.draw2g 12 11 3 (fun g : Nat => Value.pointer (some ⟨g, 0, none⟩)) (fun g => [.blk g Z 46, .blk b2 Z 46, .blk b1 (hcs wv pv kv tv bv sv r) 31]) (by kernel_rfl) (by kernel_rfl) (by kernel_rfl) rfl rfl ?_; refine DJ2.val [] (.inr (OpVal.fieldAddrB rfl)) (.inr (fun g => OpVal.fieldAddrB rfl)) rfl (fun _ => rfl) rfl rfl rfl (fun _ => rfl) rfl ?_; refine DJ2.val [] (.inr (OpVal.loadBA (vs := [wv, pv, .int .i64 r.table.wrong]) rfl (by repeat constructor) rfl rfl)) (.inr (fun g => OpVal.loadBA (vs := [wv, pv, .int .i64 r.table.wrong]) rfl (by repeat constructor) rfl rfl)) rfl (fun _ => rfl) rfl rfl rfl (fun _ => rfl) rfl ?_; refine DJ2.abs (A := fun m q => IsTable m q r.table) [] (.inr (OpAbs.call rfl (fun m hm => table_any (hTab.le (by repeat first | exact hm.1 | replace hm := hm.2)) hst))) (.inr (fun g => OpAbs.call rfl (fun m hm => table_any (hTab.le (by repeat first | exact hm.1 | replace hm := hm.2)) hst))) rfl (fun _ => rfl) rfl rfl rfl (fun _ => rfl) rfl ?_
  refine DJ2.val [] (.inr (OpVal.fieldAddrB rfl)) (.inr (fun g => OpVal.fieldAddrB rfl)) rfl (fun _ => rfl) rfl rfl rfl (fun _ => rfl) rfl ?_; refine DJ2.val [] (.inr (OpVal.loadB rfl (by repeat constructor) rfl)) (.inr (fun g => OpVal.loadB rfl (by repeat constructor) rfl)) rfl (fun _ => rfl) rfl rfl rfl (fun _ => rfl) rfl ?_; refine DJ2.abs (A := fun m x => IsInts m x r.sick) [] (.inr (OpAbs.call rfl (fun m hm => list6_any (hK.le (by repeat first | exact hm.1 | replace hm := hm.2)) (by omega)))) (.inr (fun g => OpAbs.call rfl (fun m hm => list6_any (hK.le (by repeat first | exact hm.1 | replace hm := hm.2)) (by omega)))) rfl (fun _ => rfl) rfl rfl rfl (fun _ => rfl) rfl ?_; refine DJ2.val [] (.inr (OpVal.fieldAddrB rfl)) (.inr (fun g => OpVal.fieldAddrB rfl)) rfl (fun _ => rfl) rfl rfl rfl (fun _ => rfl) rfl ?_; refine DJ2.val [] (.inr (OpVal.loadB rfl (by repeat constructor) rfl)) (.inr (fun g => OpVal.loadB rfl (by repeat constructor) rfl)) rfl (fun _ => rfl) rfl rfl rfl (fun _ => rfl) rfl ?_
  refine DJ2.val [] (.inr (OpVal.fieldAddrB rfl)) (.inr (fun g => OpVal.fieldAddrB rfl)) rfl (fun _ => rfl) rfl rfl rfl (fun _ => rfl) rfl ?_; refine DJ2.val [] (.inr (OpVal.loadB rfl (by repeat constructor) rfl)) (.inr (fun g => OpVal.loadB rfl (by repeat constructor) rfl)) rfl (fun _ => rfl) rfl rfl rfl (fun _ => rfl) rfl ?_
  refine DJ2.abs (A := A18) [(13, fun m x => IsInts m x r.sick), (10, fun m q => IsTable m q r.table)] (.inr (fun m13 v13 h13 => fun m10 v10 h10 => by obtain ⟨wv', pv', f', rfl, hW', hP', hM'⟩ := h10; obtain ⟨wa, wc, rfl⟩ := IsArr.form hW'; obtain ⟨pa, pc, rfl⟩ := IsArr.form hP'; obtain ⟨ka, kc, rfl⟩ := IsArr.form h13; exact OpAbs.mono (OpAbs.join (OpAbs.ofVal (A := fun m x => x = .agg #[.slice wa r.table.women.length wc, .slice pa r.table.pieces.length pc, .int .i64 r.table.wrong, .slice ka r.sick.length kc, .int .i64 r.others, .int .i64 r.last, .slice none 0 0, .slice none 0 0, .slice none 0 0] ∧ IsInts m (.slice ka r.sick.length kc) r.sick) (OpVal.build #[.slice wa r.table.women.length wc, .slice pa r.table.pieces.length pc, .int .i64 r.table.wrong, .slice ka r.sick.length kc, .int .i64 r.others, .int .i64 r.last, .slice none 0 0, .slice none 0 0, .slice none 0 0] rfl (by kernel_rfl)) (m := m13) (by repeat constructor) ⟨rfl, h13⟩) (m := m10) (by repeat constructor)) (fun m x hx => by obtain ⟨m1, l1, l2, e, hh⟩ := hx; exact ⟨_, _, _, _, _, _, _, e, hW'.le l2, hP'.le l2, hM'.le l2, hh.le l1⟩))) (.inr (fun g => fun m13 v13 h13 => fun m10 v10 h10 => by obtain ⟨wv', pv', f', rfl, hW', hP', hM'⟩ := h10; obtain ⟨wa, wc, rfl⟩ := IsArr.form hW'; obtain ⟨pa, pc, rfl⟩ := IsArr.form hP'; obtain ⟨ka, kc, rfl⟩ := IsArr.form h13; exact OpAbs.mono (OpAbs.join (OpAbs.ofVal (A := fun m x => x = .agg #[.slice wa r.table.women.length wc, .slice pa r.table.pieces.length pc, .int .i64 r.table.wrong, .slice ka r.sick.length kc, .int .i64 r.others, .int .i64 r.last, .slice none 0 0, .slice none 0 0, .slice none 0 0] ∧ IsInts m (.slice ka r.sick.length kc) r.sick) (OpVal.build #[.slice wa r.table.women.length wc, .slice pa r.table.pieces.length pc, .int .i64 r.table.wrong, .slice ka r.sick.length kc, .int .i64 r.others, .int .i64 r.last, .slice none 0 0, .slice none 0 0, .slice none 0 0] rfl (by kernel_rfl)) (m := m13) (by repeat constructor) ⟨rfl, h13⟩) (m := m10) (by repeat constructor)) (fun m x hx => by obtain ⟨m1, l1, l2, e, hh⟩ := hx; exact ⟨_, _, _, _, _, _, _, e, hW'.le l2, hP'.le l2, hM'.le l2, hh.le l1⟩))) rfl (fun _ => rfl) rfl rfl rfl (fun _ => rfl) rfl ?_ (hG := ⟨(by repeat constructor), rfl, (by repeat constructor), rfl, trivial⟩)
  refine DJ2.eff [] trivial rfl rfl rfl (fun M2 hM2 => ?_) ?_
  · (refine WL.alloc rfl rfl rfl (fun b3 => ?_); exact WL.nil ⟨b3, Keff.intro (by repeat (first | exact trivial | refine ⟨rfl, ?_⟩)) (fun m hm => hm) (.refl _)⟩)
  refine DJ2.nil (fun g => ?_)
  rintro m18 v18 h18
  rintro m13 v13 h13
  rintro m10 v10 h10
  obtain ⟨wa, wc, pa, pc, f', ka, kc, rfl, hW', hP', hM', hK'⟩ := h18
  let C : Value → Value → Value → Array Value := fun a b d => #[.slice wa r.table.women.length wc, .slice pa r.table.pieces.length pc, .int .i64 r.table.wrong, .slice ka r.sick.length kc, .int .i64 r.others, .int .i64 r.last, a, b, d]
  (refine WL.store [_, _, _, _, _, _, _, _, _] rfl (.head _) rfl rfl rfl (Nat.le_of_ble_eq_true rfl) (by simp [Value.cells, Value.oneCell']) rfl ?_)
  refine WL.nil ?_
  refine Kseq.go (W.seq (W.seq ?_))
  refine W.region ?_; refine .o rfl ?_; refine WL.nil ?_
  refine Kseq.go (W.block ?_)
  refine W.nilRow 129 4 ?_; refine W.loop (σ := Nat × Value) (fun s => [(1, .pointer (some ⟨b1, 0, none⟩)), (2, .pointer (some ⟨b2, 0, none⟩)), (3, .pointer (some ⟨g, 0, none⟩)), (4, .int .i64 (s.1 : Int))]) (fun _ => [m18, h]) (fun s => [kr 129 4 s.2 ((r.touches.take s.1).map tv4), .blk g (C s.2 (.slice none 0 0) (.slice none 0 0)) 46, .blk b2 Z 46, .blk b1 (hcs wv pv kv tv bv sv r) 31]) (fun s => s.1 ≤ r.touches.length) (fun s => r.touches.length - s.1) (0, .slice none 0 0) ⟨rfl, rfl, rfl, rfl, trivial⟩ (by simp) (.refl _) (Nat.zero_le _) ?_
  rintro ⟨k, a⟩ hk
  dsimp only at hk ⊢
  have hlen : ((r.touches.take k).map tv4).length = k := by simp; omega
  refine W.seq (W.seq ?_)
  refine W.region ?_; refine .o rfl ?_; refine .val (.fieldAddrB rfl) rfl rfl rfl ?_; refine .val (.loadB rfl (.tail _ (.tail _ (.tail _ (.head _)))) rfl) rfl rfl rfl ?_; refine .val (.len rfl hT) rfl rfl rfl ?_; refine .o rfl ?_; refine WL.nil ?_; refine Kseq.go ?_
  refine W.condD rfl rfl (fun hlt => ?_) (fun hge => ?_)
  · have hkl : k < r.touches.length := by omega
    obtain ⟨t, ht⟩ : ∃ t, r.touches.getD k default = t := ⟨_, rfl⟩
    refine W.skip (Kseq.go (W.seq (W.block (W.seq ?_))))
    refine W.region ?_; refine .val (.fieldAddrB rfl) rfl rfl rfl ?_; refine .val (.loadB rfl (.tail _ (.tail _ (.tail _ (.head _)))) rfl) rfl rfl rfl ?_; refine .o rfl ?_; refine .val (.indexAddrN rfl rfl hT hkl) rfl rfl rfl ?_
    refine .val (.cast (.loadEA rfl hT (by repeat constructor) hkl) (show _ = Value.agg #[vi t.a, vi t.b, vi t.lo, vi t.hi] from by rw [← ht]; rfl)) rfl rfl rfl ?_
    refine WL.alloc rfl rfl rfl (fun b5 => ?_)
    refine WL.store [_, _, _, _] rfl (.head _) rfl rfl rfl (Nat.le_of_ble_eq_true rfl) (by first | (simp [Value.cells, Value.oneCell']; done) | exact IsArr.ones hW (by omega) | exact IsArr.ones hP (by omega) | exact IsArr.ones hS (by omega) | exact IsArr.ones hH (by omega) | exact IsArr.ones hL (by omega) | exact IsArr.ones hB (by omega) | exact IsArr.ones hT (by omega) | exact IsArr.ones hm (by omega)) rfl ?_
    refine WL.nil ?_; refine Kseq.go ?_; refine W.region ?_; refine .val (.fieldAddrB rfl) rfl rfl rfl ?_; refine .val (.loadB rfl (.tail _ (.tail _ (.head _))) rfl) rfl rfl rfl ?_; refine .val (.fieldAddrB rfl) rfl rfl rfl ?_; refine .val (.loadB rfl (.head _) rfl) rfl rfl rfl ?_; refine .val (.fieldAddrB rfl) rfl rfl rfl ?_; refine .val (.loadB rfl (.head _) rfl) rfl rfl rfl ?_; refine .val (.fieldAddrB rfl) rfl rfl rfl ?_; refine .val (.fieldAddrB rfl) rfl rfl rfl ?_; refine .val (.loadB rfl (.head _) rfl) rfl rfl rfl ?_; refine .val (.fieldAddrB rfl) rfl rfl rfl ?_; refine .val (.fieldAddrB rfl) rfl rfl rfl ?_; refine .val (.loadB rfl (.head _) rfl) rfl rfl rfl ?_; refine .val (.build2 rfl rfl) rfl rfl rfl ?_; refine .val (.build #[vi t.a, vi t.b, vi t.lo, vi t.hi] rfl (by kernel_rfl)) rfl rfl rfl ?_
    refine WL.abs (OpAbs.lit [_, _, _, _] rfl (Nat.le_of_ble_eq_true rfl) rfl rfl (by simp [Value.cells]) (Nat.le_of_ble_eq_true rfl) rfl (by first | (simp [Value.oneCell']; done) | exact List.all_eq_true.1 rfl)) rfl rfl rfl ?_
    rintro m45 _ ⟨hc45, a45, rfl⟩
    (refine WL.appK (tv4 t) rfl (fun _ => .tail _ (.head _)) rfl hc45 (.head _) rfl rfl (by omega) (by omega) (Nat.le_of_ble_eq_true rfl) rfl rfl rfl ?_; intro a46 c46)
    refine .val (.fieldAddrB rfl) rfl rfl rfl ?_
    (refine WL.store [_, _, _, _, _, _, _, _, _] rfl (.tail _ (.tail _ (.head _))) rfl rfl rfl (Nat.le_of_ble_eq_true rfl) (by simp [Value.cells, Value.oneCell']) rfl ?_)
    refine WL.nil ?_
    refine Kblock.normal (Kseq.go ?_)
    refine W.region ?_; refine .o rfl ?_; refine .val (.incr rfl (by omega)) rfl rfl rfl ?_; refine .o rfl ?_; refine WL.nil ?_
    refine Kloop.next (k + 1, .slice a46 (((r.touches.take k).map tv4).length + 1) c46) (by dsimp only; omega) (by dsimp only; omega) ⟨rfl, rfl, rfl, rfl, trivial⟩ (by simp) ?_
    dsimp only
    rw [take_snoc hkl, List.map_append, ht]
    exact (by repeat first | exact .refl _ | refine .cons _ ?_)
  refine W.exit (Kseq.exit (Kloop.exit (Kblock.here (Kseq.go (W.seq (W.seq ?_))))))
  have hkk : k = r.touches.length := by omega
  subst hkk
  rw [List.take_length]
  refine W.freezeK (.head _) (fun b hb => (hF b hb).elim) (by simp) (by simp [tv4, Value.cells]) (by simp [tv4, Value.cells, Value.oneCell']) fun m1 hm1 => ?_
  have hm1' := touches_of hm1
  clear hm1
  obtain ⟨a1, c1, rfl⟩ := IsArr.form hm1'
  refine W.region ?_; refine .o rfl ?_; refine WL.nil ?_
  refine Kseq.go (W.block ?_)
  refine W.nilRow 138 2 ?_; refine W.loop (σ := Nat × Value) (fun s => [(1, .pointer (some ⟨b1, 0, none⟩)), (2, .pointer (some ⟨b2, 0, none⟩)), (3, .pointer (some ⟨g, 0, none⟩)), (6, .int .i64 (s.1 : Int))]) (fun _ => [m1, m18, h]) (fun s => [kr 138 2 s.2 ((r.boiled.take s.1).map bv2), .blk g (C (.slice a1 r.touches.length c1) s.2 (.slice none 0 0)) 46, .blk b2 Z 46, .blk b1 (hcs wv pv kv tv bv sv r) 31]) (fun s => s.1 ≤ r.boiled.length) (fun s => r.boiled.length - s.1) (0, .slice none 0 0) ⟨rfl, rfl, rfl, rfl, trivial⟩ (by simp) (.refl _) (Nat.zero_le _) ?_
  rintro ⟨k, a⟩ hk
  dsimp only at hk ⊢
  have hlen : ((r.boiled.take k).map bv2).length = k := by simp; omega
  refine W.seq (W.seq ?_)
  refine W.region ?_; refine .o rfl ?_; refine .val (.fieldAddrB rfl) rfl rfl rfl ?_; refine .val (.loadB rfl (.tail _ (.tail _ (.tail _ (.head _)))) rfl) rfl rfl rfl ?_; refine .val (.len rfl hB) rfl rfl rfl ?_; refine .o rfl ?_; refine WL.nil ?_; refine Kseq.go ?_
  refine W.condD rfl rfl (fun hlt => ?_) (fun hge => ?_)
  · have hkl : k < r.boiled.length := by omega
    obtain ⟨t, ht⟩ : ∃ t, r.boiled.getD k default = t := ⟨_, rfl⟩
    refine W.skip (Kseq.go (W.seq (W.block ?_)))
    refine W.draw 16 (by kernel_rfl) (by kernel_rfl) (by kernel_rfl) rfl ?_; refine .val [] (.fieldAddrB rfl) rfl rfl rfl rfl ?_; refine .val [] (.loadB rfl (.tail _ (.head _)) rfl) rfl rfl rfl rfl ?_; refine .val [] (.fieldAddrB rfl) rfl rfl rfl rfl ?_; refine .val [] (.loadB rfl (.tail _ (.tail _ (.tail _ (.head _)))) rfl) rfl rfl rfl rfl ?_; refine .val [] (.opv rfl) rfl rfl rfl rfl ?_; refine .val [] (.indexAddrN rfl rfl hB hkl) rfl rfl rfl rfl ?_; refine .val [] (.fieldAddrN rfl hB hkl) rfl rfl rfl rfl ?_
    refine .val [] (.cast (.loadE rfl hB (by repeat constructor) hkl (by omega)) (show _ = vi t.thing from by rw [← ht]; rfl)) rfl rfl rfl rfl ?_
    refine .val [] (.fieldAddrB rfl) rfl rfl rfl rfl ?_; refine .val [] (.loadB rfl (.tail _ (.tail _ (.tail _ (.head _)))) rfl) rfl rfl rfl rfl ?_; refine .val [] (.opv rfl) rfl rfl rfl rfl ?_; refine .val [] (.indexAddrN rfl rfl hB hkl) rfl rfl rfl rfl ?_; refine .val [] (.fieldAddrN rfl hB hkl) rfl rfl rfl rfl ?_
    refine .val [] (.cast (.loadE rfl hB (by repeat constructor) hkl (by omega)) (show _ = vi t.hour from by rw [← ht]; rfl)) rfl rfl rfl rfl ?_
    refine .val [] (.build2 rfl rfl) rfl rfl rfl rfl ?_; refine DJ.abs (A := fun m q => IsCells m 2 q 1 [vi t.thing, vi t.hour]) [] (OpAbs.mono (OpAbs.lit [vi t.thing, vi t.hour] rfl (Nat.le_of_ble_eq_true rfl) rfl rfl (by simp [Value.cells]) (Nat.le_of_ble_eq_true rfl) rfl (by simp [Value.oneCell'])) (fun m' v' h' => h'.1)) rfl rfl rfl rfl ?_; refine DJ.nil ?_
    rintro m70 v70 h70
    (refine WL.appK (bv2 t) rfl (fun _ => .head _) rfl h70 (by repeat constructor) rfl rfl (by omega) (by omega) (Nat.le_of_ble_eq_true rfl) rfl rfl rfl ?_; intro a71 c71)
    refine .val (.fieldAddrB rfl) rfl rfl rfl ?_
    (refine WL.store [_, _, _, _, _, _, _, _, _] rfl (.tail _ (.head _)) rfl rfl rfl (Nat.le_of_ble_eq_true rfl) (by simp [Value.cells, Value.oneCell']) rfl ?_)
    refine WL.nil ?_
    refine Kblock.normal (Kseq.go ?_)
    refine W.region ?_; refine .o rfl ?_; refine .val (.incr rfl (by omega)) rfl rfl rfl ?_; refine .o rfl ?_; refine WL.nil ?_
    refine Kloop.next (k + 1, .slice a71 (((r.boiled.take k).map bv2).length + 1) c71) (by dsimp only; omega) (by dsimp only; omega) ⟨rfl, rfl, rfl, rfl, trivial⟩ (by simp) ?_
    dsimp only
    rw [take_snoc hkl, List.map_append, ht]
    exact (by repeat first | exact .refl _ | refine .cons _ ?_)
  refine W.exit (Kseq.exit (Kloop.exit (Kblock.here (Kseq.go (W.seq (W.seq ?_))))))
  have hkk : k = r.boiled.length := by omega
  subst hkk
  rw [List.take_length]
  refine W.freezeK (.head _) (fun b hb => (hF b hb).elim) (by simp) (by simp [bv2, Value.cells]) (by simp [bv2, Value.cells, Value.oneCell']) fun m2 hm2 => ?_
  have hm2' := boils_of hm2
  clear hm2
  obtain ⟨a2, c2, rfl⟩ := IsArr.form hm2'
  refine W.region ?_; refine .o rfl ?_; refine WL.nil ?_
  refine Kseq.go (W.block ?_)
  refine W.nilRow 139 2 ?_; refine W.loop (σ := Nat × Value) (fun s => [(1, .pointer (some ⟨b1, 0, none⟩)), (2, .pointer (some ⟨b2, 0, none⟩)), (3, .pointer (some ⟨g, 0, none⟩)), (7, .int .i64 (s.1 : Int))]) (fun _ => [m2, m1, m18, h]) (fun s => [kr 139 2 s.2 ((r.signs.take s.1).map sv2), .blk g (C (.slice a1 r.touches.length c1) (.slice a2 r.boiled.length c2) s.2) 46, .blk b2 Z 46, .blk b1 (hcs wv pv kv tv bv sv r) 31]) (fun s => s.1 ≤ r.signs.length) (fun s => r.signs.length - s.1) (0, .slice none 0 0) ⟨rfl, rfl, rfl, rfl, trivial⟩ (by simp) (.refl _) (Nat.zero_le _) ?_
  rintro ⟨k, a⟩ hk
  dsimp only at hk ⊢
  have hlen : ((r.signs.take k).map sv2).length = k := by simp; omega
  refine W.seq (W.seq ?_)
  refine W.region ?_; refine .o rfl ?_; refine .val (.fieldAddrB rfl) rfl rfl rfl ?_; refine .val (.loadB rfl (.tail _ (.tail _ (.tail _ (.head _)))) rfl) rfl rfl rfl ?_; refine .val (.len rfl hS) rfl rfl rfl ?_; refine .o rfl ?_; refine WL.nil ?_; refine Kseq.go ?_
  refine W.condD rfl rfl (fun hlt => ?_) (fun hge => ?_)
  · have hkl : k < r.signs.length := by omega
    obtain ⟨t, ht⟩ : ∃ t, r.signs.getD k default = t := ⟨_, rfl⟩
    refine W.skip (Kseq.go (W.seq (W.block ?_)))
    refine W.draw 16 (by kernel_rfl) (by kernel_rfl) (by kernel_rfl) rfl ?_; refine .val [] (.fieldAddrB rfl) rfl rfl rfl rfl ?_; refine .val [] (.loadB rfl (.tail _ (.head _)) rfl) rfl rfl rfl rfl ?_; refine .val [] (.fieldAddrB rfl) rfl rfl rfl rfl ?_; refine .val [] (.loadB rfl (.tail _ (.tail _ (.tail _ (.head _)))) rfl) rfl rfl rfl rfl ?_; refine .val [] (.opv rfl) rfl rfl rfl rfl ?_; refine .val [] (.indexAddrN rfl rfl hS hkl) rfl rfl rfl rfl ?_; refine .val [] (.fieldAddrN rfl hS hkl) rfl rfl rfl rfl ?_
    refine .val [] (.cast (.loadE rfl hS (by repeat constructor) hkl (by omega)) (show _ = vi t.thing from by rw [← ht]; rfl)) rfl rfl rfl rfl ?_
    refine .val [] (.fieldAddrB rfl) rfl rfl rfl rfl ?_; refine .val [] (.loadB rfl (.tail _ (.tail _ (.tail _ (.head _)))) rfl) rfl rfl rfl rfl ?_; refine .val [] (.opv rfl) rfl rfl rfl rfl ?_; refine .val [] (.indexAddrN rfl rfl hS hkl) rfl rfl rfl rfl ?_; refine .val [] (.fieldAddrN rfl hS hkl) rfl rfl rfl rfl ?_
    refine .val [] (.cast (.loadE rfl hS (by repeat constructor) hkl (by omega)) (show _ = Value.bool t.carries from by rw [← ht]; rfl)) rfl rfl rfl rfl ?_
    refine .val [] (.build2 rfl rfl) rfl rfl rfl rfl ?_; refine DJ.abs (A := fun m q => IsCells m 2 q 1 [vi t.thing, .bool t.carries]) [] (OpAbs.mono (OpAbs.lit [vi t.thing, .bool t.carries] rfl (Nat.le_of_ble_eq_true rfl) rfl rfl (by simp [Value.cells]) (Nat.le_of_ble_eq_true rfl) rfl (by simp [Value.oneCell'])) (fun m' v' h' => h'.1)) rfl rfl rfl rfl ?_; refine DJ.nil ?_
    rintro m95 v95 h95
    (refine WL.appK (sv2 t) rfl (fun _ => .head _) rfl h95 (by repeat constructor) rfl rfl (by omega) (by omega) (Nat.le_of_ble_eq_true rfl) rfl rfl rfl ?_; intro a96 c96)
    refine .val (.fieldAddrB rfl) rfl rfl rfl ?_
    (refine WL.store [_, _, _, _, _, _, _, _, _] rfl (.tail _ (.head _)) rfl rfl rfl (Nat.le_of_ble_eq_true rfl) (by simp [Value.cells, Value.oneCell']) rfl ?_)
    refine WL.nil ?_
    refine Kblock.normal (Kseq.go ?_)
    refine W.region ?_; refine .o rfl ?_; refine .val (.incr rfl (by omega)) rfl rfl rfl ?_; refine .o rfl ?_; refine WL.nil ?_
    refine Kloop.next (k + 1, .slice a96 (((r.signs.take k).map sv2).length + 1) c96) (by dsimp only; omega) (by dsimp only; omega) ⟨rfl, rfl, rfl, rfl, trivial⟩ (by simp) ?_
    dsimp only
    rw [take_snoc hkl, List.map_append, ht]
    exact (by repeat first | exact .refl _ | refine .cons _ ?_)
  refine W.exit (Kseq.exit (Kloop.exit (Kblock.here (Kseq.go (W.seq ?_)))))
  have hkk : k = r.signs.length := by omega
  subst hkk
  rw [List.take_length]
  refine W.freezeK (.head _) (fun b hb => (hF b hb).elim) (by simp) (by simp [sv2, Value.cells]) (by simp [sv2, Value.cells, Value.oneCell']) fun m3 hm3 => ?_
  have hm3' := signs_of hm3
  clear hm3
  obtain ⟨a3, c3, rfl⟩ := IsArr.form hm3'
  refine W.join fun mj hj => ?_
  refine W.region ?_; refine .val (.loadBW rfl (.head _) rfl) rfl rfl rfl ?_
  (refine WL.store [_, _, _, _, _, _, _, _, _] rfl (.tail _ (.head _)) rfl rfl rfl (Nat.le_of_ble_eq_true rfl) (by simp [C, Value.cells, Value.oneCell']) rfl ?_)
  refine WL.nil ?_; refine Kseq.go ?_
  refine W.ret ?_; skip
  refine ⟨.inl rfl, [_], mj, ⟨.agg inferInstance inferInstance rfl (.tail _ (.head _)) rfl, trivial⟩, .head _, _, _, _, _, _, _, f', rfl, ⟨hW'.le (hj m18 (by simp)), hP'.le (hj m18 (by simp)), hM'.le (hj m18 (by simp)), hK'.le (hj m18 (by simp)), hm1'.le (hj m1 (by simp)), hm2'.le (hj m2 (by simp)), hm3'.le (hj m3 (by simp))⟩⟩
end Go.Proofs.YtdnbkjgbehakpaaGreat

/- The statements' functions of chapter 6: Thin, ready. -/
namespace Go.Proofs.YtdnbkjgbehakpaaGreat
open Go Go.Eng Go.RowKit

theorem ValidH.hoursZ {r : House} (hV : ValidH r) {k : Nat} (hk : k < r.tn) : 0 ≤ (r.touches.getD k default).lo ∧ (r.touches.getD k default).lo ≤ (r.touches.getD k default).hi ∧ (r.touches.getD k default).hi ≤ 5 := by
  have h1 := touchOk_iff.1 (hV.touch k hk)
  have h2 := hV.last
  omega
theorem ValidH.fitZ {r : House} (hV : ValidH r) : FitH r := ⟨by have := hV.others; have h2 := hV.th.1; omega, by have := hV.others; omega⟩
def small6 (r : House) : Bool := ThinB r.table && decide (r.sick.length ≤ 7 ∧ r.touches.length ≤ 8 ∧ r.boiled.length ≤ 6 ∧ r.signs.length ≤ 7)
/-- Houses that the statements can use. -/
def thin6 (r : House) : Bool := small6 r && (!decide (fault6 r = 0) || (decide (r.things ≤ 7) && decide (many r.table * times r ≤ 60)))
theorem small6_sm {r : House} (h : small6 r = true) : SmH r := by
  unfold small6 at h
  rw [Bool.and_eq_true, decide_eq_true_eq] at h
  exact ⟨ThinB.sm h.1, by omega, by omega, by omega, by omega⟩
theorem thin6_sm {r : House} (h : thin6 r = true) : SmH r := by
  unfold thin6 at h
  rw [Bool.and_eq_true] at h
  exact small6_sm h.1
/-- Thin -/
theorem thin6_any {h : Mem} {v : Value} {r : House} (hv : IsHouse h v r) : FnV Tryz.prog 19 #[v] h (.bool (thin6 r)) := by
  have hv' := hv
  obtain ⟨wv, pv, kv, tv, bv, sv, f, rfl, hA⟩ := hv
  have hTab := hA.table
  have hK := hA.K
  have hT := hA.T
  have hB := hA.B
  have hS := hA.S
  refine FnR.val ?_
  refine FnR.of_W (n := 48) Tryz.func19 rfl rfl (Nat.le_of_ble_eq_true rfl) fun c hr hD hF => ?_
  refine W.seq ?_; refine W.region ?_
  refine WL.box rfl rfl rfl rfl (fun b1 => ?_)
  refine .o rfl ?_; refine WL.nil ?_
  refine Kseq.go (W.seq (W.seq ?_))
  refine W.toS [(1, .pointer (some ⟨b1, 0, none⟩)), (30, .bool (!small6 r))] ?_ ?_
  · obtain ⟨tb, htb⟩ : ∃ tb, ThinB r.table = tb := ⟨_, rfl⟩
    refine W.region ?_; refine .val (.fieldAddrB rfl) rfl rfl rfl ?_; refine .val (.loadBA (vs := [wv, pv, vi r.table.wrong]) rfl (.head _) rfl rfl) rfl rfl rfl ?_; refine .val (.cast (.call rfl (fun m hm => thin_any (hTab.le (by repeat first | exact hm.1 | replace hm := hm.2)))) (congrArg Value.bool htb)) rfl rfl rfl ?_
    iterate 2 refine .o rfl ?_
    refine WL.splitB rfl rfl (fun g7 => ?_) (fun g7 => ?_)
    · refine WL.pass rfl rfl rfl ?_
      refine WL.pass rfl rfl rfl ?_; refine WL.pass rfl rfl rfl ?_; refine WL.pass rfl rfl rfl ?_
      iterate 2 refine .o rfl ?_
      refine WL.pass rfl rfl rfl ?_; refine WL.pass rfl rfl rfl ?_; refine WL.pass rfl rfl rfl ?_; refine WL.pass rfl rfl rfl ?_
      iterate 2 refine .o rfl ?_
      refine WL.pass rfl rfl rfl ?_; refine WL.pass rfl rfl rfl ?_; refine WL.pass rfl rfl rfl ?_; refine WL.pass rfl rfl rfl ?_
      iterate 2 refine .o rfl ?_
      refine WL.pass rfl rfl rfl ?_; refine WL.pass rfl rfl rfl ?_; refine WL.pass rfl rfl rfl ?_; refine WL.pass rfl rfl rfl ?_; refine .o rfl ?_; refine WL.nil ?_
      exact Keff.intro ⟨rfl, congrArg (fun b => some (Value.bool b)) (by unfold small6; rw [htb]; first | exact (by first | (simp [-List.getD_eq_getElem?_getD]; done) | (simp_all [-List.getD_eq_getElem?_getD]; done) | (simp [-List.getD_eq_getElem?_getD]; omega) | (rw [Bool.eq_iff_iff]; simp [-List.getD_eq_getElem?_getD]; omega) | (simp [-List.getD_eq_getElem?_getD] at *; omega)) | (simp [*]; done) | (rw [Bool.eq_iff_iff]; simp_all; omega) | (simp_all; rw [← decide_not]; exact decide_eq_decide.2 (by omega)) | (simp_all; trace_state; omega)), trivial⟩ (by simp) (by repeat first | exact .refl _ | refine .cons _ ?_)
    · refine .val (.fieldAddrB rfl) rfl rfl rfl ?_
      refine .val (.loadB rfl (.head _) rfl) rfl rfl rfl ?_; refine .val (.len rfl hK) rfl rfl rfl ?_
      iterate 3 refine .o rfl ?_
      refine WL.split rfl rfl (fun g13 => ?_) (fun g13 => ?_)
      · refine WL.pass rfl rfl rfl ?_
        refine WL.pass rfl rfl rfl ?_; refine WL.pass rfl rfl rfl ?_; refine WL.pass rfl rfl rfl ?_
        iterate 2 refine .o rfl ?_
        refine WL.pass rfl rfl rfl ?_; refine WL.pass rfl rfl rfl ?_; refine WL.pass rfl rfl rfl ?_; refine WL.pass rfl rfl rfl ?_
        iterate 2 refine .o rfl ?_
        refine WL.pass rfl rfl rfl ?_; refine WL.pass rfl rfl rfl ?_; refine WL.pass rfl rfl rfl ?_; refine WL.pass rfl rfl rfl ?_; refine .o rfl ?_; refine WL.nil ?_
        exact Keff.intro ⟨rfl, congrArg (fun b => some (Value.bool b)) (by unfold small6; rw [htb]; first | exact (by first | (simp [-List.getD_eq_getElem?_getD]; done) | (simp_all [-List.getD_eq_getElem?_getD]; done) | (simp [-List.getD_eq_getElem?_getD]; omega) | (rw [Bool.eq_iff_iff]; simp [-List.getD_eq_getElem?_getD]; omega) | (simp [-List.getD_eq_getElem?_getD] at *; omega)) | (simp [*]; done) | (rw [Bool.eq_iff_iff]; simp_all; omega) | (simp_all; rw [← decide_not]; exact decide_eq_decide.2 (by omega)) | (simp_all; trace_state; omega)), trivial⟩ (by simp) (by repeat first | exact .refl _ | refine .cons _ ?_)
      · refine .val (.fieldAddrB rfl) rfl rfl rfl ?_
        refine .val (.loadB rfl (.head _) rfl) rfl rfl rfl ?_; refine .val (.len rfl hT) rfl rfl rfl ?_
        iterate 3 refine .o rfl ?_
        refine WL.split rfl rfl (fun g19 => ?_) (fun g19 => ?_)
        · refine WL.pass rfl rfl rfl ?_
          refine WL.pass rfl rfl rfl ?_; refine WL.pass rfl rfl rfl ?_; refine WL.pass rfl rfl rfl ?_
          iterate 2 refine .o rfl ?_
          refine WL.pass rfl rfl rfl ?_; refine WL.pass rfl rfl rfl ?_; refine WL.pass rfl rfl rfl ?_; refine WL.pass rfl rfl rfl ?_; refine .o rfl ?_; refine WL.nil ?_
          exact Keff.intro ⟨rfl, congrArg (fun b => some (Value.bool b)) (by unfold small6; rw [htb]; first | exact (by first | (simp [-List.getD_eq_getElem?_getD]; done) | (simp_all [-List.getD_eq_getElem?_getD]; done) | (simp [-List.getD_eq_getElem?_getD]; omega) | (rw [Bool.eq_iff_iff]; simp [-List.getD_eq_getElem?_getD]; omega) | (simp [-List.getD_eq_getElem?_getD] at *; omega)) | (simp [*]; done) | (rw [Bool.eq_iff_iff]; simp_all; omega) | (simp_all; rw [← decide_not]; exact decide_eq_decide.2 (by omega)) | (simp_all; trace_state; omega)), trivial⟩ (by simp) (by repeat first | exact .refl _ | refine .cons _ ?_)
        · refine .val (.fieldAddrB rfl) rfl rfl rfl ?_
          refine .val (.loadB rfl (.head _) rfl) rfl rfl rfl ?_; refine .val (.len rfl hB) rfl rfl rfl ?_
          iterate 3 refine .o rfl ?_
          refine WL.split rfl rfl (fun g25 => ?_) (fun g25 => ?_)
          · refine WL.pass rfl rfl rfl ?_
            refine WL.pass rfl rfl rfl ?_; refine WL.pass rfl rfl rfl ?_; refine WL.pass rfl rfl rfl ?_; refine .o rfl ?_; refine WL.nil ?_
            exact Keff.intro ⟨rfl, congrArg (fun b => some (Value.bool b)) (by unfold small6; rw [htb]; first | exact (by first | (simp [-List.getD_eq_getElem?_getD]; done) | (simp_all [-List.getD_eq_getElem?_getD]; done) | (simp [-List.getD_eq_getElem?_getD]; omega) | (rw [Bool.eq_iff_iff]; simp [-List.getD_eq_getElem?_getD]; omega) | (simp [-List.getD_eq_getElem?_getD] at *; omega)) | (simp [*]; done) | (rw [Bool.eq_iff_iff]; simp_all; omega) | (simp_all; rw [← decide_not]; exact decide_eq_decide.2 (by omega)) | (simp_all; trace_state; omega)), trivial⟩ (by simp) (by repeat first | exact .refl _ | refine .cons _ ?_)
          · refine .val (.fieldAddrB rfl) rfl rfl rfl ?_
            refine .val (.loadB rfl (.head _) rfl) rfl rfl rfl ?_; refine .val (.len rfl hS) rfl rfl rfl ?_
            iterate 2 refine .o rfl ?_
            refine WL.nil ?_
            exact Keff.intro ⟨rfl, congrArg (fun b => some (Value.bool b)) (by unfold small6; rw [htb]; first | exact (by first | (simp [-List.getD_eq_getElem?_getD]; done) | (simp_all [-List.getD_eq_getElem?_getD]; done) | (simp [-List.getD_eq_getElem?_getD]; omega) | (rw [Bool.eq_iff_iff]; simp [-List.getD_eq_getElem?_getD]; omega) | (simp [-List.getD_eq_getElem?_getD] at *; omega)) | (simp [*]; done) | (rw [Bool.eq_iff_iff]; simp_all; omega) | (simp_all; rw [← decide_not]; exact decide_eq_decide.2 (by omega)) | (simp_all; trace_state; omega)), trivial⟩ (by simp) (by repeat first | exact .refl _ | refine .cons _ ?_)
  refine Kseq.go ?_
  refine W.cond rfl rfl (fun h1 => ?_) (fun h1 => ?_)
  · have hno : small6 r = false := by simpa using h1
    refine W.seq ?_; refine W.region ?_; refine .o rfl ?_; refine WL.nil ?_; refine Kseq.go ?_
    refine W.ret ?_; refine Kseq.ret ?_; refine ⟨.inl rfl, [_], h, ⟨.tmp rfl, trivial⟩, (by repeat constructor), ?_⟩
    exact congrArg Value.bool (by unfold thin6; rw [hno]; rfl)
  have hyes : small6 r = true := by simpa using h1
  have hs := small6_sm hyes
  have hth : thin6 r = (!decide (fault6 r = 0) || (decide (r.things ≤ 7) && decide (many r.table * times r ≤ 60))) := by unfold thin6; rw [hyes]; rfl
  refine W.skip (Kseq.go (W.seq ?_))
  by_cases hf : fault6 r = 0
  · have hV := fault6_zero.1 hf
    have hz : ∀ i, i < r.tn → 0 ≤ (r.touches.getD i default).lo ∧ (r.touches.getD i default).lo ≤ (r.touches.getD i default).hi ∧ (r.touches.getD i default).hi ≤ 5 := fun i hi => hV.hoursZ hi
    rw [decide_eq_true hf] at hth
    by_cases h7 : r.things ≤ 7
    · have hmp : 0 ≤ many r.table ∧ many r.table ≤ 3000 := manyTo_pos r.table r.table.pieces.length
      have htp : 1 ≤ times r ∧ times r ≤ 3000 := timesTo_pos (fun i hi => (hz i hi).2.1) r.tn (Nat.le_refl _)
      have hmul : many r.table * times r ≤ 3000 * 3000 := Int.mul_le_mul hmp.2 htp.2 (by omega) (by omega)
      have hmul0 : 0 ≤ many r.table * times r := Int.mul_nonneg hmp.1 (by omega)
      refine W.draw 12 (by kernel_rfl) (by kernel_rfl) (by kernel_rfl) rfl ?_; refine .val [] (.loadBW rfl (.head _) rfl) rfl rfl rfl rfl ?_; refine .val [] (.call rfl (fun m hm => fault6R_any (hv'.le (by repeat first | exact hm.1 | replace hm := hm.2)) hs)) rfl rfl rfl rfl ?_; refine .val [] (.cast (.opv rfl) (show _ = Value.bool false from congrArg (fun b => Value.bool (!b)) (decide_eq_true hf))) rfl rfl rfl rfl ?_; refine .val [] (.opv rfl) rfl rfl rfl rfl ?_; refine .val [] (.loadBW rfl (.head _) rfl) rfl rfl rfl rfl ?_; refine .val [] (.cast (.call rfl (fun m hm => thingsR_any (hv'.le (by repeat first | exact hm.1 | replace hm := hm.2)))) (congrArg (Value.int .i64) hV.fitZ.eq)) rfl rfl rfl rfl ?_; refine .val [] (.cast (.opv rfl) (congrArg Value.bool (decide_eq_true h7))) rfl rfl rfl rfl ?_; refine .val [] (.opv rfl) rfl rfl rfl rfl ?_; refine .val [] (.fieldAddrB rfl) rfl rfl rfl rfl ?_
      refine .val [] (.loadBA (vs := [wv, pv, vi r.table.wrong]) rfl (.head _) rfl rfl) rfl rfl rfl rfl ?_; refine .val [] (.call rfl (fun m hm => many_any (hTab.le (by repeat first | exact hm.1 | replace hm := hm.2)) hs.table)) rfl rfl rfl rfl ?_; refine .val [] (.loadBW rfl (.head _) rfl) rfl rfl rfl rfl ?_; refine DJ.nil ?_; refine .val (.call rfl (fun m hm => times_any (hv'.le (by repeat first | exact hm.1 | replace hm := hm.2)) hs hz)) rfl rfl rfl ?_; refine .val (.mul rfl rfl (by omega) (by omega)) rfl rfl rfl ?_
      iterate 4 refine .o rfl ?_
      refine WL.nil ?_; refine Kseq.go ?_
      refine W.ret ?_; refine ⟨.inl rfl, [_], h, ⟨.tmp rfl, trivial⟩, (by repeat constructor), ?_⟩
      exact congrArg Value.bool (by rw [hth, decide_eq_true h7]; rfl)
    · skip
      refine W.draw 12 (by kernel_rfl) (by kernel_rfl) (by kernel_rfl) rfl ?_; refine .val [] (.loadBW rfl (.head _) rfl) rfl rfl rfl rfl ?_; refine .val [] (.call rfl (fun m hm => fault6R_any (hv'.le (by repeat first | exact hm.1 | replace hm := hm.2)) hs)) rfl rfl rfl rfl ?_; refine .val [] (.cast (.opv rfl) (show _ = Value.bool false from congrArg (fun b => Value.bool (!b)) (decide_eq_true hf))) rfl rfl rfl rfl ?_; refine .val [] (.opv rfl) rfl rfl rfl rfl ?_; refine .val [] (.loadBW rfl (.head _) rfl) rfl rfl rfl rfl ?_; refine .val [] (.cast (.call rfl (fun m hm => thingsR_any (hv'.le (by repeat first | exact hm.1 | replace hm := hm.2)))) (congrArg (Value.int .i64) hV.fitZ.eq)) rfl rfl rfl rfl ?_; refine .val [] (.cast (.opv rfl) (congrArg Value.bool (decide_eq_false h7))) rfl rfl rfl rfl ?_; refine .val [] (.opv rfl) rfl rfl rfl rfl ?_; refine DJ.pass rfl rfl rfl rfl ?_; refine DJ.pass rfl rfl rfl rfl ?_
      refine DJ.pass rfl rfl rfl rfl ?_; refine DJ.pass rfl rfl rfl rfl ?_; refine DJ.nil ?_; refine WL.pass rfl rfl rfl ?_; refine WL.pass rfl rfl rfl ?_; refine WL.pass rfl rfl rfl ?_
      iterate 3 refine .o rfl ?_
      refine WL.nil ?_; refine Kseq.go ?_
      refine W.ret ?_; refine ⟨.inl rfl, [_], h, ⟨.tmp rfl, trivial⟩, (by repeat constructor), ?_⟩
      exact congrArg Value.bool (by rw [hth, decide_eq_false h7]; rfl)
  · rw [decide_eq_false hf] at hth
    refine W.draw 12 (by kernel_rfl) (by kernel_rfl) (by kernel_rfl) rfl ?_; refine .val [] (.loadBW rfl (.head _) rfl) rfl rfl rfl rfl ?_; refine .val [] (.call rfl (fun m hm => fault6R_any (hv'.le (by repeat first | exact hm.1 | replace hm := hm.2)) hs)) rfl rfl rfl rfl ?_; refine .val [] (.cast (.opv rfl) (show _ = Value.bool true from congrArg (fun b => Value.bool (!b)) (decide_eq_false hf))) rfl rfl rfl rfl ?_; refine .val [] (.opv rfl) rfl rfl rfl rfl ?_; refine DJ.pass rfl rfl rfl rfl ?_; refine DJ.pass rfl rfl rfl rfl ?_; refine DJ.pass rfl rfl rfl rfl ?_; refine DJ.pass rfl rfl rfl rfl ?_; refine DJ.pass rfl rfl rfl rfl ?_; refine DJ.pass rfl rfl rfl rfl ?_; refine DJ.pass rfl rfl rfl rfl ?_; refine DJ.pass rfl rfl rfl rfl ?_; refine DJ.nil ?_; refine WL.pass rfl rfl rfl ?_; refine WL.pass rfl rfl rfl ?_; refine WL.pass rfl rfl rfl ?_; refine WL.pass rfl rfl rfl ?_
    iterate 2 refine .o rfl ?_
    refine WL.nil ?_; refine Kseq.go ?_
    refine W.ret ?_; refine ⟨.inl rfl, [_], h, ⟨.tmp rfl, trivial⟩, (by repeat constructor), ?_⟩
    exact congrArg Value.bool (by rw [hth]; rfl)
end Go.Proofs.YtdnbkjgbehakpaaGreat
