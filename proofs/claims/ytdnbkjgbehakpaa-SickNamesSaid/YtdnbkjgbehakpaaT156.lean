/- Chapter 6: the examples' house, one of its rows one's own. -/
import Derived.Test.YtdnbkjgbehakpaaT132
import Derived.Test.YtdnbkjgbehakpaaT143
import Derived.Test.YtdnbkjgbehakpaaPH1
namespace Go.Proofs.Ytdnbkjgbehakpaa
open Go Go.Eng Go.RowKit

section
variable {P : Program} {n : Nat} {c : Cx P n} {l : List (Nat × Value)} {Ms : List Mem} {μ : List Res} {dst : Option Tmp} {x y u : Operand} {t ty t' : TypeId} {pos : String} {af : Array Edge} {gd : Option (Nat × Bool)} {K : Post}
/-- A part of a slice that is known. -/
theorem OpVal.sliceC {e : TypeId} {k bytes : Nat} {z : Value} [hu : TU P t (.slice e)] [hi : TI P e k bytes z] {a : Option Addr} {N cap hi' : Nat} (hx : lk l x = some (.slice a N cap)) (hz : lk l u = some (vi hi')) (h1 : hi' ≤ N) (h2 : N ≤ cap) (_ : cap ≤ maxLen) :
    OpVal c ⟨dst, .slice t x none (some u) none, ty, pos, af, gd⟩ l Ms μ (subV k 0 hi' (.slice a N cap)) :=
  OpVal.of_runs (by simp) (by simp) fun s w hh => by
    have ht : P.underlying t = some (.slice (P.elem t)) := by rw [elem_of hu.u]; exact hu.u
    simp only [execOp, hh.lk hx, hh.lk hz, Option.map_some, Option.map_none, Sem.run_bind, run_sliceAt_slice w t _ _ _ _ ht, run_slice_h w t a N cap ht .i64 hi' (by omega) (by omega), elem_of hu.u, hi.sizeOf, Result.andThen_ok, Sem.run_pure]
    simp [sliced, subV]
/-- A row's first elements. -/
theorem W.cutRow {code : Code} {T : TypeId} {k b N cap N' : Nat} {xs : List Value} (hN : N' ≤ N) (h : W c code K l Ms (.row T k (.slice (some ⟨b, 0, none⟩) N' cap) N' (xs.take (N' * k)) :: μ)) : W c code K l Ms (.row T k (.slice (some ⟨b, 0, none⟩) N cap) N xs :: μ) := by
  unfold W at h ⊢
  refine fun a w hh => h a w ⟨hh.size, hh.defers, hh.slots, hh.mem.sub, hh.mem.fresh, hh.mem.kept, fun r hr => by
    rcases List.mem_cons.1 hr with rfl | hr
    · obtain ⟨hl, h1⟩ := hh.mem.res _ (.head _)
      have hmul : N' * k ≤ N * k := Nat.mul_le_mul_right k hN
      refine ⟨by rw [List.length_take]; omega, ?_⟩
      rcases h1 with ⟨h1, _⟩ | ⟨g, cap', cur, e, q1, q2, q3, q4, q5, q6⟩
      · cases h1
      · cases e
        refine .inr ⟨_, _, cur, rfl, q1, q2, by omega, q4, q5, ?_⟩
        rw [← q6, List.take_take, Nat.min_eq_left hmul]
    · exact hh.mem.res r (.tail _ hr), by simpa [feet, List.filterMap_cons, Res.foot, Value.ownBlock] using hh.mem.nodup, fun b hb => hh.mem.own b (by simpa [feet, List.filterMap_cons, Res.foot, Value.ownBlock] using hb)⟩
end
/-- The examples' house but for the row that is one's own. -/
structure TubAt (m : Mem) (pv kv bv : Value) (f : Nat → Value) : Prop where
  P : IsPieces m pv f (tubH 0).table.pieces
  M : IsMarks m f (tubH 0).table.pieces
  K : IsInts m kv [2]
/-- tub, tubW -/
theorem tubW_any : FnM Try.prog 5 #[vi 0] [] [] (fun q Ms' μ' => ∃ m b pv kv tv sv f, Ms' = [m] ∧ μ' = [.row 55 3 (.slice (some ⟨b, 0, none⟩) 3 3) 3 [vi 1, vi 2, vi 2, vi 1, vi 1, vi 2, vi 2, vi 1, vi 1]] ∧ q = .agg #[.slice (some ⟨b, 0, none⟩) 3 3, pv, vi 0, kv, vi 1, vi 2, tv, .slice none 0 0, sv] ∧ TubAt m pv kv (.slice none 0 0) f ∧ IsTouches m tv tubT ∧ IsSigns m sv []) := by
  refine FnM.of_W (n := 38) Try.func5 rfl rfl (Nat.le_of_ble_eq_true rfl) rfl fun c hr hD hF => ?_
  refine W.seq ?_; refine W.region ?_
  refine WL.alloc rfl rfl rfl (fun b2 => ?_)
  refine WL.nil ?_
  refine Kseq.go (W.seq ?_)
  refine W.region ?_; refine .val (.build2 rfl rfl) rfl rfl rfl ?_; refine .val (.build2 rfl rfl) rfl rfl rfl ?_
  refine WL.abs (OpAbs.lit [_, _, _, _] rfl (Nat.le_of_ble_eq_true rfl) rfl rfl (by simp [Value.cells]) (Nat.le_of_ble_eq_true rfl) rfl (by first | (simp [Value.oneCell']; done) | exact List.all_eq_true.1 rfl)) rfl rfl rfl ?_
  rintro m7 _ ⟨hc7, a7, rfl⟩
  refine .o rfl ?_; refine WL.nil ?_
  refine Kseq.go (W.seq ?_)
  have hS7 := signs_lit hc7
  refine W.region ?_; refine .val (.build2 rfl rfl) rfl rfl rfl ?_; refine .val (.build3 rfl rfl) rfl rfl rfl ?_; refine .val (.build2 rfl rfl) rfl rfl rfl ?_; refine .val (.build3 rfl rfl) rfl rfl rfl ?_; refine .val (.build2 rfl rfl) rfl rfl rfl ?_; refine .val (.build3 rfl rfl) rfl rfl rfl ?_
  (refine WL.lit (vs := [.agg #[vi 1, vi 2, vi 2], .agg #[vi 1, vi 1, vi 2], .agg #[vi 2, vi 1, vi 1]]) [vi 1, vi 2, vi 2, vi 1, vi 1, vi 2, vi 2, vi 1, vi 1] rfl (Nat.le_of_ble_eq_true rfl) rfl rfl (by simp [Value.cells]) (Nat.le_of_ble_eq_true rfl) rfl rfl rfl rfl (fun b14 => ?_))
  refine WL.abs (OpAbs.lit [_] rfl (Nat.le_of_ble_eq_true rfl) rfl rfl (by simp [Value.cells]) (Nat.le_of_ble_eq_true rfl) rfl (by first | (simp [Value.oneCell']; done) | exact List.all_eq_true.1 rfl)) rfl rfl rfl ?_
  rintro m15 _ ⟨hc15, a15, rfl⟩
  refine .val (.build2 rfl rfl) rfl rfl rfl ?_
  refine WL.abs (OpAbs.lit [_, _] rfl (Nat.le_of_ble_eq_true rfl) rfl rfl (by simp [Value.cells]) (Nat.le_of_ble_eq_true rfl) rfl (by first | (simp [Value.oneCell']; done) | exact List.all_eq_true.1 rfl)) rfl rfl rfl ?_
  rintro m17 _ ⟨hc17, a17, rfl⟩
  refine .val (.build2 rfl rfl) rfl rfl rfl ?_
  refine WL.abs (OpAbs.lit [_] rfl (Nat.le_of_ble_eq_true rfl) rfl rfl (by simp [Value.cells]) (Nat.le_of_ble_eq_true rfl) rfl (by first | (simp [Value.oneCell']; done) | exact List.all_eq_true.1 rfl)) rfl rfl rfl ?_
  rintro m19 _ ⟨hc19, a19, rfl⟩
  refine .val (.build2 rfl rfl) rfl rfl rfl ?_
  refine WL.abs (OpAbs.lit [_] rfl (Nat.le_of_ble_eq_true rfl) rfl rfl (by simp [Value.cells]) (Nat.le_of_ble_eq_true rfl) rfl (by first | (simp [Value.oneCell']; done) | exact List.all_eq_true.1 rfl)) rfl rfl rfl ?_
  rintro m21 _ ⟨hc21, a21, rfl⟩
  refine .val (.build2 rfl rfl) rfl rfl rfl ?_
  refine WL.abs (OpAbs.lit [_, _, _, _, _, _, _, _] rfl (Nat.le_of_ble_eq_true rfl) rfl rfl (by simp [Value.cells]) (Nat.le_of_ble_eq_true rfl) rfl (by first | (simp [Value.oneCell']; done) | exact List.all_eq_true.1 rfl)) rfl rfl rfl ?_
  rintro m23 _ ⟨hc23, a23, rfl⟩
  refine .val (.build3 rfl rfl) rfl rfl rfl ?_
  refine WL.alloc rfl rfl rfl (fun b4 => ?_)
  refine WL.store [_, _, _] rfl (.head _) rfl rfl rfl (Nat.le_of_ble_eq_true rfl) (by first | (simp [Value.cells, Value.oneCell']; done) | exact IsArr.ones hW (by omega) | exact IsArr.ones hP (by omega) | exact IsArr.ones hS (by omega) | exact IsArr.ones hH (by omega) | exact IsArr.ones hL (by omega) | exact IsArr.ones hB (by omega) | exact IsArr.ones hT (by omega) | exact IsArr.ones hm (by omega)) rfl ?_
  refine WL.nil ?_
  refine Kseq.go (W.seq ?_)
  let A37 : Mem → Value → Prop := fun m q => ∃ ka kc ta tc, q = .agg #[.slice (some ⟨b14, 0, none⟩) 3 3, .slice (some ⟨a23, 0, none⟩) 4 4, vi 0, .slice ka 1 kc, vi 1, vi 2, .slice ta 3 tc, .slice none 0 0, subV 2 0 0 (.slice (some ⟨a7, 0, none⟩) 2 2)] ∧ IsInts m (.slice ka 1 kc) [2] ∧ IsTouches m (.slice ta 3 tc) tubT
  refine W.draw 12 (by kernel_rfl) (by kernel_rfl) (by kernel_rfl) rfl ?_; refine .val [] (.loadBW rfl (.head _) rfl) rfl rfl rfl rfl ?_; refine DJ.abs (A := fun m q => IsInts m q [2]) [] (OpAbs.mono (OpAbs.lit [vi 2] rfl (Nat.le_of_ble_eq_true rfl) rfl rfl (by simp [Value.cells]) (Nat.le_of_ble_eq_true rfl) rfl (by simp [Value.oneCell'])) (fun m' v' h' => ints_lit (xs := [2]) h'.1)) rfl rfl rfl rfl ?_; refine .val [] (.call rfl (fun m hm => between6_any _ _)) rfl rfl rfl rfl ?_; refine .val [] (.build #[vi 3, vi 4, vi 0, vi 1] rfl (by kernel_rfl)) rfl rfl rfl rfl ?_; refine .val [] (.call rfl (fun m hm => between6_any _ _)) rfl rfl rfl rfl ?_; refine .val [] (.build #[vi 4, vi 0, vi 0, vi 1] rfl (by kernel_rfl)) rfl rfl rfl rfl ?_; refine .val [] (.call rfl (fun m hm => between6_any _ _)) rfl rfl rfl rfl ?_; refine .val [] (.build #[vi 0, vi 1, vi 2, vi 2] rfl (by kernel_rfl)) rfl rfl rfl rfl ?_
  refine DJ.abs (A := fun m q => IsTouches m q tubT) [] (OpAbs.mono (OpAbs.lit [vi 3, vi 4, vi 0, vi 1, vi 4, vi 0, vi 0, vi 1, vi 0, vi 1, vi 2, vi 2] rfl (Nat.le_of_ble_eq_true rfl) rfl rfl (by simp [Value.cells]) (Nat.le_of_ble_eq_true rfl) rfl (by simp [Value.oneCell'])) (fun m' v' h' => touches_lit h'.1)) rfl rfl rfl rfl ?_; refine .val [] (.opv rfl) rfl rfl rfl rfl ?_; refine .val [] (.opv rfl) rfl rfl rfl rfl ?_; refine .val [] (.sliceH rfl rfl hS7 (Nat.zero_le _)) rfl rfl rfl rfl ?_; refine DJ.nil ?_
  rintro m33 v33 h33
  rintro m26 v26 h26
  refine WL.abs (by obtain ⟨ka, kc, rfl⟩ := IsArr.form h26; obtain ⟨ta, tc, rfl⟩ := IsArr.form h33; exact OpAbs.mono (B := A37) (OpAbs.join (OpAbs.ofVal (A := fun m x => x = Value.agg #[.slice (some ⟨b14, 0, none⟩) 3 3, .slice (some ⟨a23, 0, none⟩) 4 4, vi 0, .slice ka 1 kc, vi 1, vi 2, .slice ta 3 tc, .slice none 0 0, subV 2 0 0 (.slice (some ⟨a7, 0, none⟩) 2 2)] ∧ IsInts m (.slice ka 1 kc) [2]) (OpVal.build #[.slice (some ⟨b14, 0, none⟩) 3 3, .slice (some ⟨a23, 0, none⟩) 4 4, vi 0, .slice ka 1 kc, vi 1, vi 2, .slice ta 3 tc, .slice none 0 0, subV 2 0 0 (.slice (some ⟨a7, 0, none⟩) 2 2)] rfl (by kernel_rfl)) (m := m26) (by repeat constructor) ⟨rfl, h26⟩) (m := m33) (by repeat constructor)) (fun m x hx => by obtain ⟨m1, l1, l2, e, hh⟩ := hx; exact ⟨_, _, _, _, e, hh.le l1, IsTouches.le h33 l2⟩)) rfl rfl rfl ?_
  rintro m37 v37 h37
  obtain ⟨ka, kc, ta, tc, rfl, hK, hT⟩ := h37
  (refine WL.store [_, _, _, _, _, _, _, _, _] rfl (.tail _ (.tail _ (.head _))) rfl rfl rfl (Nat.le_of_ble_eq_true rfl) (by simp [subV, Value.cells, Value.oneCell']) rfl ?_)
  refine WL.nil ?_; refine Kseq.go ?_
  refine W.join fun mj hj => ?_
  let F : Nat → Value := fun i => [.slice (some ⟨a15, 0, none⟩) 1 1, .slice (some ⟨a17, 0, none⟩) 2 2, .slice (some ⟨a19, 0, none⟩) 1 1, .slice (some ⟨a21, 0, none⟩) 1 1].getD i undef
  have hPc : IsPieces mj (.slice (some ⟨a23, 0, none⟩) 4 4) F (tubH 0).table.pieces := by
    refine ((hc23.2).congr fun i j hi hj' => ?_).le (hj _ (by simp))
    have h0 : i < 4 := hi
    have h1 : i = 0 ∨ i = 1 ∨ i = 2 ∨ i = 3 := by omega
    have h2 : j = 0 ∨ j = 1 := by omega
    rcases h1 with rfl | rfl | rfl | rfl <;> rcases h2 with rfl | rfl <;> rfl
  have hMc : IsMarks mj F (tubH 0).table.pieces := by
    intro i hi
    have h0 : i < 4 := hi
    have h1 : i = 0 ∨ i = 1 ∨ i = 2 ∨ i = 3 := by omega
    rcases h1 with rfl | rfl | rfl | rfl
    · exact (ints_lit (xs := [1]) hc15).le (hj _ (by simp))
    · exact (ints_lit (xs := [1, 2]) hc17).le (hj _ (by simp))
    · exact (ints_lit (xs := [1]) hc19).le (hj _ (by simp))
    · exact (ints_lit (xs := [2]) hc21).le (hj _ (by simp))
  refine W.ret ?_; skip
  refine ⟨.inl rfl, [_], [mj], [.row 55 3 (.slice (some ⟨b14, 0, none⟩) 3 3) 3 [vi 1, vi 2, vi 2, vi 1, vi 1, vi 2, vi 2, vi 1, vi 1]], ⟨.agg inferInstance inferInstance rfl (by repeat constructor) rfl, trivial⟩, ?_, by simp, .cons _ (.cons_cons _ (List.nil_sublist _)), by simp [markOf]⟩
  exact ⟨mj, b14, _, _, _, _, F, rfl, rfl, rfl, ⟨hPc, hMc, hK.le (hj _ (by simp))⟩, hT.le (hj _ (by simp)), (signs_pre hS7 (k := 0) (by omega)).le (hj _ (by simp))⟩
/-- tub, tubS -/
theorem tubS_any : FnM Try.prog 5 #[vi 1] [] [] (fun q Ms' μ' => ∃ m b wv pv kv tv f, Ms' = [m] ∧ μ' = [.row 57 2 (.slice (some ⟨b, 0, none⟩) 1 2) 1 [vi 0, .bool false]] ∧ q = .agg #[wv, pv, vi 0, kv, vi 1, vi 2, tv, .slice none 0 0, .slice (some ⟨b, 0, none⟩) 1 2] ∧ TubAt m pv kv (.slice none 0 0) f ∧ IsWomen m wv (tubH 0).table.women ∧ IsTouches m tv tubT) := by
  refine FnM.of_W (n := 38) Try.func5 rfl rfl (Nat.le_of_ble_eq_true rfl) rfl fun c hr hD hF => ?_
  refine W.seq ?_; refine W.region ?_
  refine WL.alloc rfl rfl rfl (fun b2 => ?_)
  refine WL.nil ?_
  refine Kseq.go (W.seq ?_)
  refine W.region ?_; refine .val (.build2 rfl rfl) rfl rfl rfl ?_; refine .val (.build2 rfl rfl) rfl rfl rfl ?_
  (refine WL.lit (vs := [.agg #[vi 0, .bool false], .agg #[vi 1, .bool true]]) [vi 0, .bool false, vi 1, .bool true] rfl (Nat.le_of_ble_eq_true rfl) rfl rfl (by simp [Value.cells]) (Nat.le_of_ble_eq_true rfl) rfl rfl rfl rfl (fun b7 => ?_))
  refine .o rfl ?_; refine WL.nil ?_
  refine Kseq.go (W.seq ?_)
  refine W.region ?_; refine .val (.build2 rfl rfl) rfl rfl rfl ?_; refine .val (.build3 rfl rfl) rfl rfl rfl ?_; refine .val (.build2 rfl rfl) rfl rfl rfl ?_; refine .val (.build3 rfl rfl) rfl rfl rfl ?_; refine .val (.build2 rfl rfl) rfl rfl rfl ?_; refine .val (.build3 rfl rfl) rfl rfl rfl ?_
  refine WL.abs (OpAbs.lit [_, _, _, _, _, _, _, _, _] rfl (Nat.le_of_ble_eq_true rfl) rfl rfl (by simp [Value.cells]) (Nat.le_of_ble_eq_true rfl) rfl (by first | (simp [Value.oneCell']; done) | exact List.all_eq_true.1 rfl)) rfl rfl rfl ?_
  rintro m14 _ ⟨hc14, a14, rfl⟩
  refine WL.abs (OpAbs.lit [_] rfl (Nat.le_of_ble_eq_true rfl) rfl rfl (by simp [Value.cells]) (Nat.le_of_ble_eq_true rfl) rfl (by first | (simp [Value.oneCell']; done) | exact List.all_eq_true.1 rfl)) rfl rfl rfl ?_
  rintro m15 _ ⟨hc15, a15, rfl⟩
  refine .val (.build2 rfl rfl) rfl rfl rfl ?_
  refine WL.abs (OpAbs.lit [_, _] rfl (Nat.le_of_ble_eq_true rfl) rfl rfl (by simp [Value.cells]) (Nat.le_of_ble_eq_true rfl) rfl (by first | (simp [Value.oneCell']; done) | exact List.all_eq_true.1 rfl)) rfl rfl rfl ?_
  rintro m17 _ ⟨hc17, a17, rfl⟩
  refine .val (.build2 rfl rfl) rfl rfl rfl ?_
  refine WL.abs (OpAbs.lit [_] rfl (Nat.le_of_ble_eq_true rfl) rfl rfl (by simp [Value.cells]) (Nat.le_of_ble_eq_true rfl) rfl (by first | (simp [Value.oneCell']; done) | exact List.all_eq_true.1 rfl)) rfl rfl rfl ?_
  rintro m19 _ ⟨hc19, a19, rfl⟩
  refine .val (.build2 rfl rfl) rfl rfl rfl ?_
  refine WL.abs (OpAbs.lit [_] rfl (Nat.le_of_ble_eq_true rfl) rfl rfl (by simp [Value.cells]) (Nat.le_of_ble_eq_true rfl) rfl (by first | (simp [Value.oneCell']; done) | exact List.all_eq_true.1 rfl)) rfl rfl rfl ?_
  rintro m21 _ ⟨hc21, a21, rfl⟩
  refine .val (.build2 rfl rfl) rfl rfl rfl ?_
  refine WL.abs (OpAbs.lit [_, _, _, _, _, _, _, _] rfl (Nat.le_of_ble_eq_true rfl) rfl rfl (by simp [Value.cells]) (Nat.le_of_ble_eq_true rfl) rfl (by first | (simp [Value.oneCell']; done) | exact List.all_eq_true.1 rfl)) rfl rfl rfl ?_
  rintro m23 _ ⟨hc23, a23, rfl⟩
  refine .val (.build3 rfl rfl) rfl rfl rfl ?_
  refine WL.alloc rfl rfl rfl (fun b4 => ?_)
  refine WL.store [_, _, _] rfl (.head _) rfl rfl rfl (Nat.le_of_ble_eq_true rfl) (by first | (simp [Value.cells, Value.oneCell']; done) | exact IsArr.ones hW (by omega) | exact IsArr.ones hP (by omega) | exact IsArr.ones hS (by omega) | exact IsArr.ones hH (by omega) | exact IsArr.ones hL (by omega) | exact IsArr.ones hB (by omega) | exact IsArr.ones hT (by omega) | exact IsArr.ones hm (by omega)) rfl ?_
  refine WL.nil ?_
  refine Kseq.go (W.seq ?_)
  let A37 : Mem → Value → Prop := fun m q => ∃ ka kc ta tc, q = .agg #[.slice (some ⟨a14, 0, none⟩) 3 3, .slice (some ⟨a23, 0, none⟩) 4 4, vi 0, .slice ka 1 kc, vi 1, vi 2, .slice ta 3 tc, .slice none 0 0, subV 2 0 1 (.slice (some ⟨b7, 0, none⟩) 2 2)] ∧ IsInts m (.slice ka 1 kc) [2] ∧ IsTouches m (.slice ta 3 tc) tubT
  refine W.draw 12 (by kernel_rfl) (by kernel_rfl) (by kernel_rfl) rfl ?_; refine .val [] (.loadBW rfl (.head _) rfl) rfl rfl rfl rfl ?_; refine DJ.abs (A := fun m q => IsInts m q [2]) [] (OpAbs.mono (OpAbs.lit [vi 2] rfl (Nat.le_of_ble_eq_true rfl) rfl rfl (by simp [Value.cells]) (Nat.le_of_ble_eq_true rfl) rfl (by simp [Value.oneCell'])) (fun m' v' h' => ints_lit (xs := [2]) h'.1)) rfl rfl rfl rfl ?_; refine .val [] (.call rfl (fun m hm => between6_any _ _)) rfl rfl rfl rfl ?_; refine .val [] (.build #[vi 3, vi 4, vi 0, vi 1] rfl (by kernel_rfl)) rfl rfl rfl rfl ?_; refine .val [] (.call rfl (fun m hm => between6_any _ _)) rfl rfl rfl rfl ?_; refine .val [] (.build #[vi 4, vi 0, vi 0, vi 1] rfl (by kernel_rfl)) rfl rfl rfl rfl ?_; refine .val [] (.call rfl (fun m hm => between6_any _ _)) rfl rfl rfl rfl ?_; refine .val [] (.build #[vi 0, vi 1, vi 2, vi 2] rfl (by kernel_rfl)) rfl rfl rfl rfl ?_
  refine DJ.abs (A := fun m q => IsTouches m q tubT) [] (OpAbs.mono (OpAbs.lit [vi 3, vi 4, vi 0, vi 1, vi 4, vi 0, vi 0, vi 1, vi 0, vi 1, vi 2, vi 2] rfl (Nat.le_of_ble_eq_true rfl) rfl rfl (by simp [Value.cells]) (Nat.le_of_ble_eq_true rfl) rfl (by simp [Value.oneCell'])) (fun m' v' h' => touches_lit h'.1)) rfl rfl rfl rfl ?_; refine .val [] (.opv rfl) rfl rfl rfl rfl ?_; refine .val [] (.opv rfl) rfl rfl rfl rfl ?_
  refine .val [] (OpVal.sliceC (hi' := 1) rfl rfl (by decide) (by decide) (by unfold maxLen; omega)) rfl rfl rfl rfl ?_
  refine DJ.nil ?_
  rintro m33 v33 h33
  rintro m26 v26 h26
  refine WL.abs (by obtain ⟨ka, kc, rfl⟩ := IsArr.form h26; obtain ⟨ta, tc, rfl⟩ := IsArr.form h33; exact OpAbs.mono (B := A37) (OpAbs.join (OpAbs.ofVal (A := fun m x => x = Value.agg #[.slice (some ⟨a14, 0, none⟩) 3 3, .slice (some ⟨a23, 0, none⟩) 4 4, vi 0, .slice ka 1 kc, vi 1, vi 2, .slice ta 3 tc, .slice none 0 0, subV 2 0 1 (.slice (some ⟨b7, 0, none⟩) 2 2)] ∧ IsInts m (.slice ka 1 kc) [2]) (OpVal.build #[.slice (some ⟨a14, 0, none⟩) 3 3, .slice (some ⟨a23, 0, none⟩) 4 4, vi 0, .slice ka 1 kc, vi 1, vi 2, .slice ta 3 tc, .slice none 0 0, subV 2 0 1 (.slice (some ⟨b7, 0, none⟩) 2 2)] rfl (by kernel_rfl)) (m := m26) (by repeat constructor) ⟨rfl, h26⟩) (m := m33) (by repeat constructor)) (fun m x hx => by obtain ⟨m1, l1, l2, e, hh⟩ := hx; exact ⟨_, _, _, _, e, hh.le l1, IsTouches.le h33 l2⟩)) rfl rfl rfl ?_
  rintro m37 v37 h37
  obtain ⟨ka, kc, ta, tc, rfl, hK, hT⟩ := h37
  (refine WL.store [_, _, _, _, _, _, _, _, _] rfl (.tail _ (.tail _ (.head _))) rfl rfl rfl (Nat.le_of_ble_eq_true rfl) (by simp [subV, Value.cells, Value.oneCell']) rfl ?_)
  refine WL.nil ?_; refine Kseq.go ?_; refine W.weaken [(2, .pointer (some ⟨b2, 0, none⟩))] _ _ (by repeat (first | exact trivial | refine ⟨rfl, ?_⟩)) (fun _ h => h) (.cons _ (.refl _)) ?_; refine W.cutRow (N' := 1) (by omega) ?_
  refine W.join fun mj hj => ?_
  let F : Nat → Value := fun i => [.slice (some ⟨a15, 0, none⟩) 1 1, .slice (some ⟨a17, 0, none⟩) 2 2, .slice (some ⟨a19, 0, none⟩) 1 1, .slice (some ⟨a21, 0, none⟩) 1 1].getD i undef
  have hWc : IsWomen mj (.slice (some ⟨a14, 0, none⟩) 3 3) (tubH 0).table.women := by
    refine ((hc14.2).congr fun i j hi hj' => ?_).le (hj _ (by simp))
    have h0 : i < 3 := hi
    have h1 : i = 0 ∨ i = 1 ∨ i = 2 := by omega
    have h2 : j = 0 ∨ j = 1 ∨ j = 2 := by omega
    rcases h1 with rfl | rfl | rfl <;> rcases h2 with rfl | rfl | rfl <;> rfl
  have hPc : IsPieces mj (.slice (some ⟨a23, 0, none⟩) 4 4) F (tubH 0).table.pieces := by
    refine ((hc23.2).congr fun i j hi hj' => ?_).le (hj _ (by simp))
    have h0 : i < 4 := hi
    have h1 : i = 0 ∨ i = 1 ∨ i = 2 ∨ i = 3 := by omega
    have h2 : j = 0 ∨ j = 1 := by omega
    rcases h1 with rfl | rfl | rfl | rfl <;> rcases h2 with rfl | rfl <;> rfl
  have hMc : IsMarks mj F (tubH 0).table.pieces := by
    intro i hi
    have h0 : i < 4 := hi
    have h1 : i = 0 ∨ i = 1 ∨ i = 2 ∨ i = 3 := by omega
    rcases h1 with rfl | rfl | rfl | rfl
    · exact (ints_lit (xs := [1]) hc15).le (hj _ (by simp))
    · exact (ints_lit (xs := [1, 2]) hc17).le (hj _ (by simp))
    · exact (ints_lit (xs := [1]) hc19).le (hj _ (by simp))
    · exact (ints_lit (xs := [2]) hc21).le (hj _ (by simp))
  refine W.ret ?_; skip
  refine ⟨.inl rfl, [_], [mj], [.row 57 2 (.slice (some ⟨b7, 0, none⟩) 1 2) 1 [vi 0, .bool false]], ⟨.agg inferInstance inferInstance rfl (by repeat constructor) rfl, trivial⟩, ?_, by simp, .cons_cons _ (List.nil_sublist _), by simp [markOf]⟩
  exact ⟨mj, b7, _, _, _, _, F, rfl, rfl, rfl, ⟨hPc, hMc, hK.le (hj _ (by simp))⟩, hWc, hT.le (hj _ (by simp))⟩
/-- tub, tubT -/
theorem tubT_any : FnM Try.prog 5 #[vi 0] [] [] (fun q Ms' μ' => ∃ m b wv pv kv sv f, Ms' = [m] ∧ μ' = [.row 52 4 (.slice (some ⟨b, 0, none⟩) 3 3) 3 [vi 3, vi 4, vi 0, vi 1, vi 4, vi 0, vi 0, vi 1, vi 0, vi 1, vi 2, vi 2]] ∧ q = .agg #[wv, pv, vi 0, kv, vi 1, vi 2, .slice (some ⟨b, 0, none⟩) 3 3, .slice none 0 0, sv] ∧ TubAt m pv kv (.slice none 0 0) f ∧ IsWomen m wv (tubH 0).table.women ∧ IsSigns m sv []) := by
  refine FnM.of_W (n := 38) Try.func5 rfl rfl (Nat.le_of_ble_eq_true rfl) rfl fun c hr hD hF => ?_
  refine W.seq ?_; refine W.region ?_
  refine WL.alloc rfl rfl rfl (fun b2 => ?_)
  refine WL.nil ?_
  refine Kseq.go (W.seq ?_)
  refine W.region ?_; refine .val (.build2 rfl rfl) rfl rfl rfl ?_; refine .val (.build2 rfl rfl) rfl rfl rfl ?_
  refine WL.abs (OpAbs.lit [_, _, _, _] rfl (Nat.le_of_ble_eq_true rfl) rfl rfl (by simp [Value.cells]) (Nat.le_of_ble_eq_true rfl) rfl (by first | (simp [Value.oneCell']; done) | exact List.all_eq_true.1 rfl)) rfl rfl rfl ?_
  rintro m7 _ ⟨hc7, a7, rfl⟩
  refine .o rfl ?_; refine WL.nil ?_
  refine Kseq.go (W.seq ?_)
  have hS7 := signs_lit hc7
  refine W.region ?_; refine .val (.build2 rfl rfl) rfl rfl rfl ?_; refine .val (.build3 rfl rfl) rfl rfl rfl ?_; refine .val (.build2 rfl rfl) rfl rfl rfl ?_; refine .val (.build3 rfl rfl) rfl rfl rfl ?_; refine .val (.build2 rfl rfl) rfl rfl rfl ?_; refine .val (.build3 rfl rfl) rfl rfl rfl ?_
  refine WL.abs (OpAbs.lit [_, _, _, _, _, _, _, _, _] rfl (Nat.le_of_ble_eq_true rfl) rfl rfl (by simp [Value.cells]) (Nat.le_of_ble_eq_true rfl) rfl (by first | (simp [Value.oneCell']; done) | exact List.all_eq_true.1 rfl)) rfl rfl rfl ?_
  rintro m14 _ ⟨hc14, a14, rfl⟩
  refine WL.abs (OpAbs.lit [_] rfl (Nat.le_of_ble_eq_true rfl) rfl rfl (by simp [Value.cells]) (Nat.le_of_ble_eq_true rfl) rfl (by first | (simp [Value.oneCell']; done) | exact List.all_eq_true.1 rfl)) rfl rfl rfl ?_
  rintro m15 _ ⟨hc15, a15, rfl⟩
  refine .val (.build2 rfl rfl) rfl rfl rfl ?_
  refine WL.abs (OpAbs.lit [_, _] rfl (Nat.le_of_ble_eq_true rfl) rfl rfl (by simp [Value.cells]) (Nat.le_of_ble_eq_true rfl) rfl (by first | (simp [Value.oneCell']; done) | exact List.all_eq_true.1 rfl)) rfl rfl rfl ?_
  rintro m17 _ ⟨hc17, a17, rfl⟩
  refine .val (.build2 rfl rfl) rfl rfl rfl ?_
  refine WL.abs (OpAbs.lit [_] rfl (Nat.le_of_ble_eq_true rfl) rfl rfl (by simp [Value.cells]) (Nat.le_of_ble_eq_true rfl) rfl (by first | (simp [Value.oneCell']; done) | exact List.all_eq_true.1 rfl)) rfl rfl rfl ?_
  rintro m19 _ ⟨hc19, a19, rfl⟩
  refine .val (.build2 rfl rfl) rfl rfl rfl ?_
  refine WL.abs (OpAbs.lit [_] rfl (Nat.le_of_ble_eq_true rfl) rfl rfl (by simp [Value.cells]) (Nat.le_of_ble_eq_true rfl) rfl (by first | (simp [Value.oneCell']; done) | exact List.all_eq_true.1 rfl)) rfl rfl rfl ?_
  rintro m21 _ ⟨hc21, a21, rfl⟩
  refine .val (.build2 rfl rfl) rfl rfl rfl ?_
  refine WL.abs (OpAbs.lit [_, _, _, _, _, _, _, _] rfl (Nat.le_of_ble_eq_true rfl) rfl rfl (by simp [Value.cells]) (Nat.le_of_ble_eq_true rfl) rfl (by first | (simp [Value.oneCell']; done) | exact List.all_eq_true.1 rfl)) rfl rfl rfl ?_
  rintro m23 _ ⟨hc23, a23, rfl⟩
  refine .val (.build3 rfl rfl) rfl rfl rfl ?_
  refine WL.alloc rfl rfl rfl (fun b4 => ?_)
  refine WL.store [_, _, _] rfl (.head _) rfl rfl rfl (Nat.le_of_ble_eq_true rfl) (by first | (simp [Value.cells, Value.oneCell']; done) | exact IsArr.ones hW (by omega) | exact IsArr.ones hP (by omega) | exact IsArr.ones hS (by omega) | exact IsArr.ones hH (by omega) | exact IsArr.ones hL (by omega) | exact IsArr.ones hB (by omega) | exact IsArr.ones hT (by omega) | exact IsArr.ones hm (by omega)) rfl ?_
  refine WL.nil ?_
  refine Kseq.go (W.seq ?_)
  refine W.join fun m0 hm0 => ?_
  let l0 : List (Nat × Value) := [(0, vi 0), (2, .pointer (some ⟨b2, 0, none⟩)), (3, .slice (some ⟨a7, 0, none⟩) 2 2), (4, .pointer (some ⟨b4, 0, none⟩))]
  let μ0 : List Res := [.blk b4 #[.slice (some ⟨a14, 0, none⟩) 3 3, .slice (some ⟨a23, 0, none⟩) 4 4, vi 0] 29, .blk b2 #[.slice none 0 0, .slice none 0 0, vi 0, .slice none 0 0, vi 0, vi 0, .slice none 0 0, .slice none 0 0, .slice none 0 0] 34]
  refine W.weaken l0 [m0] μ0 (by repeat (first | exact trivial | refine ⟨rfl, ?_⟩)) (by simp) (.refl _) ?_; refine W.drawN (γ := Ph1 Nat) .a 12 [8] (Ph1.sel l0 (fun b => (33, .slice (some ⟨b, 0, none⟩) 3 3) :: l0)) (Ph1.sel μ0 (fun b => .row 52 4 (.slice (some ⟨b, 0, none⟩) 3 3) 3 [vi 3, vi 4, vi 0, vi 1, vi 4, vi 0, vi 0, vi 1, vi 0, vi 1, vi 2, vi 2] :: μ0)) Ph1.num (by kernel_rfl) (by kernel_rfl) (by kernel_rfl) rfl Ph1.le (Ph1.all rfl (fun _ => rfl)) rfl rfl ?_; refine DJN.val [] (Ph1.all (fun hg => (show OpVal _ _ _ _ _ (Value.agg #[.slice (some ⟨a14, 0, none⟩) 3 3, .slice (some ⟨a23, 0, none⟩) 4 4, vi 0]) from by first | exact OpVal.loadBW rfl (.head _) rfl | exact OpVal.loadBW rfl (.tail _ (.head _)) rfl)) (fun x1 hg => (show OpVal _ _ _ _ _ (Value.agg #[.slice (some ⟨a14, 0, none⟩) 3 3, .slice (some ⟨a23, 0, none⟩) 4 4, vi 0]) from by first | exact OpVal.loadBW rfl (.head _) rfl | exact OpVal.loadBW rfl (.tail _ (.head _)) rfl))) (Ph1.all (fun hg => rfl) (fun x1 hg => rfl)) rfl rfl (Ph1.all rfl (fun _ => rfl)) rfl ?_
  refine DJN.abs (A := fun m q => IsInts m q [2]) [] (Ph1.all (fun hg => (OpAbs.mono (OpAbs.lit [vi 2] rfl (Nat.le_of_ble_eq_true rfl) rfl rfl (by simp [Value.cells]) (Nat.le_of_ble_eq_true rfl) rfl (by simp [Value.oneCell'])) (fun m' v' h' => ints_lit (xs := [2]) h'.1))) (fun x1 hg => (OpAbs.mono (OpAbs.lit [vi 2] rfl (Nat.le_of_ble_eq_true rfl) rfl rfl (by simp [Value.cells]) (Nat.le_of_ble_eq_true rfl) rfl (by simp [Value.oneCell'])) (fun m' v' h' => ints_lit (xs := [2]) h'.1)))) (Ph1.all (fun hg => rfl) (fun x1 hg => rfl)) rfl rfl (Ph1.all rfl (fun _ => rfl)) rfl ?_; refine DJN.val [] (Ph1.all (fun hg => OpVal.call rfl (fun m hm => between6_any _ _)) (fun x1 hg => OpVal.call rfl (fun m hm => between6_any _ _))) (Ph1.all (fun hg => rfl) (fun x1 hg => rfl)) rfl rfl (Ph1.all rfl (fun _ => rfl)) rfl ?_; refine DJN.val [] (Ph1.all (fun hg => OpVal.build #[vi 3, vi 4, vi 0, vi 1] rfl (by kernel_rfl)) (fun x1 hg => Bool.noConfusion (show false = true from hg))) (Ph1.all (fun hg => rfl) (fun x1 hg => Bool.noConfusion (show false = true from hg))) rfl rfl (Ph1.all rfl (fun _ => rfl)) rfl ?_
  refine DJN.val [] (Ph1.all (fun hg => OpVal.call rfl (fun m hm => between6_any _ _)) (fun x1 hg => OpVal.call rfl (fun m hm => between6_any _ _))) (Ph1.all (fun hg => rfl) (fun x1 hg => rfl)) rfl rfl (Ph1.all rfl (fun _ => rfl)) rfl ?_; refine DJN.val [] (Ph1.all (fun hg => OpVal.build #[vi 4, vi 0, vi 0, vi 1] rfl (by kernel_rfl)) (fun x1 hg => Bool.noConfusion (show false = true from hg))) (Ph1.all (fun hg => rfl) (fun x1 hg => Bool.noConfusion (show false = true from hg))) rfl rfl (Ph1.all rfl (fun _ => rfl)) rfl ?_; refine DJN.val [] (Ph1.all (fun hg => OpVal.call rfl (fun m hm => between6_any _ _)) (fun x1 hg => OpVal.call rfl (fun m hm => between6_any _ _))) (Ph1.all (fun hg => rfl) (fun x1 hg => rfl)) rfl rfl (Ph1.all rfl (fun _ => rfl)) rfl ?_; refine DJN.val [] (Ph1.all (fun hg => OpVal.build #[vi 0, vi 1, vi 2, vi 2] rfl (by kernel_rfl)) (fun x1 hg => Bool.noConfusion (show false = true from hg))) (Ph1.all (fun hg => rfl) (fun x1 hg => Bool.noConfusion (show false = true from hg))) rfl rfl (Ph1.all rfl (fun _ => rfl)) rfl ?_
  refine DJN.eff 0 [(28, _), (30, _), (32, _)] ⟨rfl, rfl, rfl, trivial⟩ rfl rfl [] trivial (Ph1.all (fun hg => ⟨rfl, fun M2 hM2 => ?_⟩) (fun x1 hg => absurd hg (by simp [Ph1.num]))) ?_
  · (refine WL.lit (vs := [.agg #[vi 3, vi 4, vi 0, vi 1], .agg #[vi 4, vi 0, vi 0, vi 1], .agg #[vi 0, vi 1, vi 2, vi 2]]) [vi 3, vi 4, vi 0, vi 1, vi 4, vi 0, vi 0, vi 1, vi 0, vi 1, vi 2, vi 2] rfl (Nat.le_of_ble_eq_true rfl) rfl rfl (by simp [Value.cells]) (Nat.le_of_ble_eq_true rfl) rfl rfl rfl rfl (fun b33 => ?_); exact WL.nil ⟨.b b33, rfl, Keff.intro (by repeat (first | exact trivial | refine ⟨rfl, ?_⟩)) (fun x hx => hx) (.refl _)⟩)
  refine DJN.val [] (Ph1.all (fun hg => OpVal.opv rfl) (fun x1 hg => OpVal.opv rfl)) (Ph1.all (fun hg => rfl) (fun x1 hg => rfl)) rfl rfl (Ph1.all rfl (fun _ => rfl)) rfl ?_; refine DJN.val [] (Ph1.all (fun hg => OpVal.opv rfl) (fun x1 hg => OpVal.opv rfl)) (Ph1.all (fun hg => rfl) (fun x1 hg => rfl)) rfl rfl (Ph1.all rfl (fun _ => rfl)) rfl ?_; refine DJN.val [] (Ph1.all (fun hg => OpVal.sliceH rfl rfl hS7 (Nat.zero_le _)) (fun x1 hg => OpVal.sliceH rfl rfl hS7 (Nat.zero_le _))) (Ph1.all (fun hg => rfl) (fun x1 hg => rfl)) rfl rfl (Ph1.all rfl (fun _ => rfl)) rfl ?_
  refine DJN.nil (Ph1.all (fun hg => absurd hg (by simp [Ph1.num])) (fun x1 hg => ?_))
  rintro m26 v26 h26
  obtain ⟨ka, kc, rfl⟩ := IsArr.form h26
  refine .val (.build #[.slice (some ⟨a14, 0, none⟩) 3 3, .slice (some ⟨a23, 0, none⟩) 4 4, vi 0, .slice ka 1 kc, vi 1, vi 2, .slice (some ⟨x1, 0, none⟩) 3 3, .slice none 0 0, subV 2 0 0 (.slice (some ⟨a7, 0, none⟩) 2 2)] rfl (by kernel_rfl)) rfl rfl rfl ?_
  (refine WL.store [_, _, _, _, _, _, _, _, _] rfl (.tail _ (.tail _ (.head _))) rfl rfl rfl (Nat.le_of_ble_eq_true rfl) (by simp [subV, Value.cells, Value.oneCell']) rfl ?_)
  refine WL.nil ?_; refine Kseq.go ?_
  refine W.join fun mj hj => ?_
  have hj2 := fun m' h' => (hm0 m' h').trans (hj m0 (by simp))
  let F : Nat → Value := fun i => [.slice (some ⟨a15, 0, none⟩) 1 1, .slice (some ⟨a17, 0, none⟩) 2 2, .slice (some ⟨a19, 0, none⟩) 1 1, .slice (some ⟨a21, 0, none⟩) 1 1].getD i undef
  have hWc : IsWomen mj (.slice (some ⟨a14, 0, none⟩) 3 3) (tubH 0).table.women := by
    refine ((hc14.2).congr fun i j hi hj' => ?_).le (hj2 _ (by simp))
    have h0 : i < 3 := hi
    have h1 : i = 0 ∨ i = 1 ∨ i = 2 := by omega
    have h2 : j = 0 ∨ j = 1 ∨ j = 2 := by omega
    rcases h1 with rfl | rfl | rfl <;> rcases h2 with rfl | rfl | rfl <;> rfl
  have hPc : IsPieces mj (.slice (some ⟨a23, 0, none⟩) 4 4) F (tubH 0).table.pieces := by
    refine ((hc23.2).congr fun i j hi hj' => ?_).le (hj2 _ (by simp))
    have h0 : i < 4 := hi
    have h1 : i = 0 ∨ i = 1 ∨ i = 2 ∨ i = 3 := by omega
    have h2 : j = 0 ∨ j = 1 := by omega
    rcases h1 with rfl | rfl | rfl | rfl <;> rcases h2 with rfl | rfl <;> rfl
  have hMc : IsMarks mj F (tubH 0).table.pieces := by
    intro i hi
    have h0 : i < 4 := hi
    have h1 : i = 0 ∨ i = 1 ∨ i = 2 ∨ i = 3 := by omega
    rcases h1 with rfl | rfl | rfl | rfl
    · exact (ints_lit (xs := [1]) hc15).le (hj2 _ (by simp))
    · exact (ints_lit (xs := [1, 2]) hc17).le (hj2 _ (by simp))
    · exact (ints_lit (xs := [1]) hc19).le (hj2 _ (by simp))
    · exact (ints_lit (xs := [2]) hc21).le (hj2 _ (by simp))
  refine W.ret ?_; skip
  refine ⟨.inl rfl, [_], [mj], [.row 52 4 (.slice (some ⟨x1, 0, none⟩) 3 3) 3 [vi 3, vi 4, vi 0, vi 1, vi 4, vi 0, vi 0, vi 1, vi 0, vi 1, vi 2, vi 2]], ⟨.agg inferInstance inferInstance rfl (by repeat constructor) rfl, trivial⟩, ?_, by simp, .cons_cons _ (List.nil_sublist _), by simp [markOf]⟩
  exact ⟨mj, x1, _, _, _, _, F, rfl, rfl, rfl, ⟨hPc, hMc, IsInts.le h26 (hj m26 (by simp))⟩, hWc, (signs_pre hS7 (k := 0) (by omega)).le (hj2 _ (by simp))⟩
end Go.Proofs.Ytdnbkjgbehakpaa
