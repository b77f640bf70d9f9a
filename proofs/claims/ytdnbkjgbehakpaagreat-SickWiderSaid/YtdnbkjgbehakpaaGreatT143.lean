/- The statement SickWider: its contract. -/
import Derived.Test.YtdnbkjgbehakpaaGreatP38
import Derived.Test.YtdnbkjgbehakpaaGreatPH1
import Derived.Test.YtdnbkjgbehakpaaGreatT136
namespace Go.Proofs.YtdnbkjgbehakpaaGreat
open Go Go.Eng Go.RowKit

section
variable {P : Program} {n : Nat} {c : Cx P n} {l : List (Nat × Value)} {Ms : List Mem} {μ : List Res} {dst : Option Tmp} {x y : Operand} {t t' ty : TypeId} {pos : String} {af : Array Edge} {gd : Option (Nat × Bool)}
theorem OpVal.nilCheck6 {T : TypeId} {v : Value} {k i off N : Nat} {xs : List Value} (hx : lk l x = some (EP v k i off)) (hr : Res.row T k v N xs ∈ μ) (hlt : i < N) : OpVal c ⟨dst, .nilCheck x, ty, pos, af, gd⟩ l Ms μ (EP v k i off) :=
  OpVal.of_runs (by simp) (by simp) fun a w hh => by
    obtain ⟨a0, cap, rfl, h0⟩ := row_form (hh.mem.res _ hr)
    obtain ⟨b, rfl⟩ := h0 (by omega)
    simp [execOp, hh.lk hx, EP]
end
theorem touch_cut {ws : List Touch} {i : Nat} (hi : i < ws.length) : ∃ a b, ws = a ++ ws.getD i default :: b ∧ a.length = i ∧ ∀ w, ws.set i w = a ++ w :: b := by
  refine ⟨ws.take i, ws.drop (i + 1), ?_, by rw [List.length_take]; omega, fun w => by rw [List.set_eq_take_append_cons_drop, if_pos hi]⟩
  rw [List.getD_eq_getElem?_getD, List.getElem?_eq_getElem hi]
  simp
theorem touch_flat (a b : List Touch) (w : Touch) : flatv ((a ++ w :: b).map tv4) = flatv (a.map tv4) ++ ([vi w.a, vi w.b, vi w.lo, vi w.hi] ++ flatv (b.map tv4)) := by
  unfold flatv
  rw [List.map_append, List.map_cons, List.flatMap_append]; rfl
theorem touch_len (bs : List Touch) : (flatv (bs.map tv4)).length = bs.length * 4 := by
  unfold flatv
  rw [List.flatMap_map]
  exact flat_len _ _ 4 fun _ _ => rfl
theorem touch_lo {ws : List Touch} {i : Nat} (hi : i < ws.length) (x : Int) : (flatv (ws.map tv4)).take (i * 4 + 2) ++ ((vi x).cells.toList ++ (flatv (ws.map tv4)).drop (i * 4 + 2 + 1)) = flatv ((ws.set i ⟨(ws.getD i default).a, (ws.getD i default).b, x, (ws.getD i default).hi⟩).map tv4) := by
  obtain ⟨a, b, e, hl, hset⟩ := touch_cut hi
  rw [hset]
  generalize ws.getD i default = w at *
  subst e
  rw [touch_flat, touch_flat]
  have hf := touch_len a
  generalize flatv (a.map tv4) = A at *
  generalize flatv (b.map tv4) = B at *
  rw [List.take_append, List.take_of_length_le (by omega), hf, hl, show i * 4 + 2 - i * 4 = 2 by omega, List.drop_append, List.drop_of_length_le (by omega), hf, hl, show i * 4 + 2 + 1 - i * 4 = 3 by omega]
  simp [Value.cells]
theorem touch_hi {ws : List Touch} {i : Nat} (hi : i < ws.length) (x : Int) : (flatv (ws.map tv4)).take (i * 4 + 3) ++ ((vi x).cells.toList ++ (flatv (ws.map tv4)).drop (i * 4 + 3 + 1)) = flatv ((ws.set i ⟨(ws.getD i default).a, (ws.getD i default).b, (ws.getD i default).lo, x⟩).map tv4) := by
  obtain ⟨a, b, e, hl, hset⟩ := touch_cut hi
  rw [hset]
  generalize ws.getD i default = w at *
  subst e
  rw [touch_flat, touch_flat]
  have hf := touch_len a
  generalize flatv (a.map tv4) = A at *
  generalize flatv (b.map tv4) = B at *
  rw [List.take_append, List.take_of_length_le (by omega), hf, hl, show i * 4 + 3 - i * 4 = 3 by omega, List.drop_append, List.drop_of_length_le (by omega), hf, hl, show i * 4 + 3 + 1 - i * 4 = 4 by omega]
  simp [Value.cells]
theorem touch_at {ws : List Touch} {i : Nat} (hi : i < ws.length) : (flatv (ws.map tv4))[i * 4 + 2]? = some (vi (ws.getD i default).lo) ∧ (flatv (ws.map tv4))[i * 4 + 3]? = some (vi (ws.getD i default).hi) := by
  obtain ⟨a, b, e, hl, _⟩ := touch_cut hi
  generalize ws.getD i default = w at *
  subst e
  rw [touch_flat]
  have hf := touch_len a
  generalize flatv (a.map tv4) = A at *
  constructor
  · rw [List.getElem?_append_right (by omega), show i * 4 + 2 - A.length = 2 by omega]; rfl
  · rw [List.getElem?_append_right (by omega), show i * 4 + 3 - A.length = 3 by omega]; rfl
theorem tcells_at {bs : List Touch} {i j : Nat} (hi : i < bs.length) (hj : j < 4) : (flatv (bs.map tv4)).getD (i * 4 + j) undef = (match j with | 0 => vi (bs.getD i default).a | 1 => vi (bs.getD i default).b | 2 => vi (bs.getD i default).lo | _ => vi (bs.getD i default).hi) := by
  have h := flat_at (vs := bs.map tv4) (k := 4) (by omega) (fun u hu => by obtain ⟨y, _, rfl⟩ := List.mem_map.1 hu; rfl) (i := i) (j := j) (by simpa using hi) hj
  have e : (bs.map tv4).getD i undef = tv4 (bs.getD i default) := by simp [List.getD_eq_getElem?_getD, List.getElem?_eq_getElem hi]
  rw [h, e]
  match j, hj with
  | 0, _ => rfl
  | 1, _ => rfl
  | 2, _ => rfl
  | 3, _ => rfl
theorem IsTouches.toCells {m : Mem} {v : Value} {bs : List Touch} (h : IsTouches m v bs) : IsCells m 4 v bs.length (flatv (bs.map tv4)) :=
  ⟨touch_len bs, IsArr.congr h fun i j hi hj => by
    have e := tcells_at hi hj
    match j, hj, e with
    | 0, _, e => exact e.symm
    | 1, _, e => exact e.symm
    | 2, _, e => exact e.symm
    | 3, _, e => exact e.symm⟩
/-- SickWider -/
theorem sickWider_any {h : Mem} {v : Value} {r : House} {n by' n2 : Nat} (hv : IsHouse h v r) (hn : n < 256) (hby : by' < 256) (hn2 : n2 < 256) : FnV Tryz.prog 8 #[v, .int .u8 n, .int .u8 by', .int .u8 n2] h (.bool true) := by
  have hv' := hv
  obtain ⟨wv, pv, kv, tv, bv, sv, f, rfl, hA⟩ := hv
  have hT := hA.T
  have hTc := hA.T.toCells
  refine FnR.val ?_
  refine FnR.of_W (n := 110) Tryz.func8 rfl rfl (Nat.le_of_ble_eq_true rfl) fun c hr hD hF => ?_
  refine W.seq ?_; refine W.region ?_
  refine WL.box rfl rfl rfl rfl (fun b4 => ?_)
  refine .o rfl rfl rfl rfl ?_; refine WL.nil ?_
  refine Kseq.go (W.seq (W.seq ?_))
  refine W.freezeBox (.head _) (fun b hb => (hF b hb).elim) fun m4 h4 => ?_
  cases hR : ready6 r with
  | false =>
    refine W.region ?_; refine .val (.loadPW rfl (by assumption) (by repeat constructor) (by rfl)) rfl rfl rfl ?_; refine .val (.cast (.call rfl (fun m hm => ready6_any (hv'.le (by repeat (first | exact hm.1 | replace hm := hm.2))))) (congrArg Value.bool hR)) rfl rfl rfl ?_
    iterate 2 refine .o rfl rfl rfl rfl ?_
    refine WL.pass rfl rfl rfl ?_; refine WL.pass rfl rfl rfl ?_; refine WL.pass rfl rfl rfl ?_; refine WL.pass rfl rfl rfl ?_; refine .o rfl rfl rfl rfl ?_; refine WL.nil ?_; refine Kseq.go ?_; refine W.condT rfl rfl ?_; refine W.seq ?_; refine W.region ?_; refine .val (.call rfl (fun m hm => awake6_any)) rfl rfl rfl ?_; refine .o rfl rfl rfl rfl ?_; refine WL.nil ?_; refine Kseq.go ?_
    refine W.ret ?_; refine Kseq.ret ?_; refine ⟨.inl rfl, [_], h, ⟨.tmp rfl, trivial⟩, (by repeat constructor), ?_⟩
    rfl
  | true =>
  obtain ⟨hV, hs, hf0, _⟩ := ready6_iff hR
  by_cases ht0 : r.touches.length = 0
  · skip
    refine W.region ?_; refine .val (.loadPW rfl (by assumption) (by repeat constructor) (by rfl)) rfl rfl rfl ?_; refine .val (.cast (.call rfl (fun m hm => ready6_any (hv'.le (by repeat (first | exact hm.1 | replace hm := hm.2))))) (congrArg Value.bool hR)) rfl rfl rfl ?_
    iterate 2 refine .o rfl rfl rfl rfl ?_
    refine .val (.fieldAddrB rfl) rfl rfl rfl ?_; refine .val (.loadP rfl (by assumption) (by repeat constructor) rfl) rfl rfl rfl ?_; refine .val (.len rfl hT) rfl rfl rfl ?_; refine .val (.cast (.opv rfl) (congrArg Value.bool (decide_eq_true (by omega)))) rfl rfl rfl ?_; refine .o rfl rfl rfl rfl ?_; refine WL.nil ?_; refine Kseq.go ?_; refine W.condT rfl rfl ?_; refine W.seq ?_; refine W.region ?_; refine .val (.call rfl (fun m hm => awake6_any)) rfl rfl rfl ?_; refine .o rfl rfl rfl rfl ?_; refine WL.nil ?_; refine Kseq.go ?_
    refine W.ret ?_; refine Kseq.ret ?_; refine ⟨.inl rfl, [_], h, ⟨.tmp rfl, trivial⟩, (by repeat constructor), ?_⟩
    rfl
  refine W.region ?_; refine .val (.loadPW rfl (by assumption) (by repeat constructor) (by rfl)) rfl rfl rfl ?_; refine .val (.cast (.call rfl (fun m hm => ready6_any (hv'.le (by repeat (first | exact hm.1 | replace hm := hm.2))))) (congrArg Value.bool hR)) rfl rfl rfl ?_
  iterate 2 refine .o rfl rfl rfl rfl ?_
  refine .val (.fieldAddrB rfl) rfl rfl rfl ?_; refine .val (.loadP rfl (by assumption) (by repeat constructor) rfl) rfl rfl rfl ?_; refine .val (.len rfl hT) rfl rfl rfl ?_; refine .val (.cast (.opv rfl) (congrArg Value.bool (decide_eq_false (by omega)))) rfl rfl rfl ?_; refine .o rfl rfl rfl rfl ?_; refine WL.nil ?_; refine Kseq.go ?_; refine W.condF rfl rfl ?_
  have hkl : n % r.touches.length < r.touches.length := Nat.mod_lt _ (by omega)
  have htn := hV.touchN
  have hwl : (r.touches.map tv4).length = r.touches.length := by rw [List.length_map]
  refine W.skip (Kseq.go (W.seq ?_))
  refine W.region ?_; refine .val (.loadPW rfl (by assumption) (by repeat constructor) (by rfl)) rfl rfl rfl ?_
  refine WL.alloc rfl rfl rfl (fun b9 => ?_)
  (refine WL.store [wv, pv, vi r.table.wrong, kv, vi r.others, vi r.last, tv, bv, sv] rfl (.head _) rfl rfl rfl (Nat.le_of_ble_eq_true rfl) (by simp [Value.cells]; exact ⟨IsArr.one hA.W, IsArr.one hA.P, rfl, IsArr.one hA.K, rfl, rfl, IsArr.one hA.T, IsArr.one hA.B, IsArr.one hA.S⟩) rfl ?_)
  refine WL.nil ?_
  refine Kseq.go (W.seq ?_)
  refine W.region ?_
  (refine WL.lit (vs := []) [] rfl (Nat.le_of_ble_eq_true rfl) rfl rfl (by simp) (Nat.le_of_ble_eq_true rfl) rfl rfl rfl rfl (fun b26 => ?_))
  refine .val (.fieldAddrB rfl) rfl rfl rfl ?_; refine .val (.loadP rfl h4 (by repeat constructor) rfl) rfl rfl rfl ?_
  (refine WL.append (e := 79) (k := 4) (bytes := 32) (xs := []) (ys := flatv (r.touches.map tv4)) (N := 0) (m2 := r.touches.length) (μ' := fun v' => [kr 79 4 v' (r.touches.map tv4), .blk b9 (hcs wv pv kv tv bv sv r) 31]) rfl (fun v' => by simp only [kr, List.length_map, Nat.zero_add, List.nil_append]; exact .head _) rfl hTc (by repeat constructor) rfl (by omega) (by unfold maxLen; omega) (by omega) rfl rfl rfl ?_; intro a29 c29)
  refine .val (.fieldAddrB rfl) rfl rfl rfl ?_
  (refine WL.store [_, _, _, _, _, _, _, _, _] rfl (.tail _ (.head _)) rfl rfl rfl (Nat.le_of_ble_eq_true rfl) (by simp [Value.cells, Value.oneCell']) rfl ?_)
  refine WL.nil ?_
  refine Kseq.go (W.seq ?_)
  refine W.draw 8 (by kernel_rfl) (by kernel_rfl) (by kernel_rfl) rfl ?_; refine .val [] (.fieldAddrB rfl) rfl rfl rfl rfl ?_; refine .val [] (.loadB rfl (.tail _ (.head _)) rfl) rfl rfl rfl rfl ?_; refine .val [] (.opv rfl) rfl rfl rfl rfl ?_; refine .val [] (.conv rfl (i64_in (by omega) (by omega))) rfl rfl rfl rfl ?_; refine .val [] (.fieldAddrB rfl) rfl rfl rfl rfl ?_; refine .val [] (.loadB rfl (.tail _ (.head _)) rfl) rfl rfl rfl rfl ?_; refine .val [] (.cast (.lenR rfl (.head _)) (congrArg (fun x : Nat => vi (x : Int)) hwl)) rfl rfl rfl rfl ?_; refine .val [] (.cast (.rem rfl rfl (by omega) (by omega)) (show vi ((n : Int) % (r.touches.length : Int)) = vi ((n % r.touches.length : Nat) : Int) from rfl)) rfl rfl rfl rfl ?_; refine DJ.nil ?_
  refine .val (.indexAddrR rfl rfl (.head _) (by rw [hwl]; exact hkl)) rfl rfl rfl ?_
  refine .val (.fieldAddrR rfl (.head _) (by rw [hwl]; exact hkl)) rfl rfl rfl ?_
  refine .o rfl rfl rfl rfl ?_; refine WL.nil ?_
  refine Kseq.go (W.seq ?_)
  generalize n % r.touches.length = k at *
  have hz := hV.hoursZ hkl
  obtain ⟨hat1, hat2⟩ := touch_at hkl
  have e1 := touch_lo hkl ((r.touches.getD k default).lo - (by' : Int) % 2)
  generalize hwd : r.touches.getD k default = q at *
  have hkw2 : k < (r.touches.set k ⟨q.a, q.b, q.lo - (by' : Int) % 2, q.hi⟩).length := by simpa using hkl
  have e2 := touch_hi hkw2 (q.hi + (by' : Int) / 2 % 2)
  have hg : (r.touches.set k ⟨q.a, q.b, q.lo - (by' : Int) % 2, q.hi⟩).getD k default = ⟨q.a, q.b, q.lo - (by' : Int) % 2, q.hi⟩ := by
    rw [getD_set6 hkl, if_pos rfl]
  rw [hg, List.set_set] at e2
  have hwid : WiderT (r.touches.getD k default) ⟨q.a, q.b, q.lo - (by' : Int) % 2, q.hi + (by' : Int) / 2 % 2⟩ := by rw [hwd]; exact ⟨rfl, rfl, by dsimp only; omega, by dsimp only; omega⟩
  have hl2 : ((r.touches.set k ⟨q.a, q.b, q.lo - (by' : Int) % 2, q.hi⟩).map tv4).length = r.touches.length := by rw [List.length_map, List.length_set]
  have hl3 : ((r.touches.set k ⟨q.a, q.b, q.lo - (by' : Int) % 2, q.hi + (by' : Int) / 2 % 2⟩).map tv4).length = r.touches.length := by rw [List.length_map, List.length_set]
  let l0 : List (Nat × Value) := [(2, .int .u8 (by' : Int)), (3, .int .u8 (n2 : Int)), (4, .pointer (some ⟨b4, 0, none⟩)), (9, .pointer (some ⟨b9, 0, none⟩)), (10, EP (.slice a29 (0 + r.touches.length) c29) 4 k 2)]
  let X9 : Array Value := [wv, pv, vi r.table.wrong, kv, vi r.others, vi r.last, .slice a29 (0 + r.touches.length) c29, bv, sv].toArray
  refine W.weaken l0 _ _ (by repeat (first | exact trivial | refine ⟨rfl, ?_⟩)) (fun _ h => h) (.refl _) ?_; refine W.drawN (γ := Ph1 Unit) .a 22 [21] (Ph1.sel l0 (fun _ => l0)) (Ph1.sel [kr 79 4 (.slice a29 (0 + r.touches.length) c29) (r.touches.map tv4), .blk b9 X9 31] (fun _ => [kr 79 4 (.slice a29 (0 + r.touches.length) c29) ((r.touches.set k ⟨q.a, q.b, q.lo - (by' : Int) % 2, q.hi⟩).map tv4), .blk b9 X9 31])) Ph1.num (by kernel_rfl) (by kernel_rfl) (by kernel_rfl) rfl Ph1.le (Ph1.all rfl (fun _ => rfl)) rfl rfl ?_; refine DJN.val [] (Ph1.all (fun hg => OpVal.opv rfl) (fun x1 hg => Bool.noConfusion (show false = true from hg))) (Ph1.all (fun hg => rfl) (fun x1 hg => Bool.noConfusion (show false = true from hg))) rfl rfl (Ph1.all rfl (fun _ => rfl)) rfl ?_; refine DJN.val [] (Ph1.all (fun hg => OpVal.opv rfl) (fun x1 hg => OpVal.opv rfl)) (Ph1.all (fun hg => rfl) (fun x1 hg => rfl)) rfl rfl (Ph1.all rfl (fun _ => rfl)) rfl ?_
  refine DJN.val [] (Ph1.all (fun hg => OpVal.opv rfl) (fun x1 hg => Bool.noConfusion (show false = true from hg))) (Ph1.all (fun hg => rfl) (fun x1 hg => Bool.noConfusion (show false = true from hg))) rfl rfl (Ph1.all rfl (fun _ => rfl)) rfl ?_
  refine DJN.val [] (Ph1.all (fun hg => (by first | exact OpVal.nilCheck6 rfl (.head _) (by rw [hwl]; exact hkl) | exact OpVal.nilCheck6 rfl (.head _) (by rw [hl2]; exact hkl))) (fun x1 hg => Bool.noConfusion (show false = true from hg))) (Ph1.all (fun hg => rfl) (fun x1 hg => Bool.noConfusion (show false = true from hg))) rfl rfl (Ph1.all rfl (fun _ => rfl)) rfl ?_
  refine DJN.val [] (Ph1.all (fun hg => (by first | exact OpVal.fieldAddrR rfl (.head _) (by rw [hwl]; exact hkl) | exact OpVal.fieldAddrR rfl (.head _) (by rw [hl2]; exact hkl))) (fun x1 hg => Bool.noConfusion (show false = true from hg))) (Ph1.all (fun hg => rfl) (fun x1 hg => Bool.noConfusion (show false = true from hg))) rfl rfl (Ph1.all rfl (fun _ => rfl)) rfl ?_
  refine DJN.val [] (Ph1.all (fun hg => OpVal.loadR rfl (.head _) (by rw [hwl]; exact hkl) (by omega) hat1) (fun x1 hg => Bool.noConfusion (show false = true from hg))) (Ph1.all (fun hg => rfl) (fun x1 hg => Bool.noConfusion (show false = true from hg))) rfl rfl (Ph1.all rfl (fun _ => rfl)) rfl ?_
  refine DJN.val [] (Ph1.all (fun hg => OpVal.opv rfl) (fun x1 hg => Bool.noConfusion (show false = true from hg))) (Ph1.all (fun hg => rfl) (fun x1 hg => Bool.noConfusion (show false = true from hg))) rfl rfl (Ph1.all rfl (fun _ => rfl)) rfl ?_; refine DJN.val [] (Ph1.all (fun hg => OpVal.conv rfl (i64_in (by omega) (by omega))) (fun x1 hg => Bool.noConfusion (show false = true from hg))) (Ph1.all (fun hg => rfl) (fun x1 hg => Bool.noConfusion (show false = true from hg))) rfl rfl (Ph1.all rfl (fun _ => rfl)) rfl ?_; refine DJN.val [] (Ph1.all (fun hg => OpVal.rem rfl rfl (by omega) (by omega)) (fun x1 hg => Bool.noConfusion (show false = true from hg))) (Ph1.all (fun hg => rfl) (fun x1 hg => Bool.noConfusion (show false = true from hg))) rfl rfl (Ph1.all rfl (fun _ => rfl)) rfl ?_; refine DJN.val [] (Ph1.all (fun hg => OpVal.sub rfl rfl (by omega) (by omega)) (fun x1 hg => Bool.noConfusion (show false = true from hg))) (Ph1.all (fun hg => rfl) (fun x1 hg => Bool.noConfusion (show false = true from hg))) rfl rfl (Ph1.all rfl (fun _ => rfl)) rfl ?_
  refine DJN.val [] (Ph1.all (fun hg => OpVal.opv rfl) (fun x1 hg => OpVal.opv rfl)) (Ph1.all (fun hg => rfl) (fun x1 hg => rfl)) rfl rfl (Ph1.all rfl (fun _ => rfl)) rfl ?_
  refine DJN.val [] (Ph1.all (fun hg => (by first | exact OpVal.nilCheck6 rfl (.head _) (by rw [hwl]; exact hkl) | exact OpVal.nilCheck6 rfl (.head _) (by rw [hl2]; exact hkl))) (fun x1 hg => (by first | exact OpVal.nilCheck6 rfl (.head _) (by rw [hwl]; exact hkl) | exact OpVal.nilCheck6 rfl (.head _) (by rw [hl2]; exact hkl)))) (Ph1.all (fun hg => rfl) (fun x1 hg => rfl)) rfl rfl (Ph1.all rfl (fun _ => rfl)) rfl ?_
  refine DJN.val [] (Ph1.all (fun hg => (by first | exact OpVal.fieldAddrR rfl (.head _) (by rw [hwl]; exact hkl) | exact OpVal.fieldAddrR rfl (.head _) (by rw [hl2]; exact hkl))) (fun x1 hg => (by first | exact OpVal.fieldAddrR rfl (.head _) (by rw [hwl]; exact hkl) | exact OpVal.fieldAddrR rfl (.head _) (by rw [hl2]; exact hkl)))) (Ph1.all (fun hg => rfl) (fun x1 hg => rfl)) rfl rfl (Ph1.all rfl (fun _ => rfl)) rfl ?_
  refine DJN.val [] (Ph1.all (fun hg => OpVal.loadR rfl (.head _) (by rw [hwl]; exact hkl) (by omega) hat2) (fun x1 hg => Bool.noConfusion (show false = true from hg))) (Ph1.all (fun hg => rfl) (fun x1 hg => Bool.noConfusion (show false = true from hg))) rfl rfl (Ph1.all rfl (fun _ => rfl)) rfl ?_
  refine DJN.val [] (Ph1.all (fun hg => OpVal.opv rfl) (fun x1 hg => OpVal.opv rfl)) (Ph1.all (fun hg => rfl) (fun x1 hg => rfl)) rfl rfl (Ph1.all rfl (fun _ => rfl)) rfl ?_; refine DJN.val [] (Ph1.all (fun hg => OpVal.conv rfl (i64_in (by omega) (by omega))) (fun x1 hg => OpVal.conv rfl (i64_in (by omega) (by omega)))) (Ph1.all (fun hg => rfl) (fun x1 hg => rfl)) rfl rfl (Ph1.all rfl (fun _ => rfl)) rfl ?_; refine DJN.val [] (Ph1.all (fun hg => OpVal.quo rfl rfl (by omega) (by omega) (by omega)) (fun x1 hg => OpVal.quo rfl rfl (by omega) (by omega) (by omega))) (Ph1.all (fun hg => rfl) (fun x1 hg => rfl)) rfl rfl (Ph1.all rfl (fun _ => rfl)) rfl ?_; refine DJN.val [] (Ph1.all (fun hg => OpVal.rem rfl rfl (by omega) (by omega)) (fun x1 hg => OpVal.rem rfl rfl (by omega) (by omega))) (Ph1.all (fun hg => rfl) (fun x1 hg => rfl)) rfl rfl (Ph1.all rfl (fun _ => rfl)) rfl ?_; refine DJN.val [] (Ph1.all (fun hg => OpVal.add rfl rfl (by omega) (by omega)) (fun x1 hg => OpVal.add rfl rfl (by omega) (by omega))) (Ph1.all (fun hg => rfl) (fun x1 hg => rfl)) rfl rfl (Ph1.all rfl (fun _ => rfl)) rfl ?_
  refine DJN.val [] (Ph1.all (fun hg => (by first | exact OpVal.nilCheck6 rfl (.head _) (by rw [hwl]; exact hkl) | exact OpVal.nilCheck6 rfl (.head _) (by rw [hl2]; exact hkl))) (fun x1 hg => (by first | exact OpVal.nilCheck6 rfl (.head _) (by rw [hwl]; exact hkl) | exact OpVal.nilCheck6 rfl (.head _) (by rw [hl2]; exact hkl)))) (Ph1.all (fun hg => rfl) (fun x1 hg => rfl)) rfl rfl (Ph1.all rfl (fun _ => rfl)) rfl ?_
  refine DJN.val [] (Ph1.all (fun hg => (by first | exact OpVal.fieldAddrR rfl (.head _) (by rw [hwl]; exact hkl) | exact OpVal.fieldAddrR rfl (.head _) (by rw [hl2]; exact hkl))) (fun x1 hg => Bool.noConfusion (show false = true from hg))) (Ph1.all (fun hg => rfl) (fun x1 hg => Bool.noConfusion (show false = true from hg))) rfl rfl (Ph1.all rfl (fun _ => rfl)) rfl ?_
  refine DJN.eff 0 [(61, _), (50, _)] ⟨rfl, rfl, trivial⟩ rfl rfl [] trivial (Ph1.all (fun hg => ⟨rfl, fun M2 hM2 => ?_⟩) (fun x1 hg => absurd hg (by simp [Ph1.num]))) ?_
  · (refine WL.storeR (T := 79) (k := 4) (xs := flatv (r.touches.map tv4)) (μ' := [kr 79 4 (.slice a29 (0 + r.touches.length) c29) ((r.touches.set k ⟨q.a, q.b, q.lo - (by' : Int) % 2, q.hi⟩).map tv4), .blk b9 X9 31]) rfl (by unfold kr; rw [← e1, hwl, hl2]; exact .head _) rfl rfl rfl (by omega) (Nat.le_of_ble_eq_true rfl) (by simp [Value.cells, Value.oneCell']) ?_; exact WL.nil ⟨.b (), rfl, Keff.intro (by repeat (first | exact trivial | refine ⟨rfl, ?_⟩)) (fun x hx => hx) (.refl _)⟩)
  refine DJN.nil (Ph1.all (fun hg => absurd hg (by simp [Ph1.num])) (fun x1 hg => ?_))
  refine .val ((by first | exact OpVal.nilCheck6 rfl (.head _) (by rw [hwl]; exact hkl) | exact OpVal.nilCheck6 rfl (.head _) (by rw [hl2]; exact hkl))) rfl rfl rfl ?_
  refine .val ((by first | exact OpVal.fieldAddrR rfl (.head _) (by rw [hwl]; exact hkl) | exact OpVal.fieldAddrR rfl (.head _) (by rw [hl2]; exact hkl))) rfl rfl rfl ?_
  (refine WL.storeR (T := 79) (k := 4) (xs := flatv ((r.touches.set k ⟨q.a, q.b, q.lo - (by' : Int) % 2, q.hi⟩).map tv4)) (μ' := [kr 79 4 (.slice a29 (0 + r.touches.length) c29) ((r.touches.set k ⟨q.a, q.b, q.lo - (by' : Int) % 2, q.hi + (by' : Int) / 2 % 2⟩).map tv4), .blk b9 X9 31]) rfl (by unfold kr; rw [← e2, hl2, hl3]; exact .head _) rfl rfl rfl (by omega) (Nat.le_of_ble_eq_true rfl) (by simp [Value.cells, Value.oneCell']) ?_)
  refine WL.nil ?_
  refine Kseq.go (W.seq (W.seq ?_))
  refine W.freezeK (.head _) (fun b hb => (hF b hb).elim) (by omega) (fun u hu => by obtain ⟨w, _, rfl⟩ := List.mem_map.1 hu; rfl) (fun u hu => by obtain ⟨w, _, rfl⟩ := List.mem_map.1 hu; simp [tv4, Value.cells, Value.oneCell']) fun m2 hm2 => ?_
  have hT2 := touches_of hm2
  clear hm2
  refine W.freezeBox (.head _) (fun b hb => (hF b hb).elim) fun m9 h9 => ?_
  refine W.join fun mj hj => ?_
  have hvj := hv'.le (hj h (by simp))
  have h4j := h4.le (hj m4 (by simp))
  have h9j := h9.le (hj m9 (by simp))
  have hAj := hA.le (hj h (by simp))
  have hlo2 : ValidH (withTouches r (r.touches.set k ⟨q.a, q.b, q.lo - (by' : Int) % 2, q.hi + (by' : Int) / 2 % 2⟩)) → True := fun _ => trivial
  have hcl := wider_closer hkl hwid
  have hlv := fun c d => wider_leave (c := c) (d := d) hkl hwid
  have hx : IsHouse mj (.agg #[wv, pv, vi r.table.wrong, kv, vi r.others, vi r.last, .slice a29 (0 + r.touches.length) c29, bv, sv]) (withTouches r (r.touches.set k ⟨q.a, q.b, q.lo - (by' : Int) % 2, q.hi + (by' : Int) / 2 % 2⟩)) := ⟨wv, pv, kv, _, bv, sv, f, rfl, ⟨hAj.W, hAj.P, hAj.M, hAj.K, hT2.le (hj m2 (by simp)), hAj.B, hAj.S⟩⟩
  have hxl : (withTouches r (r.touches.set k ⟨q.a, q.b, q.lo - (by' : Int) % 2, q.hi + (by' : Int) / 2 % 2⟩)).signs = r.signs := rfl
  have hxla : (withTouches r (r.touches.set k ⟨q.a, q.b, q.lo - (by' : Int) % 2, q.hi + (by' : Int) / 2 % 2⟩)).last = r.last := rfl
  generalize withTouches r (r.touches.set k ⟨q.a, q.b, q.lo - (by' : Int) % 2, q.hi + (by' : Int) / 2 % 2⟩) = x at *
  clear h4 h9 hT2 e1 e2 hat1 hat2
  refine W.weaken [(3, .int .u8 (n2 : Int)), (4, .pointer (some ⟨b4, 0, none⟩)), (9, .pointer (some ⟨b9, 0, none⟩))] [mj] [] (by repeat (first | exact trivial | refine ⟨rfl, ?_⟩)) (by simp) (List.nil_sublist _) ?_
  cases hR2 : ready6 x with
  | false =>
    refine W.region ?_; refine .val (.loadPW rfl h9j (by repeat constructor) rfl) rfl rfl rfl ?_; refine .val (.cast (.call rfl (fun m hm => ready6_any (hx.le (by repeat (first | exact hm.1 | replace hm := hm.2))))) (congrArg Value.bool hR2)) rfl rfl rfl ?_; refine .o rfl rfl rfl rfl ?_; refine WL.nil ?_; refine Kseq.go ?_; refine W.condT rfl rfl ?_; refine W.seq ?_; refine W.region ?_; refine .val (.call rfl (fun m hm => awake6_any)) rfl rfl rfl ?_; refine .o rfl rfl rfl rfl ?_; refine WL.nil ?_; refine Kseq.go ?_
    refine W.ret ?_; refine Kseq.ret ?_; refine ⟨.inl rfl, [_], mj, ⟨.tmp rfl, trivial⟩, (by repeat constructor), ?_⟩
    rfl
  | true =>
  refine W.region ?_; refine .val (.loadPW rfl h9j (by repeat constructor) rfl) rfl rfl rfl ?_; refine .val (.cast (.call rfl (fun m hm => ready6_any (hx.le (by repeat (first | exact hm.1 | replace hm := hm.2))))) (congrArg Value.bool hR2)) rfl rfl rfl ?_; refine .o rfl rfl rfl rfl ?_; refine WL.nil ?_; refine Kseq.go ?_; refine W.condF rfl rfl ?_
  obtain ⟨hVx, hsx, hfx, _⟩ := ready6_iff hR2
  obtain ⟨c, hce, hcS⟩ := leave6_least hV
  obtain ⟨d, hde, hdS⟩ := leave6_least hVx
  rw [hxl] at hdS
  have hL1 := hlv c d hcS hdS
  have hla := hV.last
  obtain ⟨L, hL⟩ : ∃ L : Nat, r.last = (L : Int) := ⟨r.last.toNat, by omega⟩
  have hk : n2 % (L + 1) < L + 1 := Nat.mod_lt _ (by omega)
  refine W.skip (Kseq.go (W.seq ?_))
  refine W.region ?_; refine .val (.loadPW rfl h4j (by repeat constructor) rfl) rfl rfl rfl ?_; refine WL.abs (OpAbs.call rfl (fun m hm => houseL_any (hvj.le (by repeat (first | exact hm.1 | replace hm := hm.2))) hs)) rfl rfl rfl ?_
  rintro m70 v70 h70
  refine WL.abs (OpAbs.call rfl (fun m hm => leave6_any (h70.le (by repeat (first | exact hm.1 | replace hm := hm.2))) hs)) rfl rfl rfl ?_
  rintro m71 _ ⟨lv, rfl, _, hl2⟩
  have hlI := hl2 hf0 c hce
  iterate 5 refine .o rfl rfl rfl rfl ?_
  refine WL.nil ?_
  refine Kseq.go (W.seq ?_)
  rw [hf0]
  refine W.region ?_; refine .val (.loadPW rfl h9j (by repeat constructor) rfl) rfl rfl rfl ?_; refine WL.abs (OpAbs.call rfl (fun m hm => houseL_any (hx.le (by repeat (first | exact hm.1 | replace hm := hm.2))) hsx)) rfl rfl rfl ?_
  rintro m76 v76 h76
  refine WL.abs (OpAbs.call rfl (fun m hm => leave6_any (h76.le (by repeat (first | exact hm.1 | replace hm := hm.2))) hsx)) rfl rfl rfl ?_
  rintro m77 _ ⟨lv2, rfl, _, hl3⟩
  have hlJ := hl3 hfx d hde
  iterate 5 refine .o rfl rfl rfl rfl ?_
  refine WL.nil ?_
  refine Kseq.go (W.seq (W.seq ?_))
  rw [hfx]
  have hcl' := hlI.bd
  have hdl := hlJ.bd
  refine W.region ?_; refine .o rfl rfl rfl rfl ?_; refine .val (OpVal.neqF6 rfl rfl) rfl rfl rfl ?_
  iterate 2 refine .o rfl rfl rfl rfl ?_
  refine .val (OpVal.neqF6 rfl rfl) rfl rfl rfl ?_
  iterate 3 refine .o rfl rfl rfl rfl ?_
  refine .val (.len rfl hlJ) rfl rfl rfl ?_; refine .o rfl rfl rfl rfl ?_; refine .val (.len rfl hlI) rfl rfl rfl ?_; refine .val (.cast (.opv rfl) (congrArg Value.bool (decide_eq_false (by omega)))) rfl rfl rfl ?_; refine .o rfl rfl rfl rfl ?_; refine WL.nil ?_; refine Kseq.go ?_; refine W.condF rfl rfl ?_
  refine W.skip (Kseq.go (W.seq ?_))
  by_cases hd0 : c.length = 0
  · have hdn : c = [] := List.length_eq_zero_iff.1 hd0
    have hne : ask6 r ≠ [] := poss_ask.1 (by have := hcS.is; rwa [hdn] at this)
    refine W.draw 12 (by kernel_rfl) (by kernel_rfl) (by kernel_rfl) rfl ?_; refine .val [] (.opv rfl) rfl rfl rfl rfl ?_; refine .val [] (.len rfl hlI) rfl rfl rfl rfl ?_; refine .val [] (.cast (.opv rfl) (congrArg Value.bool (decide_eq_false (by omega)))) rfl rfl rfl rfl ?_; refine .val [] (.opv rfl) rfl rfl rfl rfl ?_; refine .val [] (.loadPW rfl h4j (by repeat constructor) rfl) rfl rfl rfl rfl ?_; refine .val [] (.loadPW rfl h9j (by repeat constructor) rfl) rfl rfl rfl rfl ?_; refine .val [] (.opv rfl) rfl rfl rfl rfl ?_; refine .val [] (.conv rfl (i64_in (by omega) (by omega))) rfl rfl rfl rfl ?_; refine .val [] (.fieldAddrB rfl) rfl rfl rfl rfl ?_; refine .val [] (.cast (.loadP rfl h4j (by repeat constructor) rfl) (congrArg (Value.int .i64) hL)) rfl rfl rfl rfl ?_; refine .val [] (.cast (.add rfl rfl (by omega) (by omega)) (show _ = vi ((L + 1 : Nat) : Int) from rfl)) rfl rfl rfl rfl ?_
    refine .val [] (.cast (.rem rfl rfl (by omega) (by omega)) (show vi ((n2 : Int) % ((L + 1 : Nat) : Int)) = vi ((n2 % (L + 1) : Nat) : Int) from rfl)) rfl rfl rfl rfl ?_; refine DJ.nil ?_; refine .val (.call rfl (fun m hm => closer6_any (hvj.le (by repeat (first | exact hm.1 | replace hm := hm.2))) (hx.le (by repeat (first | exact hm.1 | replace hm := hm.2))) hs hsx hV hVx hcl hne (by omega) (by omega))) rfl rfl rfl ?_
    iterate 2 refine .o rfl rfl rfl rfl ?_
    refine .val (.call rfl (fun m hm => awake6_any)) rfl rfl rfl ?_
    iterate 2 refine .o rfl rfl rfl rfl ?_
    refine WL.nil ?_; refine Kseq.go ?_
    refine W.ret ?_; refine ⟨.inl rfl, [_], mj, ⟨.tmp rfl, trivial⟩, (by repeat constructor), ?_⟩
    rfl
  · skip
    refine W.draw 12 (by kernel_rfl) (by kernel_rfl) (by kernel_rfl) rfl ?_; refine .val [] (.opv rfl) rfl rfl rfl rfl ?_; refine .val [] (.len rfl hlI) rfl rfl rfl rfl ?_; refine .val [] (.cast (.opv rfl) (congrArg Value.bool (decide_eq_true (by omega)))) rfl rfl rfl rfl ?_; refine .val [] (.opv rfl) rfl rfl rfl rfl ?_; refine DJ.pass rfl rfl rfl rfl ?_; refine DJ.pass rfl rfl rfl rfl ?_; refine DJ.pass rfl rfl rfl rfl ?_; refine DJ.pass rfl rfl rfl rfl ?_; refine DJ.pass rfl rfl rfl rfl ?_; refine DJ.pass rfl rfl rfl rfl ?_; refine DJ.pass rfl rfl rfl rfl ?_; refine DJ.pass rfl rfl rfl rfl ?_; refine DJ.nil ?_; refine WL.pass rfl rfl rfl ?_
    iterate 2 refine .o rfl rfl rfl rfl ?_
    refine .val (.call rfl (fun m hm => awake6_any)) rfl rfl rfl ?_
    iterate 2 refine .o rfl rfl rfl rfl ?_
    refine WL.nil ?_; refine Kseq.go ?_
    refine W.ret ?_; refine ⟨.inl rfl, [_], mj, ⟨.tmp rfl, trivial⟩, (by repeat constructor), ?_⟩
    rfl
end Go.Proofs.YtdnbkjgbehakpaaGreat
