/- The program's functions of chapter 6: boilings, play, right. -/
import Derived.Test.YtdnbkjgbehakpaaGreatT111
namespace Go.Proofs.YtdnbkjgbehakpaaGreat
open Go Go.Eng Go.RowKit

section
variable {P : Program} {n : Nat} {c : Cx P n} {l : List (Nat × Value)} {Ms : List Mem} {μ : List Res} {dst : Option Tmp} {x y : Operand} {t t' ty : TypeId} {pos : String} {af : Array Edge} {gd : Option (Nat × Bool)}
theorem OpVal.neqB6 {p q : Bool} [ht : TU P t .bool] (hx : lk l x = some (.bool p)) (hy : lk l y = some (.bool q)) : OpVal c ⟨dst, .binOp .neq t x y t', ty, pos, af, gd⟩ l Ms μ (.bool (!decide (p = q))) :=
  OpVal.of_runs (by simp) (by simp) fun a w hh => by
    have h1 : (Op.equal t (.bool p) (.bool q)).run P w = .ok (p == q) w := run_equalIn_bool' w 9999 t p q ht.u
    simp [execOp, hh.lk hx, hh.lk hy, eqGuard, binOp, h1]
    cases p <;> cases q <;> rfl
/-- A call that reads a block of one's own, too. -/
theorem OpVal.callB {f : FuncId} [TC P f] {xs : Array Operand} {ats : Array TypeId} {vs : List Value} {v : Value} {b : Nat} {cs : Array Value} {T : TypeId} (hxs : lks l xs.toList = some vs) (hb : Res.blk b cs T ∈ μ)
    (h : ∀ m, AllLe Ms m → IsBox m b cs T → FnV P f vs.toArray m v) : OpVal c ⟨dst, .call ⟨.value (.func f), xs, ats⟩, ty, pos, af, gd⟩ l Ms μ v := by
  unfold OpVal
  intro _ w hh
  have hbw := hh.blk hb
  have hbf : b ∈ feet μ := List.mem_filterMap.2 ⟨_, hb, rfl⟩
  have hno := (hh.mem.own b hbf).2
  let m : Mem := fun x => if x = b then w.heap[b]? else MAll Ms x
  have hle : AllLe Ms m := AllLe.of fun m0 hm0 x o hx => by
    have hxb : x ≠ b := fun e => by rw [e, hno m0 hm0] at hx; cases hx
    show (if x = b then _ else MAll Ms x) = some o
    rw [if_neg hxb]
    exact MAll.le hh.mem.sub hm0 x o hx
  have hbox : IsBox m b cs T := by
    show (if b = b then w.heap[b]? else _) = _
    rw [if_pos rfl]; exact hbw
  have hsub : Sub m w := fun x o hx => by
    by_cases hxb : x = b
    · subst hxb
      have h2 : (if x = x then w.heap[x]? else MAll Ms x) = some o := hx
      rwa [if_pos rfl] at h2
    · have h2 : (if x = b then w.heap[b]? else MAll Ms x) = some o := hx
      rw [if_neg hxb] at h2
      exact MAll.sub hh.mem.sub x o h2
  exact Yields.call (first := #[]) (caps := #[]) hh rfl hxs (((by simpa using h m hle hbox : FnV P f (#[] ++ vs.toArray ++ #[]) m v).un w hsub).mono fun _ _ ⟨he, hx⟩ => ⟨v, he, rfl, hx⟩)
end

/-! ### Boilings -/
def boilG (bs : List Boil) (xs : List Int) : Value := .bool (isBoiled bs (xs.getD 0 0) (xs.getD 1 0))
theorem isBoiled_snoc (bs : List Boil) (b : Boil) (x y : Int) : isBoiled (bs ++ [b]) x y = (isBoiled bs x y || (decide (b.thing = x) && decide (b.hour = y))) := by
  rw [Bool.eq_iff_iff, Bool.or_eq_true, isBoiled_iff, isBoiled_iff, List.mem_append, List.mem_singleton]
  simp only [Bool.and_eq_true, decide_eq_true_eq]
  constructor
  · rintro (h | h)
    · exact .inl h
    · exact .inr (by rw [← h]; exact ⟨rfl, rfl⟩)
  · rintro (h | ⟨rfl, rfl⟩)
    · exact .inl h
    · exact .inr rfl
theorem boilG_upd (bs : List Boil) (b : Boil) (y : List Int) (hy : y.length = 2) : upd (boilG bs) [b.thing, b.hour] (.bool true) y = boilG (bs ++ [b]) y := by
  match y, hy with
  | [p, q], _ =>
    unfold upd boilG
    rw [isBoiled_snoc]
    simp only [List.getD_cons_zero, List.getD_cons_succ]
    split
    · rename_i e
      injection e with e1 e2
      injection e2 with e2 _
      rw [decide_eq_true e1.symm, decide_eq_true e2.symm]; simp
    · rename_i e
      have : (decide (b.thing = p) && decide (b.hour = q)) = false := by
        rw [Bool.and_eq_false_iff, decide_eq_false_iff_not, decide_eq_false_iff_not]
        by_cases h1 : b.thing = p
        · exact .inr fun h2 => e (by rw [h1, h2])
        · exact .inl h1
      rw [this, Bool.or_false]
theorem take_snoc6 {α : Type} [Inhabited α] {l : List α} {k : Nat} (h : k < l.length) : l.take (k + 1) = l.take k ++ [l.getD k default] := take_succ_getD h
abbrev IsBm (m : Mem) (b : Nat) (bs : List Boil) : Prop := IsMap m b vq (fun xs => xs.length = 2) (.bool false) (boilG bs)
/-- boilings -/
theorem boilings_any {h : Mem} {v mv : Value} {r : House} {more : List Boil} (hv : IsHouse h v r) (hm : IsBoils h mv more) (hsm : SmH r) (hml : more.length ≤ 1000) : FnR Tryz.prog 103 #[v, mv] h (fun m q => ∃ b, q = .map (some b) ∧ IsBm m b (r.boiled ++ more)) := by
  obtain ⟨wv, pv, kv, tv, bv, sv, f, rfl, hA⟩ := hv
  have hB := hA.B
  have hbl := hsm.boiled
  refine FnR.of_W (n := 35) Tryz.func103 rfl rfl (Nat.le_of_ble_eq_true rfl) fun c hr hD hF => ?_
  refine W.seq ?_
  refine W.region ?_
  refine WL.box rfl rfl rfl rfl (fun b2 => ?_)
  refine WL.val (OpVal.opv rfl) rfl rfl rfl ?_
  refine WL.nil ?_
  refine Kseq.go (W.seq ?_)
  skip
  refine W.region ?_
  (refine WL.makeMap rfl rfl rfl (fun b10 => ?_))
  refine WL.val (OpVal.opv rfl) rfl rfl rfl ?_
  refine WL.nil ?_
  refine Kseq.go (W.seq (W.seq ?_))
  skip
  refine W.region ?_
  refine WL.val (OpVal.fieldAddrB rfl) rfl rfl rfl ?_
  refine WL.val (OpVal.loadB rfl (.tail _ (.head _)) rfl) rfl rfl rfl ?_
  refine WL.val (OpVal.len rfl hB) rfl rfl rfl ?_
  refine WL.val (OpVal.opv rfl) rfl rfl rfl ?_
  refine WL.nil ?_
  refine Kseq.go (W.block ?_)
  refine W.loop (σ := Nat × Array MapEntry × Nat) (fun s => [(1, mv), (5, .map (some b10)), (12, bv), (13, .int .i64 (r.boiled.length : Int)), (14, .int .i64 (s.1 : Int))]) (fun _ => [h]) (fun s => [.obj b10 (.map s.2.1 s.2.2)]) (fun s => s.1 ≤ r.boiled.length ∧ MapG vq (fun xs => xs.length = 2) (.bool false) s.2.1 s.2.2 (boilG (r.boiled.take s.1))) (fun s => r.boiled.length - s.1) (0, #[], 0) ⟨rfl, rfl, rfl, rfl, rfl, trivial⟩ (by simp) (.cons_cons _ (List.nil_sublist _)) ⟨Nat.zero_le _, (MapG.empty _ _ _).congr fun y _ => rfl⟩ ?_
  rintro ⟨k, es, clock⟩ ⟨hk, hG⟩
  dsimp only at hk hG ⊢
  refine W.seq ?_
  refine W.region ?_
  refine WL.val (OpVal.opv rfl) rfl rfl rfl ?_
  refine WL.nil ?_
  refine Kseq.go (W.seq ?_)
  refine W.condD rfl rfl (fun hlt => ?_) (fun hge => ?_)
  · have hkl : k < r.boiled.length := by omega
    refine W.skip (Kseq.go (W.seq (W.block (W.seq ?_))))
    refine W.region ?_
    refine WL.val (OpVal.indexAddrN rfl rfl hB hkl) rfl rfl rfl ?_
    refine WL.val (OpVal.loadEA rfl hB (by repeat (first | exact .head _ | refine .tail _ ?_)) hkl) rfl rfl rfl ?_
    refine WL.alloc rfl rfl rfl (fun b7 => ?_)
    refine WL.store [_, _] rfl (.head _) rfl rfl rfl (Nat.le_of_ble_eq_true rfl) (by first | (simp [Value.cells, Value.oneCell']; done) | exact IsArr.ones hW (by omega) | exact IsArr.ones hP (by omega) | exact IsArr.ones hS (by omega) | exact IsArr.ones hH (by omega) | exact IsArr.ones hL (by omega) | exact IsArr.ones hB (by omega) | exact IsArr.ones hT (by omega) | exact IsArr.ones hm (by omega)) rfl ?_
    refine WL.nil ?_
    refine Kseq.go ?_
    skip
    refine W.region ?_
    refine WL.val (OpVal.opv rfl) rfl rfl rfl ?_
    refine WL.val (OpVal.fieldAddrB rfl) rfl rfl rfl ?_
    refine WL.val (OpVal.loadB rfl (.head _) rfl) rfl rfl rfl ?_
    refine WL.val (OpVal.fieldAddrB rfl) rfl rfl rfl ?_
    refine WL.val (OpVal.loadB rfl (.head _) rfl) rfl rfl rfl ?_
    refine WL.val (OpVal.cast (OpVal.build2 rfl rfl) (show _ = vq [(r.boiled.getD k default).thing, (r.boiled.getD k default).hour] from rfl)) rfl rfl rfl ?_
    (refine WL.mapUpdate (k := [(r.boiled.getD k default).thing, (r.boiled.getD k default).hour]) (μ' := fun es' clock' => [.blk b7 _ 138, .obj b10 (.map es' clock')]) rfl rfl rfl hG rfl (fun _ _ => .tail _ (.head _)) rfl ?_; intro es2 clock2 hG2)
    refine WL.nil ?_
    refine Kblock.normal (Kseq.go ?_)
    skip
    refine W.region ?_
    refine WL.val (OpVal.incr rfl (by omega)) rfl rfl rfl ?_
    refine WL.val (OpVal.opv rfl) rfl rfl rfl ?_
    refine WL.nil ?_
    skip
    exact Kloop.next (k + 1, es2, clock2) ⟨by dsimp only; omega, hG2.congr fun y hy => by rw [boilG_upd _ _ _ hy, take_snoc6 hkl]⟩ (by dsimp only; omega) ⟨rfl, rfl, rfl, rfl, rfl, trivial⟩ (by simp) (by repeat (first | exact List.Sublist.refl _ | refine List.Sublist.cons _ ?_ | refine List.Sublist.cons_cons _ ?_))
  refine W.exit (Kseq.exit (Kloop.exit (Kblock.here (Kseq.go (W.seq (W.seq ?_))))))
  have hkk : k = r.boiled.length := by omega
  subst hkk
  rw [List.take_length] at hG
  skip
  refine W.region ?_
  refine WL.val (OpVal.opv rfl) rfl rfl rfl ?_
  refine WL.val (OpVal.len rfl hm) rfl rfl rfl ?_
  refine WL.val (OpVal.opv rfl) rfl rfl rfl ?_
  refine WL.nil ?_
  refine Kseq.go (W.block ?_)
  refine W.loop (σ := Nat × Array MapEntry × Nat) (fun s => [(5, .map (some b10)), (25, mv), (26, .int .i64 (more.length : Int)), (27, .int .i64 (s.1 : Int))]) (fun _ => [h]) (fun s => [.obj b10 (.map s.2.1 s.2.2)]) (fun s => s.1 ≤ more.length ∧ MapG vq (fun xs => xs.length = 2) (.bool false) s.2.1 s.2.2 (boilG (r.boiled ++ more.take s.1))) (fun s => more.length - s.1) (0, es, clock) ⟨rfl, rfl, rfl, rfl, trivial⟩ (by simp) (by repeat (first | exact List.Sublist.refl _ | refine List.Sublist.cons _ ?_ | refine List.Sublist.cons_cons _ ?_)) ⟨Nat.zero_le _, by rw [List.take_zero, List.append_nil]; exact hG⟩ ?_
  rintro ⟨k, es', clock'⟩ ⟨hk, hG'⟩
  dsimp only at hk hG' ⊢
  refine W.seq ?_
  refine W.region ?_
  refine WL.val (OpVal.opv rfl) rfl rfl rfl ?_
  refine WL.nil ?_
  refine Kseq.go (W.seq ?_)
  refine W.condD rfl rfl (fun hlt => ?_) (fun hge => ?_)
  · have hkl : k < more.length := by omega
    refine W.skip (Kseq.go (W.seq (W.block (W.seq ?_))))
    refine W.region ?_
    refine WL.val (OpVal.indexAddrN rfl rfl hm hkl) rfl rfl rfl ?_
    refine WL.val (OpVal.loadEA rfl hm (by repeat (first | exact .head _ | refine .tail _ ?_)) hkl) rfl rfl rfl ?_
    refine WL.alloc rfl rfl rfl (fun b9 => ?_)
    refine WL.store [_, _] rfl (.head _) rfl rfl rfl (Nat.le_of_ble_eq_true rfl) (by first | (simp [Value.cells, Value.oneCell']; done) | exact IsArr.ones hW (by omega) | exact IsArr.ones hP (by omega) | exact IsArr.ones hS (by omega) | exact IsArr.ones hH (by omega) | exact IsArr.ones hL (by omega) | exact IsArr.ones hB (by omega) | exact IsArr.ones hT (by omega) | exact IsArr.ones hm (by omega)) rfl ?_
    refine WL.nil ?_
    refine Kseq.go ?_
    skip
    refine W.region ?_
    refine WL.val (OpVal.opv rfl) rfl rfl rfl ?_
    refine WL.val (OpVal.cast (OpVal.loadBW rfl (.head _) rfl) (show _ = vq [(more.getD k default).thing, (more.getD k default).hour] from rfl)) rfl rfl rfl ?_
    (refine WL.mapUpdate (k := [(more.getD k default).thing, (more.getD k default).hour]) (μ' := fun es' clock' => [.blk b9 _ 198, .obj b10 (.map es' clock')]) rfl rfl rfl hG' rfl (fun _ _ => .tail _ (.head _)) rfl ?_; intro es2 clock2 hG2)
    refine WL.nil ?_
    refine Kblock.normal (Kseq.go ?_)
    skip
    refine W.region ?_
    refine WL.val (OpVal.incr rfl (by omega)) rfl rfl rfl ?_
    refine WL.val (OpVal.opv rfl) rfl rfl rfl ?_
    refine WL.nil ?_
    skip
    exact Kloop.next (k + 1, es2, clock2) ⟨by dsimp only; omega, hG2.congr fun y hy => by rw [boilG_upd _ _ _ hy, take_snoc6 hkl, List.append_assoc]⟩ (by dsimp only; omega) ⟨rfl, rfl, rfl, rfl, trivial⟩ (by simp) (by repeat (first | exact List.Sublist.refl _ | refine List.Sublist.cons _ ?_ | refine List.Sublist.cons_cons _ ?_))
  refine W.exit (Kseq.exit (Kloop.exit (Kblock.here (Kseq.go (W.seq ?_)))))
  have hkk : k = more.length := by omega
  subst hkk
  rw [List.take_length] at hG'
  refine W.freezeMap (.head _) (fun b hb => (hF b hb).elim) hG' fun mm hmm => ?_
  skip
  refine W.region ?_
  refine WL.val (OpVal.opv rfl) rfl rfl rfl ?_
  refine WL.val (OpVal.opv rfl) rfl rfl rfl ?_
  refine WL.nil ?_
  refine Kseq.go ?_
  refine W.ret ?_; skip; refine ⟨.inl rfl, [_], mm, ⟨.tmp rfl, trivial⟩, (by repeat (first | exact .head _ | refine .tail _ ?_)), ?_⟩
  exact ⟨b10, rfl, hmm⟩

/-! ### Courses in arrays -/
def pad6 (l : List Int) : List Int := l ++ List.replicate (6 - l.length) 0
theorem pad6_len {l : List Int} (h : l.length ≤ 6) : (pad6 l).length = 6 := by simp [pad6]; omega
/-- A course, as the program has it. -/
def sceneC (c : Course) : Array Value := ((pad c.owners).map vi ++ (pad6 c.hours).map vi).toArray
abbrev sceneV (c : Course) : Value := .agg (sceneC c)
structure FitC (r : House) (c : Course) : Prop where
  owners : c.owners.length = r.np
  hours : c.hours.length = r.tn
theorem sceneC_size {c : Course} (h1 : c.owners.length ≤ 7) (h2 : c.hours.length ≤ 6) : (sceneC c).size = 13 := by
  unfold sceneC
  rw [List.size_toArray, List.length_append, List.length_map, List.length_map, pad_len h1, pad6_len h2]
theorem sceneC_owner {c : Course} (h1 : c.owners.length ≤ 7) {i : Nat} (hi : i < c.owners.length) : (sceneC c)[0 + i]? = some (vi (c.owners.getD i 0)) := by
  unfold sceneC
  rw [Nat.zero_add, List.getElem?_toArray, List.getElem?_append_left (by rw [List.length_map, pad_len h1]; omega), List.getElem?_map]
  unfold pad
  rw [List.getElem?_append_left hi, List.getElem?_eq_getElem hi]
  simp [List.getD_eq_getElem?_getD, List.getElem?_eq_getElem hi]
theorem sceneC_hour {c : Course} (h1 : c.owners.length ≤ 7) {i : Nat} (hi : i < c.hours.length) : (sceneC c)[7 + i]? = some (vi (c.hours.getD i 0)) := by
  unfold sceneC
  have hl : ((pad c.owners).map vi).length = 7 := by rw [List.length_map, pad_len h1]
  rw [List.getElem?_toArray, List.getElem?_append_right (by omega), hl, Nat.add_sub_cancel_left, List.getElem?_map]
  unfold pad6
  rw [List.getElem?_append_left hi, List.getElem?_eq_getElem hi]
  simp [List.getD_eq_getElem?_getD, List.getElem?_eq_getElem hi]
theorem sceneC_one (c : Course) : ∀ u ∈ (sceneC c).toList, u.oneCell' = true := by
  intro u hu
  unfold sceneC at hu
  simp only [List.mem_append, List.mem_map] at hu
  rcases hu with ⟨x, _, rfl⟩ | ⟨x, _, rfl⟩ <;> rfl
theorem ValidH.np7 {r : House} (hV : ValidH r) : r.np ≤ 7 := hV.table.pieces
/-- sick -/
theorem sick_any {h : Mem} {v : Value} {r : House} {c : Course} {i : Nat} (hv : IsHouse h v r) (hc : FitC r c) (h7 : r.np ≤ 7) (h6 : r.tn ≤ 6) (hi : i < r.np) : FnV Tryz.prog 128 #[v, sceneV c, vi i] h (.bool (decide (c.owners.getD i 0 ∈ r.sick))) := by
  have h1 := hc.owners
  have h2 := hc.hours
  have hsz := sceneC_size (c := c) (by omega) (by omega)
  obtain ⟨wv, pv, kv, tv, bv, sv, f, rfl, hA⟩ := hv
  have hK := hA.K
  refine FnR.val ?_
  refine FnR.of_W (n := 14) Tryz.func128 rfl rfl (Nat.le_of_ble_eq_true rfl) fun c hr hD hF => ?_
  refine W.seq ?_
  refine W.region ?_
  refine WL.box rfl rfl rfl rfl (fun b3 => ?_)
  (refine WL.box rfl rfl rfl rfl (fun b4 => ?_))
  refine WL.val (OpVal.opv rfl) rfl rfl rfl ?_
  refine WL.nil ?_
  refine Kseq.go (W.seq ?_)
  skip
  refine W.draw 6 (by kernel_rfl) (by kernel_rfl) (by kernel_rfl) rfl ?_
  refine DJ.val [] (OpVal.fieldAddrB rfl) rfl rfl rfl rfl ?_
  refine DJ.val [] (OpVal.loadB rfl (.tail _ (.head _)) rfl) rfl rfl rfl rfl ?_
  refine DJ.val [] (OpVal.opv rfl) rfl rfl rfl rfl ?_
  refine DJ.val [] (OpVal.fieldAddrB rfl) rfl rfl rfl rfl ?_
  refine DJ.val [] (OpVal.indexAddrB rfl rfl (by omega)) rfl rfl rfl rfl ?_
  refine DJ.val [] (OpVal.loadB rfl (.head _) (sceneC_owner (by omega) (by omega))) rfl rfl rfl rfl ?_
  refine DJ.nil ?_
  refine WL.val (OpVal.call rfl (fun m hm => contains_any _ (hK.le (by repeat (first | exact hm.1 | replace hm := hm.2))))) rfl rfl rfl ?_
  refine WL.val (OpVal.opv rfl) rfl rfl rfl ?_
  refine WL.nil ?_
  refine Kseq.go ?_
  refine W.ret ?_; skip; refine ⟨.inl rfl, [_], h, ⟨.tmp rfl, trivial⟩, (by repeat (first | exact .head _ | refine .tail _ ?_)), ?_⟩
  rfl
end Go.Proofs.YtdnbkjgbehakpaaGreat
