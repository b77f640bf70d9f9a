/- The program's functions of chapter 6: asked. -/
import Derived.Test.YtdnbkjgbehakpaaT116
import Derived.Test.YtdnbkjgbehakpaaT19
namespace Go.Proofs.Ytdnbkjgbehakpaa
open Go Go.Eng Go.RowKit

/-! ### How many courses there can be -/
theorem flat_le {α β : Type} (l : List α) (f : α → List β) (k : Nat) (h : ∀ x ∈ l, (f x).length ≤ k) : (l.flatMap f).length ≤ l.length * k := by
  induction l with
  | nil => simp
  | cons x l ih =>
    rw [List.flatMap_cons, List.length_append, List.length_cons, Nat.add_mul, Nat.one_mul]
    have := ih fun y hy => h y (.tail _ hy)
    have := h x (.head _)
    omega
theorem hCs_le {r : House} (hV : ValidH r) (l : List Int) : ∀ d pre, d ≤ r.tn → (hCs r.touches l d pre).length ≤ 6 ^ d
  | 0, pre, _ => by simp [hCs]
  | d + 1, pre, hd => by
    simp only [hCs]
    have hz := hV.hours (k := r.touches.length - (d + 1)) (by unfold House.tn at *; omega)
    have h1 := flat_le (List.range (r.touches.getD (r.touches.length - (d + 1)) default).size) (fun (n : Nat) => hCs r.touches l d (pre ++ [(r.touches.getD (r.touches.length - (d + 1)) default).lo + (n : Int)])) (6 ^ d) (fun x _ => hCs_le hV l d _ (by omega))
    rw [List.length_range] at h1
    have h2 : (r.touches.getD (r.touches.length - (d + 1)) default).size ≤ 6 := by unfold Touch.size; omega
    have h3 : (r.touches.getD (r.touches.length - (d + 1)) default).size * 6 ^ d ≤ 6 * 6 ^ d := Nat.mul_le_mul_right _ h2
    rw [Nat.pow_succ]; omega
theorem scn_le {r : House} (hV : ValidH r) : ∀ d pre, (scn r.table r.touches d pre).length ≤ 5 ^ d * 46656
  | 0, pre => by
    rw [scn_zero]
    split
    · have h1 := hCs_le hV pre r.tn [] (Nat.le_refl _)
      have h2 : 6 ^ r.tn ≤ 6 ^ 6 := Nat.pow_le_pow_right (by omega) (show r.tn ≤ 6 from hV.touchN)
      show (hCs r.touches pre r.tn []).length ≤ _
      omega
    · simp
  | d + 1, pre => by
    simp only [scn]
    have h1 := flat_le (whoP r.table (r.table.pieces.length - (d + 1))) (fun w => scn r.table r.touches d (pre ++ [w])) (5 ^ d * 46656) (fun x _ => scn_le hV d _)
    have h2 : (whoP r.table (r.table.pieces.length - (d + 1))).length ≤ 5 := Nat.le_trans (sel_len _ _) hV.table.women
    have h3 : (whoP r.table (r.table.pieces.length - (d + 1))).length * (5 ^ d * 46656) ≤ 5 * (5 ^ d * 46656) := Nat.mul_le_mul_right _ h2
    rw [Nat.pow_succ]; omega
theorem scenes_le {r : House} (hV : ValidH r) : (scenes r).length ≤ 3645000000 := by
  have h1 := scn_le hV r.np []
  have h2 : 5 ^ r.np ≤ 5 ^ 7 := Nat.pow_le_pow_right (by omega) hV.np7
  have h3 : 5 ^ r.np * 46656 ≤ 5 ^ 7 * 46656 := Nat.mul_le_mul_right _ h2
  have h4 : (scenes r).length ≤ 5 ^ r.np * 46656 := h1
  omega

/-! ### Truths, with what carries a sickness -/
def sceneL (c : Course) : List Value := (pad c.owners).map vi ++ (pad6 c.hours).map vi
def carL (s : Nat) : List Value := (List.range 10).map fun i => Value.bool (s.testBit i)
def knownL (r : House) (c : Course) : List Value := sceneL c ++ carL (lastN r c [])
abbrev knownV (r : House) (c : Course) : Value := .agg (knownL r c).toArray
theorem sceneL_len {r : House} {c : Course} (hf : FitC r c) (h7 : r.np ≤ 7) (h6 : r.tn ≤ 6) : (sceneL c).length = 13 := by
  unfold sceneL
  rw [List.length_append, List.length_map, List.length_map, pad_len (by rw [hf.owners]; exact h7), pad6_len (by rw [hf.hours]; exact h6)]
theorem carL_len (s : Nat) : (carL s).length = 10 := by simp [carL]
theorem knownL_len {r : House} {c : Course} (hf : FitC r c) (h7 : r.np ≤ 7) (h6 : r.tn ≤ 6) : (knownL r c).length = 23 := by
  unfold knownL; rw [List.length_append, sceneL_len hf h7 h6, carL_len]
theorem knownL_one (r : House) (c : Course) : ∀ u ∈ knownL r c, u.oneCell' = true := by
  intro u hu
  unfold knownL sceneL carL at hu
  simp only [List.mem_append, List.mem_map] at hu
  rcases hu with (⟨x, _, rfl⟩ | ⟨x, _, rfl⟩) | ⟨x, _, rfl⟩ <;> rfl
theorem fold_set (off : Nat) : ∀ (a : List Value) (s : Nat) (cells : Array Value), off + s + a.length ≤ cells.size →
    ((a.zipIdx s).foldl (fun cs (x : Value × Nat) => cs.setIfInBounds (off + x.2) x.1) cells).toList = cells.toList.take (off + s) ++ (a ++ cells.toList.drop (off + s + a.length))
  | [], s, cells, _ => by simp
  | x :: a, s, cells, h => by
    rw [List.zipIdx_cons, List.foldl_cons]
    have hk : off + s < cells.toList.length := by simp at h ⊢; omega
    have ih := fold_set off a (s + 1) (cells.setIfInBounds (off + s) x) (by simp at h ⊢; omega)
    refine ih.trans ?_
    have e : (cells.setIfInBounds (off + s) x).toList = cells.toList.set (off + s) x := by simp
    rw [e, ← Nat.add_assoc, List.take_add_one, List.take_set_of_le (Nat.le_refl _), List.drop_set_of_lt (by omega), List.getElem?_set_self hk, List.length_cons]
    simp [Nat.add_assoc, Nat.add_comm, Nat.add_left_comm]
theorem fold_cells {off : Nat} {v : Value} {a : List Value} {cells : Array Value} (h1 : v.cells.toList = a) (h : off + a.length ≤ cells.size) :
    v.cells.zipIdx.foldl (fun cs (x : Value × Nat) => cs.setIfInBounds (off + x.2) x.1) cells = (cells.toList.take off ++ (a ++ cells.toList.drop (off + a.length))).toArray := by
  apply Array.ext'
  have e : v.cells = a.toArray := Array.ext' (by rw [h1])
  rw [e, Array.zipIdx_toArray, List.foldl_toArray]
  exact fold_set off a 0 cells (by omega)
/-- A struct of two fields. -/
theorem fill_two {n1 n2 : Nat} {z : Array Value} (hz : z.size = n1 + n2) {u v : Value} {a b : List Value} (hu : u.cells.toList = a) (hv : v.cells.toList = b) (ha : a.length = n1) (hb : b.length = n2) :
    Instr.fill (fun i => #[(0, n1), (n1, n2)][i]?) z [(0, u), (1, v)] = some (a ++ b).toArray := by
  have s1 : u.cells.size = n1 := by rw [← Array.length_toList, hu, ha]
  have s2 : v.cells.size = n2 := by rw [← Array.length_toList, hv, hb]
  have hzl : z.toList.length = n1 + n2 := by simpa using hz
  have e1 := fold_cells (off := 0) (cells := z) hu (by omega)
  have e2 := fold_cells (off := n1) (cells := (a ++ z.toList.drop n1).toArray) hv (by simp; omega)
  have e3 : (z.toList.take 0 ++ (a ++ z.toList.drop (0 + a.length))).toArray = (a ++ z.toList.drop n1).toArray := by rw [ha]; simp
  have e4 : ((a ++ z.toList.drop n1).toArray.toList.take n1 ++ (b ++ (a ++ z.toList.drop n1).toArray.toList.drop (n1 + b.length))).toArray = (a ++ b).toArray := by
    show (List.take n1 (a ++ z.toList.drop n1) ++ (b ++ List.drop (n1 + b.length) (a ++ z.toList.drop n1))).toArray = _
    rw [List.take_append_of_le_length (by omega), List.take_of_length_le (by omega), List.drop_of_length_le (by rw [List.length_append, List.length_drop]; omega), List.append_nil]
  have c1 : (u.cells.size ≠ n1 || 0 + u.cells.size > z.size) = false := by rw [s1, hz]; simp
  have c2 : (v.cells.size ≠ n2 || n1 + v.cells.size > (a ++ z.toList.drop n1).toArray.size) = false := by
    rw [s2]; simp; omega
  unfold Instr.fill
  show (if (u.cells.size ≠ n1 || 0 + u.cells.size > z.size) = true then none else Instr.fill _ (u.cells.zipIdx.foldl (fun cs (x : Value × Nat) => cs.setIfInBounds (0 + x.2) x.1) z) [(1, v)]) = _
  rw [c1, if_neg (by simp), e1, e3]
  unfold Instr.fill
  show (if (v.cells.size ≠ n2 || n1 + v.cells.size > (a ++ z.toList.drop n1).toArray.size) = true then none else Instr.fill _ (v.cells.zipIdx.foldl (fun cs (x : Value × Nat) => cs.setIfInBounds (n1 + x.2) x.1) (a ++ z.toList.drop n1).toArray) []) = _
  rw [c2, if_neg (by simp), e2, e4]
  rfl
def wcs (wv pv kv tv bv sv trv : Value) (r : House) : Array Value := #[wv, pv, vi r.table.wrong, kv, vi r.others, vi r.last, tv, bv, sv, trv]
/-- A row with one more element. -/
theorem kr_snoc {T : TypeId} {k : Nat} {v : Value} {vs : List Value} {u : Value} {ys : List Value} (h : u.cells.toList = ys) : Res.row T k v (vs.length + 1) (flatv vs ++ ys) = kr T k v (vs ++ [u]) := by
  unfold kr
  rw [List.length_append, ← h]; simp [flatv]
/-- A house at work. -/
def IsWork6 (m : Mem) (b : Nat) (v : Value) (r : House) : Prop := ∃ wv pv kv tv bv sv trv, v = .agg (hcs wv pv kv tv bv sv r) ∧ IsBox m b (wcs wv pv kv tv bv sv trv r) 109 ∧
  IsArr m 23 trv (ask6 r).length (fun i j => (knownL r ((ask6 r).getD i default)).getD j undef)
theorem IsWork6.le {m m' : Mem} {b : Nat} {v : Value} {r : House} (h : IsWork6 m b v r) (hm : MLe m m') : IsWork6 m' b v r := by
  obtain ⟨wv, pv, kv, tv, bv, sv, trv, e, h1, h2⟩ := h
  exact ⟨wv, pv, kv, tv, bv, sv, trv, e, h1.le hm, h2.le hm⟩
def rightC (r : House) (c : Course) : Bool := rightBut6 r.signs (lastN r c []) []
def ask6To (r : House) (k : Nat) : List Course := ((scenes r).take k).filter (rightC r)
theorem ask6To_no {r : House} {k : Nat} (hk : k < (scenes r).length) (h : rightC r ((scenes r).getD k default) = false) : ask6To r (k + 1) = ask6To r k := by
  unfold ask6To
  rw [take_succ_getD (d := default) hk, List.filter_append, List.filter_cons_of_neg (by rw [h]; exact Bool.false_ne_true), List.filter_nil, List.append_nil]
theorem ask6To_yes {r : House} {k : Nat} (hk : k < (scenes r).length) (h : rightC r ((scenes r).getD k default) = true) : ask6To r (k + 1) = ask6To r k ++ [(scenes r).getD k default] := by
  unfold ask6To
  rw [take_succ_getD (d := default) hk, List.filter_append, List.filter_cons_of_pos h, List.filter_nil]
theorem ask6To_all (r : House) : ask6To r (scenes r).length = ask6 r := by unfold ask6To; rw [List.take_length]; rfl
theorem ask6To_le (r : House) (k : Nat) : (ask6To r k).length ≤ (scenes r).length := Nat.le_trans (List.length_filter_le _ _) (by rw [List.length_take]; exact Nat.min_le_right _ _)
def ask6E (r : House) (fine : Bool) : Int := if fault6 r ≠ 0 then fault6 r else if fine = false then 2 else if ask6 r = [] then 11 else 0
set_option maxHeartbeats 400000 in
/-- asked -/
theorem asked6_any {h : Mem} {v : Value} {r : House} (fine : Bool) (hv : IsHouse h v r) (hs : SmH r) : FnR Try.prog 22 #[v, .bool fine] h (fun m q => (ask6E r fine ≠ 0 ∧ q = .tuple #[.pointer none, vi (ask6E r fine)]) ∨
    (ValidH r ∧ fine = true ∧ ask6 r ≠ [] ∧ ∃ b, q = .tuple #[.pointer (some ⟨b, 0, none⟩), vi 0] ∧ IsWork6 m b v r)) := by
  have hv' := hv
  have hst := hs.table
  obtain ⟨wv, pv, kv, tv, bv, sv, f, rfl, hA⟩ := hv
  refine FnR.of_W (n := 52) Try.func22 rfl rfl (Nat.le_of_ble_eq_true rfl) fun c hr hD hF => ?_
  refine W.seq ?_; refine W.region ?_
  refine WL.box rfl rfl rfl rfl (fun b2 => ?_)
  iterate 2 refine .o rfl ?_
  refine WL.nil ?_
  refine Kseq.go (W.seq (W.seq ?_))
  refine W.freezeBox (.head _) (fun b hb => (hF b hb).elim) fun m2 h2 => ?_
  refine W.region ?_; refine .val (.loadPW rfl h2 (by repeat constructor) rfl) rfl rfl rfl ?_; refine .val (.call rfl (fun m hm => checkHouse_any (hv'.le (by repeat first | exact hm.1 | replace hm := hm.2)) hs)) rfl rfl rfl ?_; refine .o rfl ?_; refine WL.nil ?_
  refine Kseq.go (W.seq ?_)
  refine W.region ?_
  iterate 2 refine .o rfl ?_
  refine WL.nil ?_; refine Kseq.go ?_
  refine W.cond rfl rfl (fun he => ?_) (fun hne => ?_)
  · refine W.seq ?_
    refine W.region ?_
    iterate 3 refine .o rfl ?_
    refine WL.nil ?_; refine Kseq.go ?_
    refine W.ret ?_; refine Kseq.ret ?_; refine ⟨.inl rfl, [_, _], h, ⟨.tmp rfl, .tmp rfl, trivial⟩, (by repeat constructor), ?_⟩
    have he' : fault6 r ≠ 0 := by simpa using he
    refine .inl ?_
    unfold ask6E
    rw [if_pos he']
    exact ⟨he', rfl⟩
  have hf0 : fault6 r = 0 := by simpa using hne
  have hV := fault6_zero.1 hf0
  have hnp := hV.np7
  have htn : r.tn ≤ 6 := hV.touchN
  refine W.skip (Kseq.go (W.seq (W.seq ?_)))
  refine W.region ?_
  iterate 2 refine .o rfl ?_
  refine WL.nil ?_; refine Kseq.go ?_
  refine W.cond rfl rfl (fun hf => ?_) (fun hf => ?_)
  · refine W.seq ?_
    refine W.region ?_
    iterate 2 refine .o rfl ?_
    refine WL.nil ?_; refine Kseq.go ?_
    refine W.ret ?_; refine Kseq.ret ?_; refine ⟨.inl rfl, [_, _], h, ⟨.tmp rfl, .tmp rfl, trivial⟩, (by repeat constructor), ?_⟩
    have hf' : fine = false := by simpa using hf
    refine .inl ?_
    unfold ask6E
    rw [if_neg (by simpa using hf0), if_pos hf']
    exact ⟨by decide, rfl⟩
  have hfine : fine = true := by simpa using hf
  have hE : ask6E r fine = if ask6 r = [] then 11 else 0 := by unfold ask6E; rw [if_neg (by simpa using hf0), if_neg (by simp [hfine])]
  refine W.skip (Kseq.go (W.seq ?_))
  refine W.region ?_; refine .val (.loadPW rfl h2 (by repeat constructor) rfl) rfl rfl rfl ?_; refine .val (.build (wcs wv pv kv tv bv sv (.slice none 0 0) r) rfl (fill_two (a := [wv, pv, vi r.table.wrong, kv, vi r.others, vi r.last, tv, bv, sv]) (b := [.slice none 0 0]) (by rfl) rfl rfl rfl rfl)) rfl rfl rfl ?_
  refine WL.box rfl rfl rfl rfl (fun b20 => ?_)
  refine WL.alloc rfl rfl rfl (fun b7 => ?_)
  refine WL.store [_] rfl (.head _) rfl rfl rfl (Nat.le_of_ble_eq_true rfl) (by first | (simp [Value.cells, Value.oneCell']; done) | exact IsArr.ones hW (by omega) | exact IsArr.ones hP (by omega) | exact IsArr.ones hS (by omega) | exact IsArr.ones hH (by omega) | exact IsArr.ones hL (by omega) | exact IsArr.ones hB (by omega) | exact IsArr.ones hT (by omega) | exact IsArr.ones hm (by omega)) rfl ?_
  refine WL.nil ?_
  refine Kseq.go (W.seq ?_)
  refine W.freezeBox (.head _) (fun b hb => (hF b hb).elim) fun m7 h7 => ?_
  refine W.region ?_; refine .val (.loadPW rfl h2 (by repeat constructor) rfl) rfl rfl rfl ?_
  (refine WL.abs (OpAbs.call rfl (fun m hm => boilings_any (hv'.le (by repeat first | exact hm.1 | replace hm := hm.2)) (IsBoils.nil m) hs (by simp))) rfl rfl rfl ?_; rintro m22 _ ⟨bm, rfl, hm22⟩)
  refine WL.alloc rfl rfl rfl (fun b8 => ?_)
  refine WL.store [_] rfl (.head _) rfl rfl rfl (Nat.le_of_ble_eq_true rfl) (by first | (simp [Value.cells, Value.oneCell']; done) | exact IsArr.ones hW (by omega) | exact IsArr.ones hP (by omega) | exact IsArr.ones hS (by omega) | exact IsArr.ones hH (by omega) | exact IsArr.ones hL (by omega) | exact IsArr.ones hB (by omega) | exact IsArr.ones hT (by omega) | exact IsArr.ones hm (by omega)) rfl ?_
  refine WL.nil ?_
  refine Kseq.go (W.seq (W.seq ?_))
  refine W.freezeBox (.head _) (fun b hb => (hF b hb).elim) fun m8 h8 => ?_
  refine W.region ?_; refine .val (.loadPW rfl h2 (by repeat constructor) rfl) rfl rfl rfl ?_; refine WL.abs (OpAbs.call rfl (fun m hm => scenes_any (hv'.le (by repeat first | exact hm.1 | replace hm := hm.2)))) rfl rfl rfl ?_
  rintro m24 v24 h24
  refine WL.nil ?_
  refine Kseq.go (W.block ?_)
  obtain ⟨bl, rfl, h1⟩ := h24
  refine W.join fun mj hj => ?_
  have hvj := hv'.le (hj h (by simp))
  have h2j := h2.le (hj m2 (by simp))
  have h7j := h7.le (hj m7 (by simp))
  have h8j := h8.le (hj m8 (by simp))
  have hmj := hm22.le (hj m22 (by simp))
  have h1j := h1.le (hj m24 (by simp))
  clear h2 h7 h8 hm22 h1
  refine W.nilRow 114 23 ?_
  let St : Nat → List Mem → List Res → Prop := fun k Ms μ => Ms = [mj] ∧ ∃ trv, μ = [kr 114 23 trv ((ask6To r k).map (knownV r)), .blk b20 (wcs wv pv kv tv bv sv trv r) 109]
  refine W.rangeFunc (M0 := [mj]) (M1 := [mj]) hr rfl (scenes1_any hV hst hvj h1j) (by simp) (Split.all _) rfl St (fun _ _ _ => False) ⟨rfl, .slice none 0 0, rfl⟩ (by simp) (by rintro k Ms μ ⟨_, _, rfl⟩; rfl) (by rintro e Ms μ h; exact h.elim) rfl (by decide) (fun k hk l0 Ms' μ' hSt c' hr' hD' => ?_) (fun D Ms' μ' hSt => ?_) (fun D Ms' μ' hXt => hXt.elim) (fun D id Ms' μ' hXt => hXt.elim)
  · obtain ⟨rfl, trv, rfl⟩ := hSt
    obtain ⟨q, hq⟩ : ∃ q, (scenes r).getD k default = q := ⟨_, rfl⟩
    have hit : itemC r k = sceneV q := by unfold itemC; rw [hq]
    have hqm : q ∈ scenes r := by rw [← hq]; exact getDc hk
    have hfit := scene_fit hqm
    have hsz := sceneC_size (c := q) (by rw [hfit.owners]; omega) (by rw [hfit.hours]; omega)
    have hkl := knownL_len hfit hnp htn
    have hN : ((ask6To r k).map (knownV r)).length = (ask6To r k).length := by simp
    have hNb := Nat.le_trans (ask6To_le r k) (scenes_le hV)
    obtain ⟨N, hNe⟩ : ∃ N, ((ask6To r k).map (knownV r)).length = N := ⟨_, rfl⟩
    rw [hit]
    refine W.region ?_
    refine WL.alloc rfl rfl rfl (fun b9 => ?_)
    (refine WL.storeAll rfl (.head _) rfl rfl hsz (by rfl) (sceneC_one q) ?_)
    refine WL.nil ?_
    refine ⟨rfl, fun c2 hr2 hD2 => ⟨rfl, ?_⟩⟩
    refine W.block (W.seq ?_)
    refine W.region ?_; refine .val (.loadPW rfl h2j (by repeat constructor) rfl) rfl rfl rfl ?_; refine .val (.loadBW rfl (.head _) hsz) rfl rfl rfl ?_; refine .val (.loadP rfl h8j (by repeat constructor) rfl) rfl rfl rfl ?_; refine .val (.cast (.call rfl (fun m hm => play_any (hvj.le (by repeat first | exact hm.1 | replace hm := hm.2)) hV hfit (hmj.le (by repeat first | exact hm.1 | replace hm := hm.2)))) (show _ = carV (lastN r q []) from rfl)) rfl rfl rfl ?_
    refine WL.alloc rfl rfl rfl (fun b10 => ?_)
    (refine WL.storeAll rfl (.head _) rfl rfl (carC_size _) (by rfl) (carC_one _) ?_)
    refine WL.nil ?_
    refine Kseq.go (W.seq ?_)
    refine W.region ?_; refine .val (.loadPW rfl h2j (by repeat constructor) rfl) rfl rfl rfl ?_; refine .val (.loadBW rfl (.head _) (carC_size _)) rfl rfl rfl ?_; refine .val (.cast (.call rfl (fun m hm => right6_any (hvj.le (by repeat first | exact hm.1 | replace hm := hm.2)) hV (show IsInts m (.slice none 0 0) [] from IsArr.nil _ _ _))) (show _ = Value.bool (rightC r q) from rfl)) rfl rfl rfl ?_; refine WL.nil ?_; refine Kseq.go ?_
    refine W.cond rfl rfl (fun hw => ?_) (fun hw => ?_)
    · have hA1 : ask6To r (k + 1) = ask6To r k ++ [q] := by rw [ask6To_yes hk (by rw [hq]; exact hw), hq]
      refine W.draw2g 10 9 42 (fun g : Option Addr × Nat => Value.slice g.1 (((ask6To r k).map (knownV r)).length + 1) g.2) (fun g => [.blk b10 (carC (lastN r q [])) 67, .blk b9 (sceneC q) 63, kr 114 23 (.slice g.1 (((ask6To r k).map (knownV r)).length + 1) g.2) ((ask6To r k).map (knownV r) ++ [knownV r q]), .blk b20 (wcs wv pv kv tv bv sv trv r) 109]) (by kernel_rfl) (by kernel_rfl) (by kernel_rfl) rfl rfl ?_; refine DJ2.val [] (.inr (OpVal.loadP rfl h7j (by repeat constructor) rfl)) (.inr (fun g => OpVal.loadP rfl h7j (by repeat constructor) rfl)) rfl (fun _ => rfl) rfl rfl rfl (fun _ => rfl) rfl ?_; refine DJ2.val [] (.inr (OpVal.loadP rfl h7j (by repeat constructor) rfl)) (.inr (fun g => OpVal.loadP rfl h7j (by repeat constructor) rfl)) rfl (fun _ => rfl) rfl rfl rfl (fun _ => rfl) rfl ?_; refine DJ2.val [] (.inr (OpVal.opv rfl)) (.inr (fun g => OpVal.opv rfl)) rfl (fun _ => rfl) rfl rfl rfl (fun _ => rfl) rfl ?_
      refine DJ2.val [] (.inr (OpVal.fieldAddrB rfl)) (.inr (fun g => OpVal.fieldAddrB rfl)) rfl (fun _ => rfl) rfl rfl rfl (fun _ => rfl) rfl ?_; refine DJ2.val [] (.inr (OpVal.loadB rfl (.tail _ (.tail _ (.tail _ (.head _)))) rfl)) (.inl rfl) rfl (fun _ => rfl) rfl rfl rfl (fun _ => rfl) rfl ?_; refine DJ2.val [] (.inr (OpVal.loadBW rfl (.tail _ (.head _)) hsz)) (.inr (fun g => OpVal.loadBW rfl (.tail _ (.head _)) hsz)) rfl (fun _ => rfl) rfl rfl rfl (fun _ => rfl) rfl ?_; refine DJ2.val [] (.inr (OpVal.loadBW rfl (.head _) (carC_size _))) (.inr (fun g => OpVal.loadBW rfl (.head _) (carC_size _))) rfl (fun _ => rfl) rfl rfl rfl (fun _ => rfl) rfl ?_; refine DJ2.val [] (.inr (OpVal.build (knownL r q).toArray rfl (fill_two (a := sceneL q) (b := carL (lastN r q [])) (by rfl) rfl rfl (sceneL_len hfit hnp htn) (carL_len _)))) (.inr (fun g => OpVal.build (knownL r q).toArray rfl (fill_two (a := sceneL q) (b := carL (lastN r q [])) (by rfl) rfl rfl (sceneL_len hfit hnp htn) (carL_len _)))) rfl (fun _ => rfl) rfl rfl rfl (fun _ => rfl) rfl ?_
      refine DJ2.abs (A := fun m x => IsCells m 23 x 1 (knownL r q)) [] (.inr (OpAbs.mono (OpAbs.lit (knownL r q) rfl (Nat.le_of_ble_eq_true rfl) rfl rfl (by simp [Value.cells, hkl]) (Nat.le_of_ble_eq_true rfl) (by simp [Value.cells]) (knownL_one r q)) (fun m' v' h' => h'.1))) (.inl rfl) rfl (fun _ => rfl) rfl rfl rfl (fun _ => rfl) rfl ?_; refine DJ2.effG [(37, _)] ⟨rfl, trivial⟩ rfl rfl rfl [(41, fun m x => IsCells m 23 x 1 (knownL r q))] ⟨(by repeat constructor), rfl, trivial⟩ (fun M2 hM2 => ?_) ?_
      · intro m41 v41 h41
        (refine WL.append (e := 114) (k := 23) (bytes := 120) (N := ((ask6To r k).map (knownV r)).length) (m2 := 1) (xs := flatv ((ask6To r k).map (knownV r))) (ys := knownL r q) (μ' := fun v' => [.blk b10 (carC (lastN r q [])) 67, .blk b9 (sceneC q) 63, .row 114 23 v' (((ask6To r k).map (knownV r)).length + 1) (flatv ((ask6To r k).map (knownV r)) ++ knownL r q), .blk b20 (wcs wv pv kv tv bv sv trv r) 109]) rfl (fun _ => .tail _ (.tail _ (.head _))) rfl h41 (.head _) rfl (by omega) (by unfold maxLen; omega) (by omega) rfl rfl rfl ?_; intro a42 c42; exact WL.nil ⟨(a42, c42), Keff.intro (by repeat (first | exact trivial | refine ⟨rfl, ?_⟩)) (fun m hm => .tail _ hm) (sub_eq (by dsimp only; rw [← kr_snoc (u := knownV r q) (ys := knownL r q) rfl]))⟩)
      refine DJ2.nil (fun g => ?_)
      rintro m41 v41 h41
      refine .o rfl ?_; refine .val (.fieldAddrB rfl) rfl rfl rfl ?_
      refine WL.store [_, _, _, _, _, _, _, _, _, _] rfl (.tail _ (.tail _ (.tail _ (.head _)))) rfl rfl rfl (Nat.le_of_ble_eq_true rfl) (by first | (simp [Value.cells, Value.oneCell']; done) | exact IsArr.ones hW (by omega) | exact IsArr.ones hP (by omega) | exact IsArr.ones hS (by omega) | exact IsArr.ones hH (by omega) | exact IsArr.ones hL (by omega) | exact IsArr.ones hB (by omega) | exact IsArr.ones hT (by omega) | exact IsArr.ones hm (by omega)) rfl ?_
      refine WL.nil ?_; refine Kblock.normal ?_
      obtain ⟨g1, g2⟩ := g
      dsimp only
      refine ⟨[mj], [kr 114 23 (.slice g1 (((ask6To r k).map (knownV r)).length + 1) g2) ((ask6To r (k + 1)).map (knownV r)), .blk b20 (wcs wv pv kv tv bv sv (.slice g1 (((ask6To r k).map (knownV r)).length + 1) g2) r) 109], ⟨rfl, _, rfl⟩, by simp, ?_, by simp [markOf]⟩
      rw [hA1, List.map_append]
      exact (by repeat first | exact .refl _ | refine .cons _ ?_)
    · refine W.skip (Kblock.normal ?_)
      exact ⟨[mj], [kr 114 23 trv ((ask6To r k).map (knownV r)), .blk b20 (wcs wv pv kv tv bv sv trv r) 109], ⟨rfl, trv, by rw [ask6To_no hk (by rw [hq]; exact hw)]⟩, by simp, (by repeat first | exact .refl _ | refine .cons _ ?_), by simp [markOf]⟩
  · obtain ⟨rfl, trv, rfl⟩ := hSt
    rw [ask6To_all]
    have hN : ((ask6 r).map (knownV r)).length = (ask6 r).length := by simp
    refine Kblock.normal (Kseq.go (W.seq (W.seq ?_)))
    refine W.region ?_; refine .val (.loadP rfl h7j (by repeat constructor) rfl) rfl rfl rfl ?_; refine .o rfl ?_; refine .val (.fieldAddrB rfl) rfl rfl rfl ?_; refine .val (.loadB rfl (.tail _ (.tail _ (.head _))) rfl) rfl rfl rfl ?_; refine .val (.lenR rfl (.tail _ (.head _))) rfl rfl rfl ?_; refine .o rfl ?_; refine WL.nil ?_; refine Kseq.go ?_
    refine W.condD rfl rfl (fun hz => ?_) (fun hz => ?_)
    · refine W.seq ?_
      refine W.region ?_
      iterate 2 refine .o rfl ?_
      refine WL.nil ?_; refine Kseq.go ?_
      refine W.ret ?_; refine Kseq.ret ?_; refine ⟨.inl rfl, [_, _], mj, ⟨.tmp rfl, .tmp rfl, trivial⟩, (by repeat constructor), ?_⟩
      have hnil : ask6 r = [] := List.length_eq_zero_iff.1 (by omega)
      refine .inl ?_
      rw [hE, if_pos hnil]
      exact ⟨by decide, rfl⟩
    · have hnil : ask6 r ≠ [] := fun e => hz (by rw [e]; rfl)
      have hfits : ∀ x ∈ ask6 r, FitC r x := fun x hx => scene_fit (List.mem_filter.1 hx).1
      refine W.skip (Kseq.go (W.seq ?_))
      refine W.freezeK (.tail _ (.head _)) (fun b hb => (hF b hb).elim) (by omega) ?_ ?_ fun mr hmr => ?_
      · intro u hu
        obtain ⟨x, hx, rfl⟩ := List.mem_map.1 hu
        simp [Value.cells, knownL_len (hfits x hx) hnp htn]
      · intro u hu y hy
        obtain ⟨x, hx, rfl⟩ := List.mem_map.1 hu
        exact knownL_one r x y (by simpa [Value.cells] using hy)
      refine W.freezeBox (.tail _ (.head _)) (fun b hb => (hF b hb).elim) fun mb hmb => ?_
      refine W.join fun mk hmk => ?_
      refine W.region ?_; refine .val (.loadP rfl (h7j.le (hmk mj (by simp))) (by repeat constructor) rfl) rfl rfl rfl ?_
      iterate 2 refine .o rfl ?_
      refine WL.nil ?_; refine Kseq.go ?_
      refine W.ret ?_; refine ⟨.inl rfl, [_, _], mk, ⟨.tmp rfl, .tmp rfl, trivial⟩, (by repeat constructor), ?_⟩
      refine .inr ⟨hV, hfine, hnil, b20, rfl, wv, pv, kv, tv, bv, sv, trv, rfl, hmb.le (hmk _ (by simp)), ?_⟩
      rw [← hN]
      refine IsArr.le (hmr.congr fun i j hi hj => ?_) (hmk _ (by simp))
      rw [hN] at hi
      rw [show ((ask6 r).map (knownV r)).getD i undef = knownV r ((ask6 r).getD i default) by simp [List.getD_eq_getElem?_getD, List.getElem?_eq_getElem hi]]
      simp [Value.cells, List.getD_eq_getElem?_getD]
end Go.Proofs.Ytdnbkjgbehakpaa
