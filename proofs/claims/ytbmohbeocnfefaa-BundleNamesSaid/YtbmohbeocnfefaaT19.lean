/- The program's function asked: its contract. -/
import Derived.Test.YtbmohbeocnfefaaT13
import Derived.Test.YtbmohbeocnfefaaP1
namespace Go.Proofs.Ytbmohbeocnfefaa
open Go Go.Eng Go.RowKit

def askE (t : Table) : Int := if fault t = 0 then (if ask t = [] then 11 else 0) else fault t
/-- A table at work. -/
def IsWork (m : Mem) (b : Nat) (v : Value) (t : Table) : Prop := ∃ wv pv trv mb, v = .agg #[wv, pv, vi t.wrong] ∧ IsBox m b #[wv, pv, vi t.wrong, trv, .map (some mb)] 80 ∧
  IsArr m 7 trv (ask t).length (fun i j => ((pad ((ask t).getD i [])).map vi).getD j undef) ∧ IsMap m mb vq (fun xs => xs.length = 2) (vi 0) (manyG (ask t))
theorem IsWork.le {m m' : Mem} {b : Nat} {v : Value} {t : Table} (h : IsWork m b v t) (hm : MLe m m') : IsWork m' b v t := by
  obtain ⟨wv, pv, trv, mb, e, h1, h2, h3⟩ := h
  exact ⟨wv, pv, trv, mb, e, h1.le hm, h2.le hm, h3.le hm⟩
theorem ownV_cells (l : List Int) : (ownV l).cells.toList = (pad l).map vi := by simp [Value.cells]
/-- One of the owners in a row of arrays. -/
theorem row_own {trs : List (List Int)} (h7 : ∀ l ∈ trs, l.length ≤ 7) {i : Nat} (hi : i < trs.length) : ((flatv (trs.map ownV)).drop (i * 7)).take 7 = (pad (trs.getD i [])).map vi := by
  induction trs generalizing i with
  | nil => simp at hi
  | cons x trs ih =>
    have hx : ((pad x).map vi).length = 7 := by rw [List.length_map]; exact pad_len (h7 x (.head _))
    simp only [flatv, List.map_cons, List.flatMap_cons, ownV_cells] at ih ⊢
    cases i with
    | zero =>
      rw [Nat.zero_mul, List.drop_zero, List.take_append_of_le_length (by omega), List.take_of_length_le (by omega)]; rfl
    | succ i =>
      have := ih (fun l hl => h7 l (.tail _ hl)) (i := i) (by simpa using hi)
      rw [Nat.add_mul, Nat.one_mul, Nat.add_comm, List.drop_append, List.drop_of_length_le (by omega), List.nil_append, hx, Nat.add_sub_cancel_left]
      simpa using this
theorem pad_inj {a b : List Int} (hl : a.length = b.length) (h : pad a = pad b) : a = b := by
  have := congrArg (List.take a.length) h
  unfold pad at this
  rw [List.take_append_of_le_length (Nat.le_refl _), List.take_append_of_le_length (by omega), List.take_length, hl, List.take_length] at this
  exact this

/-- asked -/
theorem asked_any {h : Mem} {v : Value} {t : Table} (hv : IsTable h v t) (hs : Sm t) : FnR Try.prog 28 #[v] h (fun m r => (askE t ≠ 0 ∧ r = .tuple #[.pointer none, vi (askE t)]) ∨
    (Valid t ∧ ask t ≠ [] ∧ ∃ b, r = .tuple #[.pointer (some ⟨b, 0, none⟩), vi 0] ∧ IsWork m b v t)) := by
  have hv' := hv
  obtain ⟨wv, pv, f, rfl, hW, hP, hM⟩ := hv
  refine FnR.of_W (n := 88) Try.func28 rfl rfl (Nat.le_of_ble_eq_true rfl) fun c hr hD hF => ?_
  refine W.seq ?_
  refine W.region ?_
  refine WL.box rfl rfl rfl rfl (fun b1 => ?_)
  refine WL.val (OpVal.opv rfl) rfl rfl rfl ?_
  refine WL.val (OpVal.opv rfl) rfl rfl rfl ?_
  refine WL.nil ?_
  refine Kseq.go (W.seq (W.seq ?_))
  refine W.freezeBox (.head _) (fun b hb => (hF b hb).elim) fun m1 h1 => ?_
  skip
  refine W.region ?_
  refine WL.val (OpVal.loadPW rfl (by assumption) (by repeat (first | exact .head _ | refine .tail _ ?_)) (by rfl)) rfl rfl rfl ?_
  refine WL.val (OpVal.call rfl (fun m hm => check_any (hv'.le (by repeat (first | exact hm.1 | replace hm := hm.2))) hs)) rfl rfl rfl ?_
  refine WL.val (OpVal.opv rfl) rfl rfl rfl ?_
  refine WL.nil ?_
  refine Kseq.go (W.seq ?_)
  skip
  refine W.region ?_
  refine WL.val (OpVal.opv rfl) rfl rfl rfl ?_
  refine WL.val (OpVal.opv rfl) rfl rfl rfl ?_
  refine WL.nil ?_
  refine Kseq.go ?_
  refine W.cond rfl rfl (fun he => ?_) (fun hne => ?_)
  · refine W.seq ?_
    refine W.region ?_
    refine WL.val (OpVal.opv rfl) rfl rfl rfl ?_
    refine WL.val (OpVal.opv rfl) rfl rfl rfl ?_
    refine WL.val (OpVal.opv rfl) rfl rfl rfl ?_
    refine WL.nil ?_
    refine Kseq.go ?_
    refine W.ret ?_; refine Kseq.ret ?_; refine ⟨.inl rfl, [_, _], h, ⟨.tmp rfl, .tmp rfl, trivial⟩, (by repeat (first | exact .head _ | refine .tail _ ?_)), ?_⟩
    have he' : fault t ≠ 0 := by simpa using he
    refine .inl ?_
    unfold askE
    rw [if_neg he']
    exact ⟨he', rfl⟩
  have hf0 : fault t = 0 := by simpa using hne
  have hVa := fault_zero.1 hf0
  have hp7 := hVa.pieces
  refine W.skip (Kseq.go (W.seq ?_))
  skip
  refine W.region ?_
  refine WL.val (OpVal.loadPW rfl (by assumption) (by repeat (first | exact .head _ | refine .tail _ ?_)) (by rfl)) rfl rfl rfl ?_
  (refine WL.makeMap rfl rfl rfl (fun b14 => ?_))
  refine WL.val (OpVal.build #[wv, pv, vi t.wrong, .slice none 0 0, .map (some b14)] rfl rfl) rfl rfl rfl ?_
  refine WL.box rfl rfl rfl rfl (fun b16 => ?_)
  refine WL.alloc rfl rfl rfl (fun b5 => ?_)
  refine WL.store [_] rfl (.head _) rfl rfl rfl (Nat.le_of_ble_eq_true rfl) (by first | (simp [Value.cells, Value.oneCell']; done) | exact IsArr.ones hW (by omega) | exact IsArr.ones hP (by omega) | exact IsArr.ones hS (by omega) | exact IsArr.ones hH (by omega) | exact IsArr.ones hL (by omega) | exact IsArr.ones hB (by omega) | exact IsArr.ones hT (by omega) | exact IsArr.ones hm (by omega)) rfl ?_
  refine WL.nil ?_
  refine Kseq.go (W.seq (W.seq ?_))
  refine W.freezeBox (.head _) (fun b hb => (hF b hb).elim) fun m5 h5 => ?_
  skip
  refine W.region ?_
  refine WL.val (OpVal.loadPW rfl (by assumption) (by repeat (first | exact .head _ | refine .tail _ ?_)) (by rfl)) rfl rfl rfl ?_
  refine WL.abs (OpAbs.call rfl (fun m hm => lists_any (hv'.le (by repeat (first | exact hm.1 | replace hm := hm.2))))) rfl rfl rfl ?_
  rintro m18 v18 h18
  refine WL.nil ?_
  refine Kseq.go (W.block ?_)
  obtain ⟨bl, rfl, hl18⟩ := h18
  refine W.join fun mj hj => ?_
  have hvj := hv'.le (hj h (by simp))
  have h1j := h1.le (hj m1 (by simp))
  have h5j := h5.le (hj m5 (by simp))
  have hl18j := hl18.le (hj m18 (by simp))
  clear h1 h5 hl18
  refine W.nilRow 92 7 ?_
  let cs : Value → Array Value := fun tv => #[wv, pv, vi t.wrong, tv, .map (some b14)]
  let St : Nat → List Mem → List Res → Prop := fun k Ms μ => Ms = [mj] ∧ ∃ tv es clock, μ = [kr 92 7 tv ((askTo t k).map ownV), .blk b16 (cs tv) 80, .obj b14 (.map es clock)] ∧ MapG vq (fun xs => xs.length = 2) (vi 0) es clock (manyG (askTo t k))
  skip
  refine W.rangeFunc (M0 := [mj]) (M1 := [mj]) hr rfl (lists1_any hs hp7 hvj hl18j) (by simp) (Split.all _) rfl St (fun _ _ _ => False) ⟨rfl, .slice none 0 0, #[], 0, rfl, MapG.empty _ _ _ |>.congr ?_⟩ (by simp) (by rintro k Ms μ ⟨_, _, _, _, rfl, _⟩; rfl) (by rintro e Ms μ h; exact h.elim) rfl (by decide) (fun k hk l0 Ms' μ' hSt c' hr' hD' => ?_) (fun D Ms' μ' hSt => ?_) (fun D Ms' μ' hXt => hXt.elim) (fun D id Ms' μ' hXt => hXt.elim)
  · intro y _
    unfold manyG
    split <;> rfl
  · obtain ⟨rfl, tv, es, clock, rfl, hG⟩ := hSt
    have hare := allOwners_at hk
    have hown := owns_of hare hp7
    obtain ⟨l, hl⟩ : ∃ l, (allOwners t).getD k [] = l := ⟨_, rfl⟩
    have hit : itemV t k = ownV l := by rw [← hl]; rfl
    rw [hl] at hown hare
    rw [hit]
    have hll := hown.len
    have hpl : (pad l).length = 7 := pad_len (by omega)
    have hN : ((askTo t k).map ownV).length = (askTo t k).length := by simp
    have hNb : (askTo t k).length ≤ 2000 := Nat.le_trans (askTo_len t k) (allOwners_many hVa.many).2
    have h7s : ∀ x ∈ askTo t k, x.length ≤ 7 := fun x hx => by have := (areOwners_iff.1 (ask_mem hx).2).1; omega
    obtain ⟨N, hNe⟩ : ∃ N, ((askTo t k).map ownV).length = N := ⟨_, rfl⟩
    have hwl : (wrongP t l).length ≤ t.women.length := sel_len _ _
    have hs1 := hs.1
    skip
    refine W.region ?_
    refine WL.alloc rfl rfl rfl (fun b6 => ?_)
    (refine WL.storeAll rfl (.head _) rfl rfl (by rw [List.size_toArray, List.length_map]; exact hpl) (by rfl) (by simp [Value.oneCell']) ?_)
    refine WL.nil ?_
    skip
    refine ⟨rfl, fun c2 hr2 hD2 => ⟨rfl, ?_⟩⟩
    refine W.block (W.seq (W.seq ?_))
    refine W.toS [(1, .pointer (some ⟨b1, 0, none⟩)), (5, .pointer (some ⟨b5, 0, none⟩)), (6, .pointer (some ⟨b6, 0, none⟩)), (50, .bool (decide (t.wrong < ((wrongP t l).length : Int))))] ?_ ?_
    · skip
      refine W.draw 28 (by kernel_rfl) (by kernel_rfl) (by kernel_rfl) rfl ?_
      refine DJ.val [] (OpVal.loadPW rfl (by assumption) (by repeat (first | exact .head _ | refine .tail _ ?_)) (by rfl)) rfl rfl rfl rfl ?_
      refine DJ.val [] (OpVal.loadBW rfl (.head _) (by rw [List.size_toArray, List.length_map]; exact hpl)) rfl rfl rfl rfl ?_
      refine DJ.abs (A := fun m r => IsInts m r (wrongP t l)) [] (OpAbs.call rfl (fun m hm => wrong_any (hvj.le (by repeat (first | exact hm.1 | replace hm := hm.2))) hs hown)) rfl rfl rfl rfl ?_
      refine DJ.val [(22, fun m r => IsInts m r (wrongP t l))] (fun m22 v22 h22 => OpVal.len rfl (by assumption)) rfl rfl rfl rfl ?_ (hG := ⟨(by repeat (first | exact .head _ | refine .tail _ ?_)), rfl, trivial⟩)
      refine DJ.val [] (OpVal.fieldAddrB rfl) rfl rfl rfl rfl ?_
      refine DJ.val [] (OpVal.loadP rfl (by assumption) (by repeat (first | exact .head _ | refine .tail _ ?_)) rfl) rfl rfl rfl rfl ?_
      refine DJ.val [] (OpVal.opv rfl) rfl rfl rfl rfl ?_
      refine DJ.val [] (OpVal.opv rfl) rfl rfl rfl rfl ?_
      refine DJ.split rfl rfl (fun g27 => ?_) (fun g27 => ?_)
      · refine DJ.pass rfl rfl rfl rfl ?_
        refine DJ.pass rfl rfl rfl rfl ?_
        refine DJ.pass rfl rfl rfl rfl ?_
        refine DJ.pass rfl rfl rfl rfl ?_
        refine DJ.pass rfl rfl rfl rfl ?_
        refine DJ.pass rfl rfl rfl rfl ?_
        refine DJ.pass rfl rfl rfl rfl ?_
        refine DJ.pass rfl rfl rfl rfl ?_
        refine DJ.pass rfl rfl rfl rfl ?_
        refine DJ.pass rfl rfl rfl rfl ?_
        refine DJ.pass rfl rfl rfl rfl ?_
        refine DJ.pass rfl rfl rfl rfl ?_
        refine DJ.pass rfl rfl rfl rfl ?_
        refine DJ.pass rfl rfl rfl rfl ?_
        refine DJ.pass rfl rfl rfl rfl ?_
        refine DJ.pass rfl rfl rfl rfl ?_
        refine DJ.pass rfl rfl rfl rfl ?_
        refine DJ.pass rfl rfl rfl rfl ?_
        refine DJ.pass rfl rfl rfl rfl ?_
        refine DJ.pass rfl rfl rfl rfl ?_
        refine DJ.nil ?_
        rintro m22 v22 h22
        refine WL.pass rfl rfl rfl ?_
        refine WL.pass rfl rfl rfl ?_
        refine WL.val (OpVal.opv rfl) rfl rfl rfl ?_
        refine WL.nil ?_
        skip
        exact Keff.intro ⟨rfl, rfl, rfl, congrArg (fun b => some (Value.bool b)) (by simp [g27]), trivial⟩ (by simp) (by repeat (first | exact List.Sublist.refl _ | refine List.Sublist.cons _ ?_ | refine List.Sublist.cons_cons _ ?_))
      · refine DJ.val [] (OpVal.loadP rfl (by assumption) (by repeat (first | exact .head _ | refine .tail _ ?_)) rfl) rfl rfl rfl rfl ?_
        refine DJ.val [] (OpVal.opv rfl) rfl rfl rfl rfl ?_
        refine DJ.val [] (OpVal.fieldAddrB rfl) rfl rfl rfl rfl ?_
        refine DJ.val [] (OpVal.loadB rfl (.tail _ (.tail _ (.head _))) rfl) rfl rfl rfl rfl ?_
        refine DJ.val [] (OpVal.lenR rfl (by repeat (first | exact .head _ | refine .tail _ ?_))) rfl rfl rfl rfl ?_
        refine DJ.val [] (OpVal.opv rfl) rfl rfl rfl rfl ?_
        refine DJ.val [] (OpVal.opv rfl) rfl rfl rfl rfl ?_
        refine DJ.split rfl rfl (fun g34 => ?_) (fun g34 => ?_)
        · refine DJ.val [] (OpVal.loadP rfl (by assumption) (by repeat (first | exact .head _ | refine .tail _ ?_)) rfl) rfl rfl rfl rfl ?_
          refine DJ.val [] (OpVal.opv rfl) rfl rfl rfl rfl ?_
          refine DJ.val [] (OpVal.fieldAddrB rfl) rfl rfl rfl rfl ?_
          refine DJ.val [] (OpVal.loadB rfl (.tail _ (.tail _ (.head _))) rfl) rfl rfl rfl rfl ?_
          refine DJ.val [] (OpVal.loadP rfl (by assumption) (by repeat (first | exact .head _ | refine .tail _ ?_)) rfl) rfl rfl rfl rfl ?_
          refine DJ.val [] (OpVal.opv rfl) rfl rfl rfl rfl ?_
          refine DJ.val [] (OpVal.fieldAddrB rfl) rfl rfl rfl rfl ?_
          refine DJ.val [] (OpVal.loadB rfl (.tail _ (.tail _ (.head _))) rfl) rfl rfl rfl rfl ?_
          refine DJ.val [] (OpVal.lenR rfl (by repeat (first | exact .head _ | refine .tail _ ?_))) rfl rfl rfl rfl ?_
          refine DJ.val [] ((OpVal.sub rfl rfl (by omega) (by omega)).cast (congrArg (Value.int .i64) (show (((askTo t k).map ownV).length : Int) - 1 = ((((askTo t k).map ownV).length - 1 : Nat) : Int) by omega))) rfl rfl rfl rfl ?_
          refine DJ.val [] (OpVal.indexAddrR rfl rfl (by repeat (first | exact .head _ | refine .tail _ ?_)) (by omega)) rfl rfl rfl rfl ?_
          refine DJ.val [] (OpVal.loadRA (vs := (pad ((askTo t k).getD (((askTo t k).map ownV).length - 1) [])).map vi) rfl (by repeat (first | exact .head _ | refine .tail _ ?_)) (by omega) (row_own h7s (by omega)) (by rw [List.length_map]; exact pad_len (h7s _ (by rw [List.getD_eq_getElem?_getD, List.getElem?_eq_getElem (by omega)]; exact List.getElem_mem _)))) rfl rfl rfl rfl ?_
          refine DJ.val [] (OpVal.loadBW rfl (.head _) (by rw [List.size_toArray, List.length_map]; exact hpl)) rfl rfl rfl rfl ?_
          refine DJ.nil ?_
          rintro m22 v22 h22
          refine WL.val ((OpVal.eqQ (N := 7) (enc := vi) rfl rfl (pad_len (h7s _ (by rw [List.getD_eq_getElem?_getD, List.getElem?_eq_getElem (by omega)]; exact List.getElem_mem _))) hpl).cast (congrArg Value.bool (decide_eq_false (fun e => by
                  have hm : (askTo t k).getD (((askTo t k).map ownV).length - 1) [] ∈ askTo t k := by rw [List.getD_eq_getElem?_getD, List.getElem?_eq_getElem (by omega)]; exact List.getElem_mem _
                  refine askTo_fresh hk hm ?_
                  rw [hl]
                  refine pad_inj ?_ e
                  have := (areOwners_iff.1 (ask_mem hm).2).1
                  omega)))) rfl rfl rfl ?_
          refine WL.val (OpVal.opv rfl) rfl rfl rfl ?_
          refine WL.val (OpVal.opv rfl) rfl rfl rfl ?_
          refine WL.nil ?_
          skip
          exact Keff.intro ⟨rfl, rfl, rfl, congrArg (fun b => some (Value.bool b)) (by simp [g27]), trivial⟩ (by simp) (by repeat (first | exact List.Sublist.refl _ | refine List.Sublist.cons _ ?_ | refine List.Sublist.cons_cons _ ?_))
        · refine DJ.pass rfl rfl rfl rfl ?_
          refine DJ.pass rfl rfl rfl rfl ?_
          refine DJ.pass rfl rfl rfl rfl ?_
          refine DJ.pass rfl rfl rfl rfl ?_
          refine DJ.pass rfl rfl rfl rfl ?_
          refine DJ.pass rfl rfl rfl rfl ?_
          refine DJ.pass rfl rfl rfl rfl ?_
          refine DJ.pass rfl rfl rfl rfl ?_
          refine DJ.pass rfl rfl rfl rfl ?_
          refine DJ.pass rfl rfl rfl rfl ?_
          refine DJ.pass rfl rfl rfl rfl ?_
          refine DJ.pass rfl rfl rfl rfl ?_
          refine DJ.pass rfl rfl rfl rfl ?_
          refine DJ.nil ?_
          rintro m22 v22 h22
          refine WL.pass rfl rfl rfl ?_
          refine WL.val (OpVal.opv rfl) rfl rfl rfl ?_
          refine WL.val (OpVal.opv rfl) rfl rfl rfl ?_
          refine WL.nil ?_
          skip
          exact Keff.intro ⟨rfl, rfl, rfl, congrArg (fun b => some (Value.bool b)) (by simp [g27]), trivial⟩ (by simp) (by repeat (first | exact List.Sublist.refl _ | refine List.Sublist.cons _ ?_ | refine List.Sublist.cons_cons _ ?_))
    refine Kseq.go ?_
    refine W.condD rfl rfl (fun hw => ?_) (fun hw => ?_)
    · have hno : isTruthP t ((allOwners t).getD k []) = false := by rw [hl]; unfold isTruthP; exact decide_eq_false (by omega)
      refine W.exit (Kseq.exit (Kblock.here ?_))
      refine ⟨[mj], [kr 92 7 tv ((askTo t k).map ownV), .blk b16 (cs tv) 80, .obj b14 (.map es clock)], ⟨rfl, tv, es, clock, by rw [askTo_no hk hno], by rw [askTo_no hk hno]; exact hG⟩, by simp, (by repeat (first | exact List.Sublist.refl _ | refine List.Sublist.cons _ ?_ | refine List.Sublist.cons_cons _ ?_)), by simp [markOf]⟩
    have hyes : isTruthP t ((allOwners t).getD k []) = true := by rw [hl]; unfold isTruthP; exact decide_eq_true (by omega)
    have hA1 : askTo t (k + 1) = askTo t k ++ [l] := by rw [askTo_yes hk hyes, hl]
    refine W.skip (Kseq.go (W.seq ?_))
    refine W.draw2g 8 7 58 (fun g : Option Addr × Nat => Value.slice g.1 (((askTo t k).map ownV).length + 1) g.2) (fun g => [.blk b6 ((pad l).map vi).toArray 92, kr 92 7 (.slice g.1 (((askTo t k).map ownV).length + 1) g.2) ((askTo t k).map ownV ++ [ownV l]), .blk b16 (cs tv) 80, .obj b14 (.map es clock)]) (by kernel_rfl) (by kernel_rfl) (by kernel_rfl) rfl rfl ?_
    refine DJ2.val [] (.inr (OpVal.loadP rfl (by assumption) (by repeat (first | exact .head _ | refine .tail _ ?_)) rfl)) (.inr (fun g => OpVal.loadP rfl (by assumption) (by repeat (first | exact .head _ | refine .tail _ ?_)) rfl)) rfl (fun _ => rfl) rfl rfl rfl (fun _ => rfl) rfl ?_
    refine DJ2.val [] (.inr (OpVal.loadP rfl (by assumption) (by repeat (first | exact .head _ | refine .tail _ ?_)) rfl)) (.inr (fun g => OpVal.loadP rfl (by assumption) (by repeat (first | exact .head _ | refine .tail _ ?_)) rfl)) rfl (fun _ => rfl) rfl rfl rfl (fun _ => rfl) rfl ?_
    refine DJ2.val [] (.inr (OpVal.opv rfl)) (.inr (fun g => OpVal.opv rfl)) rfl (fun _ => rfl) rfl rfl rfl (fun _ => rfl) rfl ?_
    refine DJ2.val [] (.inr (OpVal.fieldAddrB rfl)) (.inr (fun g => OpVal.fieldAddrB rfl)) rfl (fun _ => rfl) rfl rfl rfl (fun _ => rfl) rfl ?_
    refine DJ2.val [] (.inr (OpVal.loadB rfl (.tail _ (.tail _ (.head _))) rfl)) (.inl rfl) rfl (fun _ => rfl) rfl rfl rfl (fun _ => rfl) rfl ?_
    refine DJ2.val [] (.inr (OpVal.loadBW rfl (.head _) (by rw [List.size_toArray, List.length_map]; exact hpl))) (.inr (fun g => OpVal.loadBW rfl (.head _) (by rw [List.size_toArray, List.length_map]; exact hpl))) rfl (fun _ => rfl) rfl rfl rfl (fun _ => rfl) rfl ?_
    refine DJ2.abs (A := fun m r => IsCells m 7 r 1 ((pad l).map vi)) [] (.inr (OpAbs.mono (OpAbs.lit ((pad l).map vi) rfl (Nat.le_of_ble_eq_true rfl) rfl rfl (by simp [Value.cells, hpl]) (Nat.le_of_ble_eq_true rfl) (by simp [Value.cells]) (by simp [Value.oneCell'])) (fun m' v' h' => h'.1))) (.inl rfl) rfl (fun _ => rfl) rfl rfl rfl (fun _ => rfl) rfl ?_
    refine DJ2.effG [(55, _)] ⟨rfl, trivial⟩ rfl rfl rfl [(57, fun m r => IsCells m 7 r 1 ((pad l).map vi))] ⟨(by repeat (first | exact .head _ | refine .tail _ ?_)), rfl, trivial⟩ (fun M2 hM2 => ?_) ?_
    · intro m57 v57 h57
      (refine WL.appK (ownV l) rfl (fun _ => .tail _ (.head _)) rfl h57 (.head _) (ownV_cells l) rfl (by omega) (by omega) (Nat.le_of_ble_eq_true rfl) rfl rfl rfl ?_; intro a58 c58; exact WL.nil ⟨(a58, c58), Keff.intro (by repeat (first | exact trivial | refine ⟨rfl, ?_⟩)) (fun m hm => .tail _ hm) (.refl _)⟩)
    refine DJ2.nil (fun g => ?_)
    rintro m57 v57 h57
    refine WL.val (OpVal.opv rfl) rfl rfl rfl ?_
    refine WL.val (OpVal.fieldAddrB rfl) rfl rfl rfl ?_
    refine WL.store [_, _, _, _, _] rfl (.tail _ (.tail _ (.head _))) rfl rfl rfl (Nat.le_of_ble_eq_true rfl) (by first | (simp [Value.cells, Value.oneCell']; done) | exact IsArr.ones hW (by omega) | exact IsArr.ones hP (by omega) | exact IsArr.ones hS (by omega) | exact IsArr.ones hH (by omega) | exact IsArr.ones hL (by omega) | exact IsArr.ones hB (by omega) | exact IsArr.ones hT (by omega) | exact IsArr.ones hm (by omega)) rfl ?_
    refine WL.nil ?_
    refine Kseq.go (W.seq ?_)
    obtain ⟨g1, g2⟩ := g
    dsimp only
    let tv2 : Value := .slice g1 (((askTo t k).map ownV).length + 1) g2
    skip
    refine W.region ?_
    refine WL.val (OpVal.fieldAddrB rfl) rfl rfl rfl ?_
    refine WL.val (OpVal.loadP rfl (by assumption) (by repeat (first | exact .head _ | refine .tail _ ?_)) rfl) rfl rfl rfl ?_
    refine WL.val (OpVal.len rfl (by assumption)) rfl rfl rfl ?_
    refine WL.val (OpVal.opv rfl) rfl rfl rfl ?_
    refine WL.nil ?_
    refine Kseq.go (W.block ?_)
    refine W.loop (σ := Nat × Array MapEntry × Nat) (fun s => [(1, .pointer (some ⟨b1, 0, none⟩)), (5, .pointer (some ⟨b5, 0, none⟩)), (6, .pointer (some ⟨b6, 0, none⟩)), (63, .int .i64 (t.pieces.length : Int)), (64, .int .i64 (s.1 : Int))]) (fun _ => [mj])
      (fun s => [.blk b6 ((pad l).map vi).toArray 92, kr 92 7 tv2 ((askTo t k).map ownV ++ [ownV l]), .blk b16 (cs tv2) 80, .obj b14 (.map s.2.1 s.2.2)])
      (fun s => s.1 ≤ t.pieces.length ∧ MapG vq (fun xs => xs.length = 2) (vi 0) s.2.1 s.2.2 (manyG (askTo t k ++ [l.take s.1]))) (fun s => t.pieces.length - s.1) (0, es, clock) ⟨rfl, rfl, rfl, rfl, rfl, trivial⟩ (by simp) (.refl _) ⟨Nat.zero_le _, hG.congr (fun y _ => by rw [List.take_zero]; exact (manyG_nil _ _).symm)⟩ ?_
    rintro ⟨i, es1, clock1⟩ ⟨hi, hG1⟩
    dsimp only at hi hG1 ⊢
    refine W.seq ?_
    refine W.region ?_
    refine WL.val (OpVal.opv rfl) rfl rfl rfl ?_
    refine WL.nil ?_
    refine Kseq.go (W.seq ?_)
    refine W.condD rfl rfl (fun hlt => ?_) (fun hge => ?_)
    · have hil : i < l.length := by omega
      have hcb := cntQ_le (askTo t k ++ [l.take i]) i (l.getD i 0)
      rw [List.length_append] at hcb
      have hcb' : cntQ (askTo t k ++ [l.take i]) i (l.getD i 0) ≤ 2001 := Nat.le_trans hcb (by simp; omega)
      refine W.skip (Kseq.go (W.seq (W.block (W.seq ?_))))
      refine W.region ?_
      refine WL.val (OpVal.opv rfl) rfl rfl rfl ?_
      refine WL.val (OpVal.opv rfl) rfl rfl rfl ?_
      refine WL.nil ?_
      refine Kseq.go ?_
      skip
      refine W.draw2g 13 11 78 (fun _ : Unit => .tuple #[vi (cntQ (askTo t k ++ [l.take i]) i (l.getD i 0)), vi (mapEnt es1 clock1 (vq [(i : Int), l.getD i 0]) (vi 0)).2.2]) (fun _ => [.blk b6 ((pad l).map vi).toArray 92, kr 92 7 tv2 ((askTo t k).map ownV ++ [ownV l]), .blk b16 (cs tv2) 80, .obj b14 (.map (mapEnt es1 clock1 (vq [(i : Int), l.getD i 0]) (vi 0)).1 (mapEnt es1 clock1 (vq [(i : Int), l.getD i 0]) (vi 0)).2.1)]) (by kernel_rfl) (by kernel_rfl) (by kernel_rfl) rfl rfl ?_
      refine DJ2.val [] (.inr (OpVal.loadP rfl (by assumption) (by repeat (first | exact .head _ | refine .tail _ ?_)) rfl)) (.inl rfl) rfl (fun _ => rfl) rfl rfl rfl (fun _ => rfl) rfl ?_
      refine DJ2.val [] (.inr (OpVal.opv rfl)) (.inl rfl) rfl (fun _ => rfl) rfl rfl rfl (fun _ => rfl) rfl ?_
      refine DJ2.val [] (.inr (OpVal.fieldAddrB rfl)) (.inl rfl) rfl (fun _ => rfl) rfl rfl rfl (fun _ => rfl) rfl ?_
      refine DJ2.val [] (.inr (OpVal.loadB rfl (.tail _ (.tail _ (.head _))) rfl)) (.inl rfl) rfl (fun _ => rfl) rfl rfl rfl (fun _ => rfl) rfl ?_
      refine DJ2.val [] (.inr (OpVal.opv rfl)) (.inl rfl) rfl (fun _ => rfl) rfl rfl rfl (fun _ => rfl) rfl ?_
      refine DJ2.val [] (.inr (OpVal.opv rfl)) (.inl rfl) rfl (fun _ => rfl) rfl rfl rfl (fun _ => rfl) rfl ?_
      refine DJ2.val [] (.inr (OpVal.indexAddrB rfl rfl (by omega))) (.inl rfl) rfl (fun _ => rfl) rfl rfl rfl (fun _ => rfl) rfl ?_
      refine DJ2.val [] (.inr (OpVal.loadB rfl (by repeat (first | exact .head _ | refine .tail _ ?_)) (pad_at hil))) (.inl rfl) rfl (fun _ => rfl) rfl rfl rfl (fun _ => rfl) rfl ?_
      refine DJ2.val [] (.inr (OpVal.build2 rfl rfl)) (.inl rfl) rfl (fun _ => rfl) rfl rfl rfl (fun _ => rfl) rfl ?_
      refine DJ2.val [] (.inr ((by first | exact OpVal.cast (OpVal.lookupR (k := [(i : Int), l.getD i 0]) rfl rfl (.tail _ (.tail _ (.tail _ (.head _)))) hG1 rfl) (show manyG _ _ = vi (cntQ (askTo t k ++ [l.take i]) i (l.getD i 0)) from rfl) | exact OpVal.cast (OpVal.lookupR (k := [(i : Int), l.getD i 0]) rfl rfl (.tail _ (.tail _ (.tail _ (.head _)))) (mapEnt_spec hG1 rfl).1 rfl) (show manyG _ _ = vi (cntQ (askTo t k ++ [l.take i]) i (l.getD i 0)) from rfl)))) (.inr (fun g => (by first | exact OpVal.cast (OpVal.lookupR (k := [(i : Int), l.getD i 0]) rfl rfl (.tail _ (.tail _ (.tail _ (.head _)))) hG1 rfl) (show manyG _ _ = vi (cntQ (askTo t k ++ [l.take i]) i (l.getD i 0)) from rfl) | exact OpVal.cast (OpVal.lookupR (k := [(i : Int), l.getD i 0]) rfl rfl (.tail _ (.tail _ (.tail _ (.head _)))) (mapEnt_spec hG1 rfl).1 rfl) (show manyG _ _ = vi (cntQ (askTo t k ++ [l.take i]) i (l.getD i 0)) from rfl)))) rfl (fun _ => rfl) rfl rfl rfl (fun _ => rfl) rfl ?_
      refine DJ2.val [] (.inr (OpVal.incr rfl (by omega))) (.inr (fun g => OpVal.incr rfl (by omega))) rfl (fun _ => rfl) rfl rfl rfl (fun _ => rfl) rfl ?_
      refine DJ2.eff [(70, _), (75, _)] ⟨rfl, rfl, trivial⟩ rfl rfl rfl (fun M2 hM2 => ?_) ?_
      · (refine WL.mapEntry (k := [(i : Int), l.getD i 0]) rfl rfl hG1 rfl (.tail _ (.tail _ (.tail _ (.head _)))) rfl rfl rfl ?_; exact WL.nil ⟨(), Keff.intro (by repeat (first | exact trivial | refine ⟨rfl, ?_⟩)) (fun m hm => hm) (.refl _)⟩)
      refine DJ2.val [] (.inl rfl) (.inr (fun g => OpVal.opv rfl)) rfl (fun _ => rfl) rfl rfl rfl (fun _ => rfl) rfl ?_
      refine DJ2.nil (fun g => ?_)
      (refine WL.entryStore (k := [(i : Int), l.getD i 0]) rfl rfl rfl hG1 rfl (fun _ _ => .tail _ (.tail _ (.tail _ (.head _)))) rfl ?_; intro es2 clock2 hG2)
      refine WL.nil ?_
      refine Kblock.normal (Kseq.go ?_)
      skip
      refine W.region ?_
      refine WL.val (OpVal.incr rfl (by omega)) rfl rfl rfl ?_
      refine WL.val (OpVal.opv rfl) rfl rfl rfl ?_
      refine WL.nil ?_
      skip
      refine Kloop.next (i + 1, es2, clock2) ⟨by omega, hG2.congr (fun y _ => manyG_step _ _ hil y)⟩ (by omega) ⟨rfl, rfl, rfl, rfl, rfl, trivial⟩ (by simp) (.refl _)
    · have hip : i = t.pieces.length := by omega
      subst hip
      rw [← hll, List.take_length] at hG1
      refine W.exit (Kseq.exit (Kloop.exit (Kblock.here (Kblock.normal ?_))))
      refine ⟨[mj], [kr 92 7 tv2 ((askTo t (k + 1)).map ownV), .blk b16 (cs tv2) 80, .obj b14 (.map es1 clock1)], ⟨rfl, tv2, es1, clock1, rfl, by rw [hA1]; exact hG1⟩, by simp, ?_, by simp [markOf]⟩
      rw [hA1, List.map_append]
      exact (by repeat (first | exact List.Sublist.refl _ | refine List.Sublist.cons _ ?_ | refine List.Sublist.cons_cons _ ?_))
  · obtain ⟨rfl, tv, es, clock, rfl, hG⟩ := hSt
    rw [askTo_all (Nat.le_refl _)] at hG ⊢
    have hN : ((ask t).map ownV).length = (ask t).length := by simp
    refine Kblock.normal (Kseq.go (W.seq (W.seq ?_)))
    skip
    refine W.region ?_
    refine WL.val (OpVal.loadP rfl (by assumption) (by repeat (first | exact .head _ | refine .tail _ ?_)) rfl) rfl rfl rfl ?_
    refine WL.val (OpVal.opv rfl) rfl rfl rfl ?_
    refine WL.val (OpVal.fieldAddrB rfl) rfl rfl rfl ?_
    refine WL.val (OpVal.loadB rfl (.tail _ (.tail _ (.head _))) rfl) rfl rfl rfl ?_
    refine WL.val (OpVal.lenR rfl (by repeat (first | exact .head _ | refine .tail _ ?_))) rfl rfl rfl ?_
    refine WL.val (OpVal.opv rfl) rfl rfl rfl ?_
    refine WL.nil ?_
    refine Kseq.go ?_
    refine W.condD rfl rfl (fun hz => ?_) (fun hz => ?_)
    · refine W.seq ?_
      refine W.region ?_
      refine WL.val (OpVal.opv rfl) rfl rfl rfl ?_
      refine WL.val (OpVal.opv rfl) rfl rfl rfl ?_
      refine WL.nil ?_
      refine Kseq.go ?_
      refine W.ret ?_; refine Kseq.ret ?_; refine ⟨.inl rfl, [_, _], mj, ⟨.tmp rfl, .tmp rfl, trivial⟩, (by repeat (first | exact .head _ | refine .tail _ ?_)), ?_⟩
      have hnil : ask t = [] := List.length_eq_zero_iff.1 (by omega)
      refine .inl ?_
      unfold askE
      rw [if_pos hf0, if_pos hnil]
      exact ⟨by decide, rfl⟩
    · have hnil : ask t ≠ [] := fun e => hz (by rw [e]; rfl)
      have h7s : ∀ x ∈ ask t, x.length ≤ 7 := fun x hx => by have := (areOwners_iff.1 (ask_are hx)).1; omega
      refine W.skip (Kseq.go (W.seq ?_))
      refine W.freezeK (.tail _ (.head _)) (fun b hb => (hF b hb).elim) (by omega) ?_ ?_ fun mr hmr => ?_
      · intro u hu
        obtain ⟨x, hx, rfl⟩ := List.mem_map.1 hu
        simp [Value.cells, pad_len (h7s x hx)]
      · intro u hu y hy
        obtain ⟨x, hx, rfl⟩ := List.mem_map.1 hu
        rw [ownV_cells] at hy
        obtain ⟨z, _, rfl⟩ := List.mem_map.1 hy
        rfl
      refine W.freezeMap (.tail _ (.tail _ (.head _))) (fun b hb => (hF b hb).elim) hG fun mm hmm => ?_
      refine W.freezeBox (.tail _ (.head _)) (fun b hb => (hF b hb).elim) fun mb hmb => ?_
      refine W.join fun mk hmk => ?_
      skip
      refine W.region ?_
      refine WL.val (OpVal.loadP rfl (by assumption) (by repeat (first | exact .head _ | refine .tail _ ?_)) rfl) rfl rfl rfl ?_
      refine WL.val (OpVal.opv rfl) rfl rfl rfl ?_
      refine WL.val (OpVal.opv rfl) rfl rfl rfl ?_
      refine WL.nil ?_
      refine Kseq.go ?_
      refine W.ret ?_; skip; refine ⟨.inl rfl, [_, _], mk, ⟨.tmp rfl, .tmp rfl, trivial⟩, (by repeat (first | exact .head _ | refine .tail _ ?_)), ?_⟩
      refine .inr ⟨hVa, hnil, b16, rfl, wv, pv, tv, b14, rfl, hmb.le (hmk _ (by simp)), ?_, hmm.le (hmk _ (by simp))⟩
      rw [← hN]
      refine IsArr.le (hmr.congr fun i j hi hj => ?_) (hmk _ (by simp))
      rw [hN] at hi
      rw [show ((ask t).map ownV).getD i undef = ownV ((ask t).getD i []) by simp [List.getD_eq_getElem?_getD, List.getElem?_eq_getElem hi]]
      simp [Value.cells, List.getD_eq_getElem?_getD]
end Go.Proofs.Ytbmohbeocnfefaa
