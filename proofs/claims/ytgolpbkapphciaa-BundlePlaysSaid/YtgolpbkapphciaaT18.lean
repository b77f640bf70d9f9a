/- The program's function possible: its contract. -/
import Derived.Test.YtgolpbkapphciaaT17
namespace Go.Proofs.Ytgolpbkapphciaa
open Go Go.Eng Go.RowKit

/-- possible's inner function -/
theorem possibleIn_any {h : Mem} {b : Nat} {ov : Value} {out : List Int} (x : Int) (hb : IsBox h b #[ov] 39) (ho : IsInts h ov out) : FnV Try.prog 100 #[.int .i64 x, .pointer (some ⟨b, 0, none⟩)] h (.bool (decide (x ∈ out))) := by
  refine FnR.val ?_
  refine FnR.of_W (n := 7) Try.func100 rfl rfl (Nat.le_of_ble_eq_true rfl) fun c hr hD hF => ?_
  refine W.seq ?_
  refine W.region ?_
  refine WL.val (OpVal.opv rfl) rfl rfl rfl ?_
  refine WL.nil ?_
  refine Kseq.go (W.seq ?_)
  skip
  refine W.region ?_
  refine WL.val (OpVal.loadP rfl (by assumption) (by repeat (first | exact .head _ | refine .tail _ ?_)) rfl) rfl rfl rfl ?_
  refine WL.val (OpVal.opv rfl) rfl rfl rfl ?_
  refine WL.val (OpVal.call rfl (fun m hm => contains_any _ (ho.le (by repeat (first | exact hm.1 | replace hm := hm.2))))) rfl rfl rfl ?_
  refine WL.val (OpVal.opv rfl) rfl rfl rfl ?_
  refine WL.nil ?_
  refine Kseq.go ?_
  refine W.ret ?_; skip; refine ⟨.inl rfl, [_], h, ⟨.tmp rfl, trivial⟩, (by repeat (first | exact .head _ | refine .tail _ ?_)), ?_⟩
  rfl

/-- possible -/
theorem possible_any {h : Mem} {v ov : Value} {t : Table} {out : List Int} (hv : IsTable h v t) (hs : Sm t) (hp7 : t.pieces.length ≤ 7) (ho : IsInts h ov out) : FnV Try.prog 75 #[v, ov] h (.bool (possibleB t out)) := by
  have hv' := hv
  obtain ⟨wv, pv, f, rfl, hW, hP, hM⟩ := hv
  obtain ⟨oa, oc, rfl⟩ := IsArr.form ho
  refine FnR.val ?_
  refine FnR.of_W (n := 14) Try.func75 rfl rfl (Nat.le_of_ble_eq_true rfl) fun c hr hD hF => ?_
  refine W.seq ?_
  refine W.region ?_
  refine WL.box rfl rfl rfl rfl (fun b2 => ?_)
  refine WL.box rfl rfl rfl rfl (fun b3 => ?_)
  refine WL.alloc rfl rfl rfl (fun b4 => ?_)
  refine WL.nil ?_
  refine Kseq.go (W.seq (W.seq ?_))
  refine W.freezeBox (.tail _ (.head _)) (fun b hb => (hF b hb).elim) fun m3 h3 => ?_
  refine W.freezeBox (.tail _ (.head _)) (fun b hb => (hF b hb).elim) fun m2 h2 => ?_
  skip
  refine W.region ?_
  refine WL.val (OpVal.loadPW rfl (by assumption) (by repeat (first | exact .head _ | refine .tail _ ?_)) (by rfl)) rfl rfl rfl ?_
  refine WL.abs (OpAbs.call rfl (fun m hm => lists_any (hv'.le (by repeat (first | exact hm.1 | replace hm := hm.2))))) rfl rfl rfl ?_
  rintro m7 v7 h7
  refine WL.nil ?_
  refine Kseq.go (W.block ?_)
  obtain ⟨b1, rfl, h1⟩ := h7
  refine W.join fun mj hj => ?_
  have hvj := hv'.le (hj h (by simp))
  have h3j := h3.le (hj m3 (by simp))
  have h2j := h2.le (hj m2 (by simp))
  have hoj := IsInts.le ho (hj h (by simp))
  skip
  let St : Nat → List Mem → List Res → Prop := fun k Ms μ => Ms = [mj] ∧ μ = [.blk b4 #[.bool false] 4] ∧ ∀ j, j < k → rightBut t out ((allOwners t).getD j []) = false
  let Xt : Exit → List Mem → List Res → Prop := fun e Ms μ => e = .ret ∧ Ms = [mj] ∧ μ = [.blk b4 #[.bool true] 4] ∧ possibleB t out = true
  refine W.rangeFunc (M0 := [mj]) (M1 := [mj]) hr rfl (lists1_any hs hp7 hvj (h1.le (hj m7 (by simp)))) (by simp) (Split.all _) rfl St Xt ⟨rfl, rfl, fun j hj => absurd hj (Nat.not_lt_zero _)⟩ (by simp) (by rintro k Ms μ ⟨_, rfl, _⟩; rfl) (by rintro e Ms μ ⟨_, _, rfl, _⟩; rfl) rfl (by decide) (fun k hk l0 Ms' μ' hSt c' hr' hD' => ?_) (fun D Ms' μ' hSt => ?_) (fun D Ms' μ' hXt => ?_) (fun D id Ms' μ' hXt => ?_)
  · obtain ⟨rfl, rfl, hall⟩ := hSt
    have hown := owns_of (allOwners_at hk) hp7
    have hpl : (pad ((allOwners t).getD k [])).length = 7 := pad_len (by have := hown.len; omega)
    skip
    refine W.region ?_
    refine WL.alloc rfl rfl rfl (fun b5 => ?_)
    (refine WL.storeAll rfl (.head _) rfl rfl (by rw [List.size_toArray, List.length_map]; exact hpl) (by rfl) (by simp [Value.oneCell']) ?_)
    refine WL.nil ?_
    skip
    refine ⟨rfl, fun c2 hr2 hD2 => ⟨rfl, ?_⟩⟩
    refine W.block (W.seq ?_)
    refine W.region ?_
    refine WL.val (OpVal.loadPW rfl (by assumption) (by repeat (first | exact .head _ | refine .tail _ ?_)) (by rfl)) rfl rfl rfl ?_
    refine WL.val (OpVal.loadBW rfl (.head _) (by rw [List.size_toArray, List.length_map]; exact hpl)) rfl rfl rfl ?_
    refine WL.abs (OpAbs.call rfl (fun m hm => wrong_any (hvj.le (by repeat (first | exact hm.1 | replace hm := hm.2))) hs hown)) rfl rfl rfl ?_
    rintro m11 v11 h11
    refine WL.val (OpVal.opv rfl) rfl rfl rfl ?_
    refine WL.val (OpVal.call rfl (fun m hm => allI_any (fs := #[]) (cs := #[.pointer (some ⟨b3, 0, none⟩)]) (p := fun i => decide ((wrongP t ((allOwners t).getD k [])).getD i 0 ∈ out)) (h11.le (by repeat (first | exact hm.1 | replace hm := hm.2))) (fun i hi m' hm' => possibleIn_any _ (h3j.le (MLe.trans (by repeat (first | exact hm.1 | replace hm := hm.2)) hm')) (hoj.le (MLe.trans (by repeat (first | exact hm.1 | replace hm := hm.2)) hm'))))) rfl rfl rfl ?_
    refine WL.nil ?_
    refine Kseq.go ?_
    refine W.cond rfl rfl (fun he => ?_) (fun hne => ?_)
    · refine W.seq ?_
      refine W.region ?_
      refine WL.store [_] rfl (.tail _ (.head _)) rfl rfl rfl (Nat.le_of_ble_eq_true rfl) (by first | (simp [Value.cells, Value.oneCell']; done) | exact IsArr.ones hW (by omega) | exact IsArr.ones hP (by omega)) rfl ?_
      refine WL.nil ?_
      refine Kseq.go ?_
      refine W.ret ?_; refine Kblock.ret ?_
      exact ⟨[mj], [.blk b4 #[.bool true] 4], ⟨rfl, rfl, rfl, ex_iff.2 ⟨k, hk, he⟩⟩, by simp, (by repeat (first | exact List.Sublist.refl _ | refine List.Sublist.cons _ ?_ | refine List.Sublist.cons_cons _ ?_)), by simp [markOf]⟩
    · refine W.skip (Kblock.normal ?_)
      exact ⟨[mj], [.blk b4 #[.bool false] 4], ⟨rfl, rfl, fun j hj => by
        rcases Nat.lt_succ_iff_lt_or_eq.1 hj with h | rfl
        · exact hall j h
        · exact hne⟩, by simp, (by repeat (first | exact List.Sublist.refl _ | refine List.Sublist.cons _ ?_ | refine List.Sublist.cons_cons _ ?_)), by simp [markOf]⟩
  · obtain ⟨rfl, rfl, hall⟩ := hSt
    have hno : possibleB t out = false := ex_no.2 hall
    refine Kblock.normal (Kseq.go (W.seq ?_))
    skip
    refine W.region ?_
    refine WL.store [_] rfl (.tail _ (.head _)) rfl rfl rfl (Nat.le_of_ble_eq_true rfl) (by first | (simp [Value.cells, Value.oneCell']; done) | exact IsArr.ones hW (by omega) | exact IsArr.ones hP (by omega)) rfl ?_
    refine WL.nil ?_
    refine Kseq.go ?_
    refine W.ret ?_; skip
    exact ⟨.inl rfl, [_], mj, ⟨.one inferInstance rfl (.tail _ (.head _)) rfl, trivial⟩, .head _, congrArg Value.bool hno.symm⟩
  · obtain ⟨_, rfl, rfl, hyes⟩ := hXt
    (repeat (first | refine Kseq.ret ?_ | refine Kblock.ret ?_ | refine Kloop.ret ?_))
    exact ⟨.inl rfl, [_], mj, ⟨.one inferInstance rfl (.tail _ (.head _)) rfl, trivial⟩, .head _, congrArg Value.bool hyes.symm⟩
  · exact absurd hXt.1 (by simp)
end Go.Proofs.Ytgolpbkapphciaa
