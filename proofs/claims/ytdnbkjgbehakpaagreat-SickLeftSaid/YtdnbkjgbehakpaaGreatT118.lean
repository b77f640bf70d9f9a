/- The program's functions of chapter 6: possible, scene. -/
import Derived.Test.YtdnbkjgbehakpaaGreatT117
import Derived.Test.YtdnbkjgbehakpaaGreatT13
namespace Go.Proofs.YtdnbkjgbehakpaaGreat
open Go Go.Eng Go.RowKit

theorem scene_fit {r : House} {c : Course} (hc : c ∈ scenes r) : FitC r c := ⟨scene_len hc, (mem_scenes.1 hc).len⟩
/-- possible -/
theorem possible6_any {h : Mem} {v ov : Value} {r : House} {out : List Int} (hv : IsHouse h v r) (hV : ValidH r) (hs : SmH r) (ho : IsInts h ov out) : FnV Tryz.prog 96 #[v, ov] h (.bool (possible6 r out)) := by
  have hv' := hv
  have hst := hs.table
  have hnp := hV.np7
  have htn : r.tn ≤ 6 := hV.touchN
  obtain ⟨wv, pv, kv, tv, bv, sv, f, rfl, hA⟩ := hv
  obtain ⟨oa, oc, rfl⟩ := IsArr.form ho
  refine FnR.val ?_
  refine FnR.of_W (n := 19) Tryz.func96 rfl rfl (Nat.le_of_ble_eq_true rfl) fun c hr hD hF => ?_
  refine W.seq ?_
  refine W.region ?_
  refine WL.box rfl rfl rfl rfl (fun b2 => ?_)
  refine WL.box rfl rfl rfl rfl (fun b3 => ?_)
  refine WL.alloc rfl rfl rfl (fun b4 => ?_)
  refine WL.nil ?_
  refine Kseq.go (W.seq ?_)
  refine W.freezeBox (.tail _ (.head _)) (fun b hb => (hF b hb).elim) fun m3 h3 => ?_
  refine W.freezeBox (.tail _ (.head _)) (fun b hb => (hF b hb).elim) fun m2 h2 => ?_
  skip
  refine W.region ?_
  refine WL.val (OpVal.loadPW rfl (by assumption) (by repeat (first | exact .head _ | refine .tail _ ?_)) (by rfl)) rfl rfl rfl ?_
  (refine WL.abs (OpAbs.call rfl (fun m hm => boilings_any (hv'.le (by repeat (first | exact hm.1 | replace hm := hm.2))) (IsBoils.nil m) hs (by simp))) rfl rfl rfl ?_; rintro m8 _ ⟨bm, rfl, hm8⟩)
  refine WL.alloc rfl rfl rfl (fun b5 => ?_)
  refine WL.store [_] rfl (.head _) rfl rfl rfl (Nat.le_of_ble_eq_true rfl) (by first | (simp [Value.cells, Value.oneCell']; done) | exact IsArr.ones hW (by omega) | exact IsArr.ones hP (by omega) | exact IsArr.ones hS (by omega) | exact IsArr.ones hH (by omega) | exact IsArr.ones hL (by omega) | exact IsArr.ones hB (by omega) | exact IsArr.ones hT (by omega) | exact IsArr.ones hm (by omega)) rfl ?_
  refine WL.nil ?_
  refine Kseq.go (W.seq (W.seq ?_))
  refine W.freezeBox (.head _) (fun b hb => (hF b hb).elim) fun m5 h5 => ?_
  skip
  refine W.region ?_
  refine WL.val (OpVal.loadPW rfl (by assumption) (by repeat (first | exact .head _ | refine .tail _ ?_)) (by rfl)) rfl rfl rfl ?_
  refine WL.abs (OpAbs.call rfl (fun m hm => scenes_any (hv'.le (by repeat (first | exact hm.1 | replace hm := hm.2))))) rfl rfl rfl ?_
  rintro m10 v10 h10
  refine WL.nil ?_
  refine Kseq.go (W.block ?_)
  obtain ⟨b1, rfl, h1⟩ := h10
  refine W.join fun mj hj => ?_
  have hvj := hv'.le (hj h (by simp))
  have h3j := h3.le (hj m3 (by simp))
  have h2j := h2.le (hj m2 (by simp))
  have h5j := h5.le (hj m5 (by simp))
  have hmj := hm8.le (hj m8 (by simp))
  have hoj := IsInts.le ho (hj h (by simp))
  have h1j := h1.le (hj m10 (by simp))
  skip
  let St : Nat → List Mem → List Res → Prop := fun k Ms μ => Ms = [mj] ∧ μ = [.blk b4 #[.bool false] 4] ∧ ∀ j, j < k → rightBut6 r.signs (lastN r ((scenes r).getD j default) []) out = false
  let Xt : Exit → List Mem → List Res → Prop := fun e Ms μ => e = .ret ∧ Ms = [mj] ∧ μ = [.blk b4 #[.bool true] 4] ∧ possible6 r out = true
  refine W.rangeFunc (M0 := [mj]) (M1 := [mj]) hr rfl (scenes1_any hV hst hvj h1j) (by simp) (Split.all _) rfl St Xt ⟨rfl, rfl, fun j hj => absurd hj (Nat.not_lt_zero _)⟩ (by simp) (by rintro k Ms μ ⟨_, rfl, _⟩; rfl) (by rintro e Ms μ ⟨_, _, rfl, _⟩; rfl) rfl (by decide) (fun k hk l0 Ms' μ' hSt c' hr' hD' => ?_) (fun D Ms' μ' hSt => ?_) (fun D Ms' μ' hXt => ?_) (fun D id Ms' μ' hXt => ?_)
  · obtain ⟨rfl, rfl, hall⟩ := hSt
    obtain ⟨q, hq⟩ : ∃ q, (scenes r).getD k default = q := ⟨_, rfl⟩
    have hit : itemC r k = sceneV q := by unfold itemC; rw [hq]
    have hqm : q ∈ scenes r := by rw [← hq]; exact getDc hk
    have hfit := scene_fit hqm
    have hsz := sceneC_size (c := q) (by rw [hfit.owners]; omega) (by rw [hfit.hours]; omega)
    rw [hit]
    skip
    refine W.region ?_
    refine WL.alloc rfl rfl rfl (fun b6 => ?_)
    (refine WL.storeAll rfl (.head _) rfl rfl hsz (by rfl) (sceneC_one q) ?_)
    refine WL.nil ?_
    skip
    refine ⟨rfl, fun c2 hr2 hD2 => ⟨rfl, ?_⟩⟩
    refine W.block (W.seq ?_)
    refine W.draw 6 (by kernel_rfl) (by kernel_rfl) (by kernel_rfl) rfl ?_
    refine DJ.val [] (OpVal.loadPW rfl h2j (by repeat (first | exact .head _ | refine .tail _ ?_)) rfl) rfl rfl rfl rfl ?_
    refine DJ.val [] (OpVal.loadPW rfl h2j (by repeat (first | exact .head _ | refine .tail _ ?_)) rfl) rfl rfl rfl rfl ?_
    refine DJ.val [] (OpVal.loadBW rfl (.head _) hsz) rfl rfl rfl rfl ?_
    refine DJ.val [] (OpVal.loadP rfl h5j (by repeat (first | exact .head _ | refine .tail _ ?_)) rfl) rfl rfl rfl rfl ?_
    refine DJ.val [] (OpVal.call rfl (fun m hm => play_any (hvj.le (by repeat (first | exact hm.1 | replace hm := hm.2))) hV hfit (hmj.le (by repeat (first | exact hm.1 | replace hm := hm.2))))) rfl rfl rfl rfl ?_
    refine DJ.val [] (OpVal.loadP rfl h3j (by repeat (first | exact .head _ | refine .tail _ ?_)) rfl) rfl rfl rfl rfl ?_
    refine DJ.nil ?_
    refine WL.val (OpVal.cast (OpVal.call rfl (fun m hm => right6_any (hvj.le (by repeat (first | exact hm.1 | replace hm := hm.2))) hV (hoj.le (by repeat (first | exact hm.1 | replace hm := hm.2))))) (show _ = Value.bool (rightBut6 r.signs (lastN r q []) out) from rfl)) rfl rfl rfl ?_
    refine WL.nil ?_
    refine Kseq.go ?_
    refine W.cond rfl rfl (fun he => ?_) (fun hne => ?_)
    · refine W.seq ?_
      refine W.region ?_
      refine WL.store [_] rfl (.tail _ (.head _)) rfl rfl rfl (Nat.le_of_ble_eq_true rfl) (by first | (simp [Value.cells, Value.oneCell']; done) | exact IsArr.ones hW (by omega) | exact IsArr.ones hP (by omega) | exact IsArr.ones hS (by omega) | exact IsArr.ones hH (by omega) | exact IsArr.ones hL (by omega) | exact IsArr.ones hB (by omega) | exact IsArr.ones hT (by omega) | exact IsArr.ones hm (by omega)) rfl ?_
      refine WL.nil ?_
      refine Kseq.go ?_
      refine W.ret ?_; refine Kblock.ret ?_
      exact ⟨[mj], [.blk b4 #[.bool true] 4], ⟨rfl, rfl, rfl, ex_iff.2 ⟨k, hk, by rw [hq]; exact he⟩⟩, by simp, (by repeat (first | exact List.Sublist.refl _ | refine List.Sublist.cons _ ?_ | refine List.Sublist.cons_cons _ ?_)), by simp [markOf]⟩
    · refine W.skip (Kblock.normal ?_)
      exact ⟨[mj], [.blk b4 #[.bool false] 4], ⟨rfl, rfl, fun j hj => by
        rcases Nat.lt_succ_iff_lt_or_eq.1 hj with h | rfl
        · exact hall j h
        · rw [hq]; exact hne⟩, by simp, (by repeat (first | exact List.Sublist.refl _ | refine List.Sublist.cons _ ?_ | refine List.Sublist.cons_cons _ ?_)), by simp [markOf]⟩
  · obtain ⟨rfl, rfl, hall⟩ := hSt
    have hno : possible6 r out = false := ex_no.2 hall
    refine Kblock.normal (Kseq.go (W.seq ?_))
    skip
    refine W.region ?_
    refine WL.store [_] rfl (.tail _ (.head _)) rfl rfl rfl (Nat.le_of_ble_eq_true rfl) (by first | (simp [Value.cells, Value.oneCell']; done) | exact IsArr.ones hW (by omega) | exact IsArr.ones hP (by omega) | exact IsArr.ones hS (by omega) | exact IsArr.ones hH (by omega) | exact IsArr.ones hL (by omega) | exact IsArr.ones hB (by omega) | exact IsArr.ones hT (by omega) | exact IsArr.ones hm (by omega)) rfl ?_
    refine WL.nil ?_
    refine Kseq.go ?_
    refine W.ret ?_; skip
    exact ⟨.inl rfl, [_], mj, ⟨.one inferInstance rfl (.tail _ (.head _)) rfl, trivial⟩, .head _, congrArg Value.bool hno.symm⟩
  · obtain ⟨_, rfl, rfl, hyes⟩ := hXt
    (repeat (first | refine Kseq.ret ?_ | refine Kblock.ret ?_ | refine Kloop.ret ?_))
    exact ⟨.inl rfl, [_], mj, ⟨.one inferInstance rfl (.tail _ (.head _)) rfl, trivial⟩, .head _, congrArg Value.bool hyes.symm⟩
  · exact absurd hXt.1 (by simp)
end Go.Proofs.YtdnbkjgbehakpaaGreat
