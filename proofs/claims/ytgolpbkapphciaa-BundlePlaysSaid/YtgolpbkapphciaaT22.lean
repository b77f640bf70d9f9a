/- The program's questions of chapter 3: their contracts. -/
import Derived.Test.YtgolpbkapphciaaT21
import Derived.Test.YtgolpbkapphciaaEngineB
namespace Go.Proofs.Ytgolpbkapphciaa
open Go Go.Eng Go.RowKit

/-- slices.Clone -/
theorem clone_any {h : Mem} {v : Value} {xs : List Int} (hv : IsInts h v xs) (hb : xs.length < 1000000000000) : FnR Try.prog 77 #[v] h (fun m r => IsInts m r xs) := by
  obtain ⟨a, cp, rfl⟩ := IsArr.form hv
  refine FnR.of_W (n := 8) Try.func77 rfl rfl (Nat.le_of_ble_eq_true rfl) fun c hr hD hF => ?_
  refine W.seq ?_
  refine W.region ?_
  refine WL.val (OpVal.opv rfl) rfl rfl rfl ?_
  refine WL.nil ?_
  refine Kseq.go (W.seq (W.seq ?_))
  skip
  refine W.region ?_
  refine WL.val (OpVal.opv rfl) rfl rfl rfl ?_
  refine WL.val (OpVal.eqNil rfl rfl) rfl rfl rfl ?_
  refine WL.nil ?_
  refine Kseq.go ?_
  refine W.cond rfl rfl (fun he => ?_) (fun hne => ?_)
  · refine W.seq ?_
    refine W.region ?_
    refine WL.val (OpVal.opv rfl) rfl rfl rfl ?_
    refine WL.nil ?_
    refine Kseq.go ?_
    refine W.ret ?_; refine Kseq.ret ?_; refine ⟨.inl rfl, [_], h, ⟨.tmp rfl, trivial⟩, (by repeat (first | exact .head _ | refine .tail _ ?_)), ?_⟩
    have h0 : xs = [] := by
      obtain ⟨a', c', e, _, _, _, h4⟩ := hv
      cases e
      rcases Nat.eq_zero_or_pos xs.length with h5 | h5
      · exact List.length_eq_zero_iff.1 h5
      · obtain ⟨b, o, rfl, _⟩ := h4 h5
        cases he
    subst h0
    exact IsInts.nil h
  · refine W.skip (Kseq.go (W.seq ?_))
    refine W.region ?_
    (refine WL.lit (vs := []) [] rfl (Nat.le_of_ble_eq_true rfl) rfl rfl (by simp) (Nat.le_of_ble_eq_true rfl) rfl rfl rfl rfl (fun b5 => ?_))
    refine WL.val (OpVal.opv rfl) rfl rfl rfl ?_
    (refine WL.appInts (xs := []) rfl (fun _ => .head _) rfl hv (by repeat (first | exact .head _ | refine .tail _ ?_)) (by simp; omega) rfl rfl rfl ?_; intro a7 c7)
    refine WL.val (OpVal.opv rfl) rfl rfl rfl ?_
    refine WL.nil ?_
    refine Kseq.go ?_
    refine W.freezeInts (.head _) (fun b hb => (hF b hb).elim) fun mr hmr => ?_
    refine W.ret ?_; skip; refine ⟨.inl rfl, [_], mr, ⟨.tmp rfl, trivial⟩, (by repeat (first | exact .head _ | refine .tail _ ?_)), ?_⟩
    exact hmr

/-- Fewest -/
theorem fewestT_any {h : Mem} {v : Value} {t : Table} (hv : IsTable h v t) (hs : Sm t) : FnR Try.prog 60 #[v] h (fun m r => ∃ lv, r = .tuple #[lv, vi (askE t)] ∧ IsInts m lv (if askE t = 0 then fewest t (ask t) else [])) := by
  have hv' := hv
  obtain ⟨wv, pv, f, rfl, hW, hP, hM⟩ := hv
  refine FnR.of_W (n := 22) Try.func60 rfl rfl (Nat.le_of_ble_eq_true rfl) fun c hr hD hF => ?_
  refine W.seq ?_
  refine W.region ?_
  refine WL.box rfl rfl rfl rfl (fun b1 => ?_)
  refine WL.val (OpVal.opv rfl) rfl rfl rfl ?_
  refine WL.val (OpVal.opv rfl) rfl rfl rfl ?_
  refine WL.nil ?_
  refine Kseq.go (W.seq ?_)
  skip
  refine W.region ?_
  refine WL.val (OpVal.loadBW rfl (.head _) rfl) rfl rfl rfl ?_
  refine WL.abs (OpAbs.call rfl (fun m hm => asked_any (hv'.le (by repeat (first | exact hm.1 | replace hm := hm.2))) hs)) rfl rfl rfl ?_
  rintro m9 _ (⟨hE, rfl⟩ | ⟨hVa, hne, b, rfl, hwk⟩)
  · refine WL.val (OpVal.opv rfl) rfl rfl rfl ?_
    refine WL.val (OpVal.opv rfl) rfl rfl rfl ?_
    refine WL.val (OpVal.opv rfl) rfl rfl rfl ?_
    refine WL.val (OpVal.opv rfl) rfl rfl rfl ?_
    refine WL.val (OpVal.opv rfl) rfl rfl rfl ?_
    refine WL.nil ?_
    refine Kseq.go (W.seq (W.seq ?_))
    skip
    refine W.region ?_
    refine WL.val (OpVal.opv rfl) rfl rfl rfl ?_
    refine WL.val (OpVal.opv rfl) rfl rfl rfl ?_
    refine WL.nil ?_
    refine Kseq.go ?_
    refine W.cond rfl rfl (fun he => ?_) (fun he => absurd he (by simp [hE]))
    refine W.seq ?_
    refine W.region ?_
    refine WL.val (OpVal.opv rfl) rfl rfl rfl ?_
    refine WL.val (OpVal.opv rfl) rfl rfl rfl ?_
    refine WL.val (OpVal.opv rfl) rfl rfl rfl ?_
    refine WL.nil ?_
    refine Kseq.go ?_
    refine W.ret ?_; refine Kseq.ret ?_; refine ⟨.inl rfl, [_, _], h, ⟨.tmp rfl, .tmp rfl, trivial⟩, (by repeat (first | exact .head _ | refine .tail _ ?_)), ?_⟩
    exact ⟨_, rfl, by rw [if_neg hE]; exact IsInts.nil _⟩
  · have hE : askE t = 0 := by unfold askE; rw [if_pos (fault_zero.2 hVa), if_neg hne]
    have hpos : 0 < (ask t).length := List.length_pos_iff.2 hne
    have hof := ask_owns hVa.pieces (bestTo_lt t hpos _ (Nat.le_refl _))
    rw [show (ask t).getD (bestTo t (ask t) (ask t).length) [] = fewest t (ask t) from rfl] at hof
    refine WL.val (OpVal.opv rfl) rfl rfl rfl ?_
    refine WL.val (OpVal.opv rfl) rfl rfl rfl ?_
    refine WL.val (OpVal.opv rfl) rfl rfl rfl ?_
    refine WL.val (OpVal.opv rfl) rfl rfl rfl ?_
    refine WL.val (OpVal.opv rfl) rfl rfl rfl ?_
    refine WL.nil ?_
    refine Kseq.go (W.seq (W.seq ?_))
    skip
    refine W.region ?_
    refine WL.val (OpVal.opv rfl) rfl rfl rfl ?_
    refine WL.val (OpVal.opv rfl) rfl rfl rfl ?_
    refine WL.nil ?_
    refine Kseq.go ?_
    refine W.cond rfl rfl (fun he => absurd he (by simp)) (fun he => ?_)
    refine W.skip (Kseq.go (W.seq ?_))
    refine W.region ?_
    refine WL.val (OpVal.opv rfl) rfl rfl rfl ?_
    refine WL.val (OpVal.call rfl (fun m hm => best_any (hwk.le (by repeat (first | exact hm.1 | replace hm := hm.2))) (hv'.le (by repeat (first | exact hm.1 | replace hm := hm.2))) hs hVa.pieces hne)) rfl rfl rfl ?_
    refine WL.alloc rfl rfl rfl (fun b6 => ?_)
    (refine WL.storeAll rfl (.head _) rfl rfl hof.pl (by rfl) (by simp [Value.oneCell']) ?_)
    refine WL.nil ?_
    refine Kseq.go (W.seq ?_)
    refine W.freezeBox (.head _) (fun b hb => (hF b hb).elim) fun m6 h6 => ?_
    have hI : IsInts m6 (.slice (some ⟨b6, 0, none⟩) t.pieces.length 7) (fewest t (ask t)) := by
      have := IsInts.ofBox (xs := fewest t (ask t)) (L := 7) h6 (fun i hi => by have := pad_at hi; rwa [Nat.zero_add] at this) hof.le7 (by unfold maxLen; omega)
      rwa [hof.len] at this
    skip
    refine W.region ?_
    refine WL.val (OpVal.fieldAddrB rfl) rfl rfl rfl ?_
    refine WL.val (OpVal.loadB rfl (.head _) rfl) rfl rfl rfl ?_
    refine WL.val (OpVal.len rfl (by assumption)) rfl rfl rfl ?_
    refine WL.val (OpVal.sliceArr rfl rfl hVa.pieces (by omega)) rfl rfl rfl ?_
    refine WL.abs (OpAbs.call rfl (fun m hm => clone_any (hI.le (by repeat (first | exact hm.1 | replace hm := hm.2))) (by have := hof.le7; omega))) rfl rfl rfl ?_
    rintro m21 v21 h21
    refine WL.val (OpVal.opv rfl) rfl rfl rfl ?_
    refine WL.val (OpVal.opv rfl) rfl rfl rfl ?_
    refine WL.nil ?_
    refine Kseq.go ?_
    refine W.ret ?_; skip; refine ⟨.inl rfl, [_, _], m21, ⟨.tmp rfl, .tmp rfl, trivial⟩, (by repeat (first | exact .head _ | refine .tail _ ?_)), ?_⟩
    exact ⟨_, by rw [hE]; rfl, by rw [if_pos hE]; exact h21⟩
end Go.Proofs.Ytgolpbkapphciaa
