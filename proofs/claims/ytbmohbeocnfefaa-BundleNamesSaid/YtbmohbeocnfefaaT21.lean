/- The program's functions of a table at work, on: their contracts. -/
import Derived.Test.YtbmohbeocnfefaaT20
namespace Go.Proofs.Ytbmohbeocnfefaa
open Go Go.Eng Go.RowKit

theorem Owns.pl {t : Table} {l : List Int} (h : Owns t l) : ((pad l).map vi).toArray.size = 7 := by rw [List.size_toArray, List.length_map]; exact pad_len h.le7
/-- best -/
theorem best_any {h : Mem} {b : Nat} {v : Value} {t : Table} (hw : IsWork h b v t) (hv : IsTable h v t) (hs : Sm t) (hp : t.pieces.length ≤ 7) (hne : ask t ≠ []) : FnV Try.prog 35 #[.pointer (some ⟨b, 0, none⟩)] h (ownV (fewest t (ask t))) := by
  have hw' := hw
  obtain ⟨wv, pv, trv, mb, rfl, hB, hT, hMp⟩ := hw
  have hpos : 0 < (ask t).length := List.length_pos_iff.2 hne
  have ho0 := ask_owns hp hpos
  have hbd := IsArr.len hT
  have hbd' : (ask t).length ≤ 9223372036854775807 := by unfold maxLen at hbd; omega
  refine FnR.val ?_
  refine FnR.of_W (n := 31) Try.func35 rfl rfl (Nat.le_of_ble_eq_true rfl) fun c hr hD hF => ?_
  refine W.seq ?_
  refine W.region ?_
  refine WL.alloc rfl rfl rfl (fun b2 => ?_)
  refine WL.nil ?_
  refine Kseq.go (W.seq ?_)
  skip
  refine W.region ?_
  refine WL.val (OpVal.opv rfl) rfl rfl rfl ?_
  refine WL.val (OpVal.opv rfl) rfl rfl rfl ?_
  refine WL.val (OpVal.fieldAddrB rfl) rfl rfl rfl ?_
  refine WL.val (OpVal.loadP rfl (by assumption) (by repeat (first | exact .head _ | refine .tail _ ?_)) rfl) rfl rfl rfl ?_
  refine WL.val (OpVal.indexAddrN rfl rfl (by assumption) (by omega)) rfl rfl rfl ?_
  refine WL.val (OpVal.loadOwn rfl hT (by repeat (first | exact .head _ | refine .tail _ ?_)) hpos ho0.le7) rfl rfl rfl ?_
  refine WL.alloc rfl rfl rfl (fun b3 => ?_)
  (refine WL.storeAll rfl (.head _) rfl rfl ho0.pl (by rfl) (by simp [Value.oneCell']) ?_)
  refine WL.nil ?_
  refine Kseq.go (W.seq (W.seq ?_))
  skip
  refine W.region ?_
  refine WL.val (OpVal.opv rfl) rfl rfl rfl ?_
  refine WL.val (OpVal.opv rfl) rfl rfl rfl ?_
  refine WL.val (OpVal.fieldAddrB rfl) rfl rfl rfl ?_
  refine WL.val (OpVal.loadP rfl (by assumption) (by repeat (first | exact .head _ | refine .tail _ ?_)) rfl) rfl rfl rfl ?_
  refine WL.val (OpVal.len rfl (by assumption)) rfl rfl rfl ?_
  refine WL.val (OpVal.opv rfl) rfl rfl rfl ?_
  refine WL.nil ?_
  refine Kseq.go (W.block ?_)
  refine W.loop (σ := Nat) (fun k => [(0, .pointer (some ⟨b, 0, none⟩)), (2, .pointer (some ⟨b2, 0, none⟩)), (3, .pointer (some ⟨b3, 0, none⟩)), (15, trv), (16, .int .i64 ((ask t).length : Int)), (17, .int .i64 (k : Int))]) (fun _ => [h]) (fun k => [.blk b3 ((pad ((ask t).getD (bestTo t (ask t) k) [])).map vi).toArray 92, .blk b2 (Value.agg #[vi 0, vi 0, vi 0, vi 0, vi 0, vi 0, vi 0]).cells 92])
    (fun k => k ≤ (ask t).length) (fun k => (ask t).length - k) 0 ⟨rfl, rfl, rfl, rfl, rfl, rfl, trivial⟩ (by simp) (.refl _) (Nat.zero_le _) ?_
  intro k hk
  have hbt := bestTo_lt t hpos k hk
  have hob := ask_owns hp hbt
  refine W.seq ?_
  refine W.region ?_
  refine WL.val (OpVal.opv rfl) rfl rfl rfl ?_
  refine WL.nil ?_
  refine Kseq.go (W.seq ?_)
  refine W.condD rfl rfl (fun hlt => ?_) (fun hge => ?_)
  · have hkl : k < (ask t).length := by omega
    have hok := ask_owns hp hkl
    refine W.skip (Kseq.go (W.seq (W.block (W.seq ?_))))
    refine W.region ?_
    refine WL.val (OpVal.indexAddrN rfl rfl (by assumption) (by omega)) rfl rfl rfl ?_
    refine WL.val (OpVal.loadOwn rfl hT (by repeat (first | exact .head _ | refine .tail _ ?_)) hkl hok.le7) rfl rfl rfl ?_
    refine WL.alloc rfl rfl rfl (fun b5 => ?_)
    (refine WL.storeAll rfl (.head _) rfl rfl hok.pl (by rfl) (by simp [Value.oneCell']) ?_)
    refine WL.nil ?_
    refine Kseq.go (W.seq ?_)
    skip
    refine W.draw 5 (by kernel_rfl) (by kernel_rfl) (by kernel_rfl) rfl ?_
    refine DJ.val [] (OpVal.opv rfl) rfl rfl rfl rfl ?_
    refine DJ.val [] (OpVal.loadBW rfl (.head _) hok.pl) rfl rfl rfl rfl ?_
    refine DJ.val [] (OpVal.call rfl (fun m hm => lost_any _ (hw'.le (by repeat (first | exact hm.1 | replace hm := hm.2))) (hv.le (by repeat (first | exact hm.1 | replace hm := hm.2))) hs hok)) rfl rfl rfl rfl ?_
    refine DJ.val [] (OpVal.opv rfl) rfl rfl rfl rfl ?_
    refine DJ.val [] (OpVal.loadBW rfl (.tail _ (.head _)) hob.pl) rfl rfl rfl rfl ?_
    refine DJ.nil ?_
    refine WL.val (OpVal.call rfl (fun m hm => lost_any _ (hw'.le (by repeat (first | exact hm.1 | replace hm := hm.2))) (hv.le (by repeat (first | exact hm.1 | replace hm := hm.2))) hs hob)) rfl rfl rfl ?_
    refine WL.val (OpVal.opv rfl) rfl rfl rfl ?_
    refine WL.nil ?_
    refine Kseq.go ?_
    refine W.condD rfl rfl (fun he => ?_) (fun hne => ?_)
    · have e : bestTo t (ask t) (k + 1) = k := by simp only [bestTo]; rw [if_pos (by omega)]
      skip
      refine W.region ?_
      refine WL.val (OpVal.loadBW rfl (.head _) hok.pl) rfl rfl rfl ?_
      (refine WL.storeAll rfl (.tail _ (.head _)) rfl rfl hok.pl hob.pl (by simp [Value.oneCell']) ?_)
      refine WL.nil ?_
      refine Kblock.normal (Kseq.go ?_)
      skip
      refine W.region ?_
      refine WL.val (OpVal.incr rfl (by omega)) rfl rfl rfl ?_
      refine WL.val (OpVal.opv rfl) rfl rfl rfl ?_
      refine WL.nil ?_
      skip
      exact Kloop.next (k + 1) (by omega) (by omega) ⟨rfl, rfl, rfl, rfl, rfl, rfl, trivial⟩ (by simp) (by rw [e]; exact (by repeat (first | exact List.Sublist.refl _ | refine List.Sublist.cons _ ?_ | refine List.Sublist.cons_cons _ ?_)))
    · have e : bestTo t (ask t) (k + 1) = bestTo t (ask t) k := by simp only [bestTo]; rw [if_neg (by omega)]
      refine W.skip (Kblock.normal (Kseq.go ?_))
      skip
      refine W.region ?_
      refine WL.val (OpVal.incr rfl (by omega)) rfl rfl rfl ?_
      refine WL.val (OpVal.opv rfl) rfl rfl rfl ?_
      refine WL.nil ?_
      skip
      exact Kloop.next (k + 1) (by omega) (by omega) ⟨rfl, rfl, rfl, rfl, rfl, rfl, trivial⟩ (by simp) (by rw [e]; exact (by repeat (first | exact List.Sublist.refl _ | refine List.Sublist.cons _ ?_ | refine List.Sublist.cons_cons _ ?_)))
  · have : k = (ask t).length := by omega
    subst this
    refine W.exit (Kseq.exit (Kloop.exit (Kblock.here (Kseq.go (W.seq ?_)))))
    skip
    refine W.region ?_
    refine WL.val (OpVal.loadBW rfl (.head _) hob.pl) rfl rfl rfl ?_
    (refine WL.storeAll rfl (.tail _ (.head _)) rfl rfl hob.pl (by rfl) (by simp [Value.oneCell']) ?_)
    refine WL.nil ?_
    refine Kseq.go ?_
    refine W.ret ?_; skip
    exact ⟨.inl rfl, [_], h, ⟨.agg inferInstance inferInstance rfl (.tail _ (.head _)) hob.pl, trivial⟩, .head _, rfl⟩

/-- Astray -/
theorem astrayT_any {h : Mem} {v : Value} {t : Table} (hv : IsTable h v t) (hs : Sm t) : FnV Try.prog 10 #[v] h
    (if askE t = 0 then .tuple #[.agg #[vi (loQ (fun l => ((astray t l).length : Int)) (ask t) (ask t).length), vi (hiQ (fun l => ((astray t l).length : Int)) (ask t) (ask t).length)], vi 0] else .tuple #[.agg #[vi 0, vi 0], vi (askE t)]) := by
  have hv' := hv
  obtain ⟨wv, pv, f, rfl, hW, hP, hM⟩ := hv
  refine FnR.val ?_
  refine FnR.of_W (n := 18) Try.func10 rfl rfl (Nat.le_of_ble_eq_true rfl) fun c hr hD hF => ?_
  refine W.seq ?_
  refine W.region ?_
  refine WL.box rfl rfl rfl rfl (fun b1 => ?_)
  refine WL.alloc rfl rfl rfl (fun b2 => ?_)
  refine WL.val (OpVal.opv rfl) rfl rfl rfl ?_
  refine WL.nil ?_
  refine Kseq.go (W.seq ?_)
  skip
  refine W.region ?_
  refine WL.val (OpVal.loadBW rfl (.tail _ (.head _)) rfl) rfl rfl rfl ?_
  refine WL.abs (OpAbs.call rfl (fun m hm => asked_any (hv'.le (by repeat (first | exact hm.1 | replace hm := hm.2))) hs)) rfl rfl rfl ?_
  rintro m8 _ (⟨hE, rfl⟩ | ⟨hVa, hne, b, rfl, hwk⟩)
  · refine WL.val (OpVal.opv rfl) rfl rfl rfl ?_
    refine WL.val (OpVal.opv rfl) rfl rfl rfl ?_
    refine WL.val (OpVal.opv rfl) rfl rfl rfl ?_
    refine WL.val (OpVal.opv rfl) rfl rfl rfl ?_
    refine WL.val (OpVal.opv rfl) rfl rfl rfl ?_
    refine WL.nil ?_
    refine Kseq.go (W.seq (W.seq ?_))
    skip
    refine W.region ?_
    refine WL.val (OpVal.opv rfl) rfl rfl rfl ?_
    refine WL.val (OpVal.opv rfl) rfl rfl rfl ?_
    refine WL.nil ?_
    refine Kseq.go ?_
    refine W.cond rfl rfl (fun he => ?_) (fun he => absurd he (by simp [hE]))
    refine W.seq ?_
    refine W.region ?_
    refine WL.val (OpVal.build2 rfl rfl) rfl rfl rfl ?_
    refine WL.val (OpVal.opv rfl) rfl rfl rfl ?_
    refine WL.store [_, _] rfl (.head _) rfl rfl rfl (Nat.le_of_ble_eq_true rfl) (by first | (simp [Value.cells, Value.oneCell']; done) | exact IsArr.ones hW (by omega) | exact IsArr.ones hP (by omega) | exact IsArr.ones hS (by omega) | exact IsArr.ones hH (by omega) | exact IsArr.ones hL (by omega) | exact IsArr.ones hB (by omega) | exact IsArr.ones hT (by omega) | exact IsArr.ones hm (by omega)) rfl ?_
    refine WL.val (OpVal.opv rfl) rfl rfl rfl ?_
    refine WL.nil ?_
    refine Kseq.go ?_
    refine W.ret ?_; refine Kseq.ret ?_
    refine ⟨.inl rfl, [_, _], h, ⟨.agg inferInstance inferInstance rfl (.head _) rfl, .tmp rfl, trivial⟩, (by repeat (first | exact .head _ | refine .tail _ ?_)), ?_⟩
    rw [if_neg hE]; rfl
  · have hE : askE t = 0 := by unfold askE; rw [if_pos (fault_zero.2 hVa), if_neg hne]
    refine WL.val (OpVal.opv rfl) rfl rfl rfl ?_
    refine WL.val (OpVal.opv rfl) rfl rfl rfl ?_
    refine WL.val (OpVal.opv rfl) rfl rfl rfl ?_
    refine WL.val (OpVal.opv rfl) rfl rfl rfl ?_
    refine WL.val (OpVal.opv rfl) rfl rfl rfl ?_
    refine WL.nil ?_
    refine Kseq.go (W.seq (W.seq ?_))
    skip
    refine W.region ?_
    refine WL.val (OpVal.opv rfl) rfl rfl rfl ?_
    refine WL.val (OpVal.opv rfl) rfl rfl rfl ?_
    refine WL.nil ?_
    refine Kseq.go ?_
    refine W.cond rfl rfl (fun he => absurd he (by simp)) (fun he => ?_)
    refine W.skip (Kseq.go (W.seq ?_))
    skip
    refine W.region ?_
    refine WL.val (OpVal.build1 rfl rfl) rfl rfl rfl ?_
    refine WL.val (OpVal.opv rfl) rfl rfl rfl ?_
    refine WL.val (OpVal.call rfl (fun m hm => bounds_any (g := fun l => ((astray t l).length : Int)) 0 (hwk.le (by repeat (first | exact hm.1 | replace hm := hm.2))) hVa.pieces hne (fun h' hh l ho => lost_any 0 (hwk.le (MLe.trans (by repeat (first | exact hm.1 | replace hm := hm.2)) hh)) (hv'.le (MLe.trans (by repeat (first | exact hm.1 | replace hm := hm.2)) hh)) hs ho))) rfl rfl rfl ?_
    refine WL.store [_, _] rfl (.head _) rfl rfl rfl (Nat.le_of_ble_eq_true rfl) (by first | (simp [Value.cells, Value.oneCell']; done) | exact IsArr.ones hW (by omega) | exact IsArr.ones hP (by omega) | exact IsArr.ones hS (by omega) | exact IsArr.ones hH (by omega) | exact IsArr.ones hL (by omega) | exact IsArr.ones hB (by omega) | exact IsArr.ones hT (by omega) | exact IsArr.ones hm (by omega)) rfl ?_
    refine WL.val (OpVal.opv rfl) rfl rfl rfl ?_
    refine WL.nil ?_
    refine Kseq.go ?_
    refine W.ret ?_; skip
    refine ⟨.inl rfl, [_, _], h, ⟨.agg inferInstance inferInstance rfl (.head _) rfl, .tmp rfl, trivial⟩, (by repeat (first | exact .head _ | refine .tail _ ?_)), ?_⟩
    rw [if_pos hE]; rfl
end Go.Proofs.Ytbmohbeocnfefaa
