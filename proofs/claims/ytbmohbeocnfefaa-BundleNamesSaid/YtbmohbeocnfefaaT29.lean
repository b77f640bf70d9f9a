/- The program's functions Leave, Play, ProveTruth: their contracts. -/
import Derived.Test.YtbmohbeocnfefaaT28
namespace Go.Proofs.Ytbmohbeocnfefaa
open Go Go.Eng Go.RowKit

/-- Leave -/
theorem leaveT_any {h : Mem} {v : Value} {t : Table} (hv : IsTable h v t) (hs : Sm t) : FnR Try.prog 11 #[v] h (fun m r => ∃ lv, r = .tuple #[lv, vi (fault t)] ∧ (fault t ≠ 0 → lv = .slice none 0 0) ∧ (fault t = 0 → ∀ c, leaveAll t = some c → IsInts m lv c)) := by
  have hv' := hv
  obtain ⟨wv, pv, f, rfl, hW, hP, hM⟩ := hv
  have hs1 := hs.1
  refine FnR.of_W (n := 26) Try.func11 rfl rfl (Nat.le_of_ble_eq_true rfl) fun c hr hD hF => ?_
  refine W.seq ?_
  refine W.region ?_
  refine WL.box rfl rfl rfl rfl (fun b1 => ?_)
  refine WL.val (OpVal.opv rfl) rfl rfl rfl ?_
  refine WL.val (OpVal.opv rfl) rfl rfl rfl ?_
  refine WL.nil ?_
  refine Kseq.go ?_
  refine W.freezeBox (.head _) (fun b hb => (hF b hb).elim) fun m1 h1 => ?_
  refine W.scope hr ?_
  refine W.seq (W.seq ?_)
  refine W.region ?_
  refine WL.val (OpVal.loadPW rfl (by assumption) (by repeat (first | exact .head _ | refine .tail _ ?_)) (by rfl)) rfl rfl rfl ?_
  refine WL.val (OpVal.call rfl (fun m hm => check_any (hv'.le (by repeat (first | exact hm.1 | replace hm := hm.2))) hs)) rfl rfl rfl ?_
  refine WL.val (OpVal.opv rfl) rfl rfl rfl ?_
  refine WL.nil ?_
  refine Kseq.go (W.seq ?_)
  skip
  refine W.region ?_
  refine WL.val (OpVal.opv rfl) rfl rfl rfl ?_
  refine WL.val (OpVal.opv rfl) rfl rfl rfl ?_
  refine WL.nil ?_
  refine Kseq.go ?_
  refine W.cond rfl rfl (fun he => ?_) (fun hne => ?_)
  · refine W.seq ?_
    refine W.region ?_
    refine WL.val (OpVal.opv rfl) rfl rfl rfl ?_
    refine WL.val (OpVal.opv rfl) rfl rfl rfl ?_
    refine WL.val (OpVal.opv rfl) rfl rfl rfl ?_
    refine WL.nil ?_
    refine Kseq.go ?_
    refine W.ret ?_; refine Kseq.ret (Kscope.ret ?_); refine ⟨.inl rfl, [_, _], h, ⟨.tmp rfl, .tmp rfl, trivial⟩, (by repeat (first | exact .head _ | refine .tail _ ?_)), ?_⟩
    have he' : fault t ≠ 0 := by simpa using he
    exact ⟨_, rfl, fun _ => rfl, fun h0 => absurd h0 he'⟩
  have hf0 : fault t = 0 := by simpa using hne
  have hVa := fault_zero.1 hf0
  refine W.skip (Kseq.go (W.seq ?_))
  skip
  refine W.region ?_
  refine WL.alloc rfl rfl rfl (fun b5 => ?_)
  refine WL.nil ?_
  refine Kseq.go (W.seq ?_)
  skip
  refine W.region ?_
  refine WL.alloc rfl rfl rfl (fun b6 => ?_)
  refine WL.nil ?_
  refine Kseq.go (W.seq ?_)
  skip
  refine W.region ?_
  refine WL.val (OpVal.opv rfl) rfl rfl rfl ?_
  refine WL.store [_] rfl (.head _) rfl rfl rfl (Nat.le_of_ble_eq_true rfl) (by first | (simp [Value.cells, Value.oneCell']; done) | exact IsArr.ones hW (by omega) | exact IsArr.ones hP (by omega) | exact IsArr.ones hS (by omega) | exact IsArr.ones hH (by omega) | exact IsArr.ones hL (by omega) | exact IsArr.ones hB (by omega) | exact IsArr.ones hT (by omega) | exact IsArr.ones hm (by omega)) rfl ?_
  refine WL.nil ?_
  refine Kseq.go (W.seq ?_)
  refine W.freezeBox (.head _) (fun b hb => (hF b hb).elim) fun m6 h6 => ?_
  refine W.join fun mj hj => ?_
  have hvj := hv'.le (hj h (by simp))
  have h1j := h1.le (hj m1 (by simp))
  have h6j := h6.le (hj m6 (by simp))
  skip
  refine W.label ?_
  refine Kseq.go (W.seq (W.seq ?_))
  refine W.region ?_
  refine WL.val (OpVal.fieldAddrB rfl) rfl rfl rfl ?_
  refine WL.val (OpVal.loadP rfl (by assumption) (by repeat (first | exact .head _ | refine .tail _ ?_)) rfl) rfl rfl rfl ?_
  refine WL.val (OpVal.len rfl (by assumption)) rfl rfl rfl ?_
  refine WL.val (OpVal.incr rfl (by omega)) rfl rfl rfl ?_
  refine WL.val (OpVal.opv rfl) rfl rfl rfl ?_
  refine WL.nil ?_
  refine Kseq.go (W.block ?_)
  refine W.loop (σ := Nat × Value) (fun s => [(1, .pointer (some ⟨b1, 0, none⟩)), (5, .pointer (some ⟨b5, 0, none⟩)), (6, .pointer (some ⟨b6, 0, none⟩)), (17, .int .i64 ((t.women.length + 1 : Nat) : Int)), (18, .int .i64 (s.1 : Int))]) (fun _ => [mj]) (fun s => [.blk b5 #[s.2] 33])
    (fun s => s.1 ≤ t.women.length + 1 ∧ ∀ j, j < s.1 → leaveR t j [] 0 = none) (fun s => t.women.length + 1 - s.1) (0, .slice none 0 0) ⟨rfl, rfl, rfl, rfl, rfl, trivial⟩ (by simp) (.refl _) ⟨Nat.zero_le _, fun j hj => absurd hj (Nat.not_lt_zero _)⟩ ?_
  rintro ⟨k, fv⟩ ⟨hk, hprev⟩
  dsimp only at hk hprev ⊢
  refine W.seq ?_
  refine W.region ?_
  refine WL.val (OpVal.opv rfl) rfl rfl rfl ?_
  refine WL.nil ?_
  refine Kseq.go (W.seq ?_)
  refine W.condD rfl rfl (fun hlt => ?_) (fun hge => ?_)
  · refine W.skip (Kseq.go (W.seq (W.block (W.seq ?_))))
    refine W.region ?_
    refine WL.val (OpVal.opv rfl) rfl rfl rfl ?_
    refine WL.val (OpVal.opv rfl) rfl rfl rfl ?_
    refine WL.nil ?_
    refine Kseq.go (W.seq ?_)
    skip
    refine W.region ?_
    refine WL.val (OpVal.loadP rfl (by assumption) (by repeat (first | exact .head _ | refine .tail _ ?_)) rfl) rfl rfl rfl ?_
    refine WL.val (OpVal.opv rfl) rfl rfl rfl ?_
    (refine WL.callM rfl rfl (M0 := [mj]) (by simp) (Split.all _) rfl (leaveIn_any hs hVa.pieces k [] 0 mj (.slice none 0 0) fv hvj h1j h6j (IsInts.nil _) (by simp; omega) (by omega) (by omega)) rfl rfl rfl ?_; rintro v23 M1 a1 ⟨fv2, rfl, hres⟩)
    refine WL.nil ?_
    refine Kseq.go ?_
    rcases hres with ⟨c', hc, rfl, mr, hmr, hI⟩ | ⟨hc, rfl⟩
    · refine W.condT rfl rfl ?_
      refine W.exit (Kblock.past rfl (Kseq.exit (Kloop.exit (Kblock.here (Kseq.go (W.seq ?_))))))
      skip
      refine W.region ?_
      refine WL.val (OpVal.loadB rfl (.head _) rfl) rfl rfl rfl ?_
      refine WL.val (OpVal.opv rfl) rfl rfl rfl ?_
      refine WL.val (OpVal.opv rfl) rfl rfl rfl ?_
      refine WL.nil ?_
      refine Kseq.go ?_
      refine W.ret ?_; refine Kscope.ret ?_
      refine ⟨.inl rfl, [_, _], mr, ⟨.tmp rfl, .tmp rfl, trivial⟩, List.mem_append_left _ hmr, ?_⟩
      refine ⟨_, by rw [hf0]; rfl, fun h0 => absurd hf0 h0, fun _ c hcc => ?_⟩
      unfold leaveAll at hcc
      rw [fsome_hit (Nat.zero_le _) (by omega) (fun i _ h2 => hprev i h2) hc] at hcc
      cases hcc
      exact hI
    · refine W.condF rfl rfl ?_
      refine W.skip (Kblock.normal (Kseq.go ?_))
      refine W.region ?_
      refine WL.val (OpVal.incr rfl (by omega)) rfl rfl rfl ?_
      refine WL.val (OpVal.opv rfl) rfl rfl rfl ?_
      refine WL.nil ?_
      skip
      refine Kloop.next (k + 1, fv2) ⟨by omega, fun j hj => ?_⟩ (by omega) ⟨rfl, rfl, rfl, rfl, rfl, trivial⟩ (fun x hx => List.mem_append_right _ hx) (.refl _)
      rcases Nat.lt_succ_iff_lt_or_eq.1 hj with h2 | rfl
      · exact hprev j h2
      · exact hc
  · refine W.exit (Kseq.exit (Kloop.exit (Kblock.here (Kseq.go (W.seq ?_)))))
    skip
    refine W.region ?_
    refine WL.val (OpVal.loadB rfl (.head _) rfl) rfl rfl rfl ?_
    refine WL.val (OpVal.opv rfl) rfl rfl rfl ?_
    refine WL.val (OpVal.opv rfl) rfl rfl rfl ?_
    refine WL.nil ?_
    refine Kseq.go ?_
    refine W.ret ?_; refine Kscope.ret ?_; refine ⟨.inl rfl, [_, _], mj, ⟨.tmp rfl, .tmp rfl, trivial⟩, (by repeat (first | exact .head _ | refine .tail _ ?_)), ?_⟩
    refine ⟨_, by rw [hf0]; rfl, fun h0 => absurd hf0 h0, fun _ c hc => ?_⟩
    unfold leaveAll at hc
    rw [fsome_none (fun i _ h2 => hprev i (by omega))] at hc
    cases hc

/-- What Play says. -/
def playE (t : Table) (l : List Int) : Int := if fault t = 0 then (if areOwners t l = true then 0 else 2) else fault t
/-- Play -/
theorem playT_any {h : Mem} {v lv : Value} {t : Table} {l : List Int} (hv : IsTable h v t) (hs : Sm t) (hl : IsInts h lv l) : FnR Try.prog 21 #[v, lv] h (fun m r => ∃ a b, r = .tuple #[a, b, vi (playE t l)] ∧ IsInts m a (if playE t l = 0 then ownList t l else []) ∧ IsInts m b (if playE t l = 0 then astray t l else [])) := by
  have hv' := hv
  obtain ⟨wv, pv, f, rfl, hW, hP, hM⟩ := hv
  refine FnR.of_W (n := 29) Try.func21 rfl rfl (Nat.le_of_ble_eq_true rfl) fun c hr hD hF => ?_
  refine W.seq ?_
  refine W.region ?_
  refine WL.box rfl rfl rfl rfl (fun b2 => ?_)
  refine WL.val (OpVal.opv rfl) rfl rfl rfl ?_
  refine WL.val (OpVal.opv rfl) rfl rfl rfl ?_
  refine WL.val (OpVal.opv rfl) rfl rfl rfl ?_
  refine WL.nil ?_
  refine Kseq.go (W.seq (W.seq ?_))
  refine W.freezeBox (.head _) (fun b hb => (hF b hb).elim) fun m2 h2 => ?_
  skip
  refine W.region ?_
  refine WL.val (OpVal.loadPW rfl (by assumption) (by repeat (first | exact .head _ | refine .tail _ ?_)) (by rfl)) rfl rfl rfl ?_
  refine WL.val (OpVal.call rfl (fun m hm => check_any (hv'.le (by repeat (first | exact hm.1 | replace hm := hm.2))) hs)) rfl rfl rfl ?_
  refine WL.val (OpVal.opv rfl) rfl rfl rfl ?_
  refine WL.nil ?_
  refine Kseq.go (W.seq ?_)
  skip
  refine W.region ?_
  refine WL.val (OpVal.opv rfl) rfl rfl rfl ?_
  refine WL.val (OpVal.opv rfl) rfl rfl rfl ?_
  refine WL.nil ?_
  refine Kseq.go ?_
  refine W.cond rfl rfl (fun he => ?_) (fun hne => ?_)
  · have he' : fault t ≠ 0 := by simpa using he
    have hE : playE t l = fault t := by unfold playE; rw [if_neg he']
    refine W.seq ?_
    refine W.region ?_
    refine WL.val (OpVal.opv rfl) rfl rfl rfl ?_
    refine WL.val (OpVal.opv rfl) rfl rfl rfl ?_
    refine WL.val (OpVal.opv rfl) rfl rfl rfl ?_
    refine WL.val (OpVal.opv rfl) rfl rfl rfl ?_
    refine WL.nil ?_
    refine Kseq.go ?_
    refine W.ret ?_; refine Kseq.ret ?_
    refine ⟨.inl rfl, [_, _, _], h, ⟨.tmp rfl, .tmp rfl, .tmp rfl, trivial⟩, (by repeat (first | exact .head _ | refine .tail _ ?_)), _, _, by rw [hE]; rfl, ?_, ?_⟩
    · rw [hE, if_neg he']; exact IsInts.nil _
    · rw [hE, if_neg he']; exact IsInts.nil _
  have hf0 : fault t = 0 := by simpa using hne
  have hVa := fault_zero.1 hf0
  refine W.skip (Kseq.go (W.seq ?_))
  skip
  refine W.region ?_
  refine WL.val (OpVal.loadPW rfl (by assumption) (by repeat (first | exact .head _ | refine .tail _ ?_)) (by rfl)) rfl rfl rfl ?_
  refine WL.val (OpVal.opv rfl) rfl rfl rfl ?_
  refine WL.abs (OpAbs.call rfl (fun m hm => listed_any (hv'.le (by repeat (first | exact hm.1 | replace hm := hm.2))) hs hVa.pieces (hl.le (by repeat (first | exact hm.1 | replace hm := hm.2))))) rfl rfl rfl ?_
  rintro m18 _ ⟨q, hq7, rfl, hq⟩
  have hqs : (q.map vi).toArray.size = 7 := by rw [List.size_toArray, List.length_map]; exact hq7
  refine WL.val (OpVal.opv rfl) rfl rfl rfl ?_
  refine WL.val (OpVal.opv rfl) rfl rfl rfl ?_
  refine WL.val (OpVal.opv rfl) rfl rfl rfl ?_
  refine WL.alloc rfl rfl rfl (fun b8 => ?_)
  (refine WL.storeAll rfl (.head _) rfl rfl hqs (by rfl) (by simp [Value.oneCell']) ?_)
  refine WL.val (OpVal.opv rfl) rfl rfl rfl ?_
  refine WL.nil ?_
  refine Kseq.go (W.seq (W.seq ?_))
  skip
  refine W.region ?_
  refine WL.val (OpVal.opv rfl) rfl rfl rfl ?_
  refine WL.val (OpVal.opv rfl) rfl rfl rfl ?_
  refine WL.nil ?_
  refine Kseq.go ?_
  refine W.cond rfl rfl (fun he => ?_) (fun hne => ?_)
  · have hA : areOwners t l = false := by simpa using he
    have hE : playE t l = 2 := by unfold playE; rw [if_pos hf0, hA]; rfl
    refine W.seq ?_
    refine W.region ?_
    refine WL.val (OpVal.opv rfl) rfl rfl rfl ?_
    refine WL.val (OpVal.opv rfl) rfl rfl rfl ?_
    refine WL.val (OpVal.opv rfl) rfl rfl rfl ?_
    refine WL.nil ?_
    refine Kseq.go ?_
    refine W.ret ?_; refine Kseq.ret ?_
    refine ⟨.inl rfl, [_, _, _], h, ⟨.tmp rfl, .tmp rfl, .tmp rfl, trivial⟩, (by repeat (first | exact .head _ | refine .tail _ ?_)), _, _, by rw [hE]; rfl, ?_, ?_⟩
    · rw [hE]; exact IsInts.nil _
    · rw [hE]; exact IsInts.nil _
  · have hA : areOwners t l = true := by simpa using hne
    have hE : playE t l = 0 := by unfold playE; rw [if_pos hf0, hA]; rfl
    have ho := owns_of hA hVa.pieces
    cases hq hA
    refine W.skip (Kseq.go (W.seq ?_))
    skip
    refine W.draw 5 (by kernel_rfl) (by kernel_rfl) (by kernel_rfl) rfl ?_
    refine DJ.val [] (OpVal.loadPW rfl (by assumption) (by repeat (first | exact .head _ | refine .tail _ ?_)) (by rfl)) rfl rfl rfl rfl ?_
    refine DJ.val [] (OpVal.loadBW rfl (.head _) hqs) rfl rfl rfl rfl ?_
    refine DJ.abs (A := fun m r => IsInts m r (ownList t l)) [] (OpAbs.call rfl (fun m hm => ownP_any (hv'.le (by repeat (first | exact hm.1 | replace hm := hm.2))) hs ho)) rfl rfl rfl rfl ?_
    refine DJ.val [] (OpVal.loadPW rfl (by assumption) (by repeat (first | exact .head _ | refine .tail _ ?_)) (by rfl)) rfl rfl rfl rfl ?_
    refine DJ.val [] (OpVal.loadBW rfl (.head _) hqs) rfl rfl rfl rfl ?_
    refine DJ.nil ?_
    rintro m25 v25 h25
    refine WL.abs (OpAbs.call rfl (fun m hm => astrayP_any (hv'.le (by repeat (first | exact hm.1 | replace hm := hm.2))) hs ho)) rfl rfl rfl ?_
    rintro m28 v28 h28
    refine WL.val (OpVal.opv rfl) rfl rfl rfl ?_
    refine WL.val (OpVal.opv rfl) rfl rfl rfl ?_
    refine WL.val (OpVal.opv rfl) rfl rfl rfl ?_
    refine WL.nil ?_
    refine Kseq.go ?_
    refine W.join fun mj hj => ?_
    refine W.ret ?_; skip
    refine ⟨.inl rfl, [_, _, _], mj, ⟨.tmp rfl, .tmp rfl, .tmp rfl, trivial⟩, .head _, _, _, by rw [hE]; rfl, ?_, ?_⟩
    · rw [if_pos hE]; exact h25.le (hj _ (by simp))
    · rw [if_pos hE]; exact h28.le (hj _ (by simp))

/-- ProveTruth -/
theorem proveT_any {h : Mem} {v lv : Value} {t : Table} {l : List Int} (hv : IsTable h v t) (hs : Sm t) (hl : IsInts h lv l) : FnV Try.prog 19 #[v, lv] h (.bool (decide (fault t = 0) && (areOwners t l && isTruthP t l))) := by
  have hv' := hv
  obtain ⟨wv, pv, f, rfl, hW, hP, hM⟩ := hv
  refine FnR.val ?_
  refine FnR.of_W (n := 26) Try.func19 rfl rfl (Nat.le_of_ble_eq_true rfl) fun c hr hD hF => ?_
  refine W.seq ?_
  refine W.region ?_
  refine WL.box rfl rfl rfl rfl (fun b2 => ?_)
  refine WL.val (OpVal.opv rfl) rfl rfl rfl ?_
  refine WL.nil ?_
  refine Kseq.go (W.seq (W.seq ?_))
  refine W.freezeBox (.head _) (fun b hb => (hF b hb).elim) fun m2 h2 => ?_
  skip
  refine W.region ?_
  refine WL.val (OpVal.loadPW rfl (by assumption) (by repeat (first | exact .head _ | refine .tail _ ?_)) (by rfl)) rfl rfl rfl ?_
  refine WL.val (OpVal.call rfl (fun m hm => check_any (hv'.le (by repeat (first | exact hm.1 | replace hm := hm.2))) hs)) rfl rfl rfl ?_
  refine WL.val (OpVal.opv rfl) rfl rfl rfl ?_
  refine WL.nil ?_
  refine Kseq.go ?_
  refine W.cond rfl rfl (fun he => ?_) (fun hne => ?_)
  · have he' : fault t ≠ 0 := by simpa using he
    refine W.seq ?_
    refine W.region ?_
    refine WL.val (OpVal.opv rfl) rfl rfl rfl ?_
    refine WL.nil ?_
    refine Kseq.go ?_
    refine W.ret ?_; refine Kseq.ret ?_; refine ⟨.inl rfl, [_], h, ⟨.tmp rfl, trivial⟩, (by repeat (first | exact .head _ | refine .tail _ ?_)), ?_⟩
    simp [he']; rfl
  have hf0 : fault t = 0 := by simpa using hne
  have hVa := fault_zero.1 hf0
  refine W.skip (Kseq.go (W.seq ?_))
  skip
  refine W.region ?_
  refine WL.val (OpVal.loadPW rfl (by assumption) (by repeat (first | exact .head _ | refine .tail _ ?_)) (by rfl)) rfl rfl rfl ?_
  refine WL.val (OpVal.opv rfl) rfl rfl rfl ?_
  refine WL.abs (OpAbs.call rfl (fun m hm => listed_any (hv'.le (by repeat (first | exact hm.1 | replace hm := hm.2))) hs hVa.pieces (hl.le (by repeat (first | exact hm.1 | replace hm := hm.2))))) rfl rfl rfl ?_
  rintro m13 _ ⟨q, hq7, rfl, hq⟩
  have hqs : (q.map vi).toArray.size = 7 := by rw [List.size_toArray, List.length_map]; exact hq7
  refine WL.val (OpVal.opv rfl) rfl rfl rfl ?_
  refine WL.val (OpVal.opv rfl) rfl rfl rfl ?_
  refine WL.val (OpVal.opv rfl) rfl rfl rfl ?_
  refine WL.alloc rfl rfl rfl (fun b5 => ?_)
  (refine WL.storeAll rfl (.head _) rfl rfl hqs (by rfl) (by simp [Value.oneCell']) ?_)
  refine WL.val (OpVal.opv rfl) rfl rfl rfl ?_
  refine WL.nil ?_
  refine Kseq.go (W.seq ?_)
  skip
  refine W.draw 8 (by kernel_rfl) (by kernel_rfl) (by kernel_rfl) rfl ?_
  refine DJ.val [] (OpVal.opv rfl) rfl rfl rfl rfl ?_
  refine DJ.val [] (OpVal.opv rfl) rfl rfl rfl rfl ?_
  refine DJ.splitB rfl rfl (fun hA => ?_) (fun hA => ?_)
  · have ho := owns_of hA hVa.pieces
    cases hq hA
    refine DJ.val [] (OpVal.loadPW rfl (by assumption) (by repeat (first | exact .head _ | refine .tail _ ?_)) (by rfl)) rfl rfl rfl rfl ?_
    refine DJ.val [] (OpVal.loadBW rfl (.head _) hqs) rfl rfl rfl rfl ?_
    refine DJ.abs (A := fun m r => IsInts m r (wrongP t l)) [] (OpAbs.call rfl (fun m hm => wrong_any (hv'.le (by repeat (first | exact hm.1 | replace hm := hm.2))) hs ho)) rfl rfl rfl rfl ?_
    refine DJ.val [(20, fun m r => IsInts m r (wrongP t l))] (fun m20 v20 h20 => OpVal.len rfl (by assumption)) rfl rfl rfl rfl ?_ (hG := ⟨(by repeat (first | exact .head _ | refine .tail _ ?_)), rfl, trivial⟩)
    refine DJ.val [] (OpVal.fieldAddrB rfl) rfl rfl rfl rfl ?_
    refine DJ.val [] (OpVal.loadP rfl (by assumption) (by repeat (first | exact .head _ | refine .tail _ ?_)) rfl) rfl rfl rfl rfl ?_
    refine DJ.nil ?_
    rintro m20 v20 h20
    refine WL.val (OpVal.opv rfl) rfl rfl rfl ?_
    refine WL.val (OpVal.opv rfl) rfl rfl rfl ?_
    refine WL.val (OpVal.opv rfl) rfl rfl rfl ?_
    refine WL.nil ?_
    refine Kseq.go ?_
    refine W.ret ?_; skip; refine ⟨.inl rfl, [_], h, ⟨.tmp rfl, trivial⟩, (by repeat (first | exact .head _ | refine .tail _ ?_)), ?_⟩
    simp [hf0, hA, isTruthP]; rfl
  · refine DJ.pass rfl rfl rfl rfl ?_
    refine DJ.pass rfl rfl rfl rfl ?_
    refine DJ.pass rfl rfl rfl rfl ?_
    refine DJ.pass rfl rfl rfl rfl ?_
    refine DJ.pass rfl rfl rfl rfl ?_
    refine DJ.pass rfl rfl rfl rfl ?_
    refine DJ.nil ?_
    refine WL.pass rfl rfl rfl ?_
    refine WL.val (OpVal.opv rfl) rfl rfl rfl ?_
    refine WL.val (OpVal.opv rfl) rfl rfl rfl ?_
    refine WL.nil ?_
    refine Kseq.go ?_
    refine W.ret ?_; skip; refine ⟨.inl rfl, [_], h, ⟨.tmp rfl, trivial⟩, (by repeat (first | exact .head _ | refine .tail _ ?_)), ?_⟩
    simp [hA]; rfl
end Go.Proofs.Ytbmohbeocnfefaa
