/- The statement ErrandOnward: its contract. -/
import Derived.Test.YtjligncpaeeljaaGreatT83
namespace Go.Proofs.YtjligncpaeeljaaGreat
open Go Go.Eng Go.RowKit

theorem getD_take {l : List Int} {m i : Nat} (h : i < m) : (l.take m).getD i 0 = l.getD i 0 := by
  simp only [List.getD_eq_getElem?_getD, List.getElem?_take, if_pos h]
theorem walk_take {n : Nat} {l : List Int} (h : Walk n l) (m : Nat) : Walk n (l.take m) := by
  have hl : (l.take m).length = min m l.length := List.length_take
  refine ⟨by have := h.len; omega, fun i hi => ?_, fun i hi => ?_⟩
  · rw [getD_take (by omega)]; exact h.lt i (by omega)
  · rw [getD_take (by omega), getD_take (by omega)]; exact h.ne i (by omega)
theorem brought_take {l : List Int} {m : Nat} {mo : Move} (h : brought (l.take m) mo = true) : brought l mo = true := by
  have hl : (l.take m).length = min m l.length := List.length_take
  obtain ⟨k, i, h1, h2, h3, h4⟩ := brought_iff.1 h
  rw [getD_take (by omega)] at h3 h4
  exact brought_iff.2 ⟨k, i, h1, by omega, h3, h4⟩
/-- ErrandOnward -/
theorem errandOnward_any {h : Mem} {v wv : Value} {r : Errand} {ws : List Nat} (hv : IsErrand h v r) (hws : IsWds h wv ws) : FnV Tryz.prog 11 #[v, wv] h (.bool true) := by
  have hv' := hv
  obtain ⟨wov, pv, hov, sv, f, rfl, hW, hP, hM, hH, hS⟩ := hv
  refine FnR.val ?_
  refine FnR.of_W (n := 123) Tryz.func11 rfl rfl (Nat.le_of_ble_eq_true rfl) fun c hr hD hF => ?_
  refine W.seq ?_
  refine W.region ?_
  refine WL.box rfl rfl rfl rfl (fun b2 => ?_)
  refine WL.val (OpVal.opv rfl) rfl rfl rfl ?_
  refine WL.nil ?_
  refine Kseq.go (W.seq ?_)
  refine W.freezeBox (.head _) (fun b hb => (hF b hb).elim) fun m1 h1 => ?_
  skip
  refine W.region ?_
  refine WL.val (OpVal.loadPW rfl (by assumption) (by repeat (first | exact .head _ | refine .tail _ ?_)) (by rfl)) rfl rfl rfl ?_
  refine WL.val (OpVal.opv rfl) rfl rfl rfl ?_
  refine WL.abs (OpAbs.call rfl (fun m hm => walked11_any (hv'.le (by repeat (first | exact hm.1 | replace hm := hm.2))) (hws.le (by repeat (first | exact hm.1 | replace hm := hm.2))))) rfl rfl rfl ?_
  rintro m19 v19 h19
  refine WL.val (OpVal.opv rfl) rfl rfl rfl ?_
  refine WL.nil ?_
  refine Kseq.go (W.seq (W.seq ?_))
  obtain ⟨l, hl, hw, hl6⟩ := h19
  skip
  refine W.toS [(2, .pointer (some ⟨b2, 0, none⟩)), (5, v19), (27, .bool (!readyE r || decide ((l.length : Int) = 0)))] ?_ ?_
  · skip
    refine W.region ?_
    refine WL.val (OpVal.loadPW rfl (by assumption) (by repeat (first | exact .head _ | refine .tail _ ?_)) (by rfl)) rfl rfl rfl ?_
    refine WL.val (OpVal.call rfl (fun m hm => ready11_any (hv'.le (by repeat (first | exact hm.1 | replace hm := hm.2))))) rfl rfl rfl ?_
    refine WL.val (OpVal.opv rfl) rfl rfl rfl ?_
    refine WL.val (OpVal.opv rfl) rfl rfl rfl ?_
    refine WL.splitB rfl rfl (fun g23 => ?_) (fun g23 => ?_)
    · refine WL.pass rfl rfl rfl ?_
      refine WL.pass rfl rfl rfl ?_
      refine WL.pass rfl rfl rfl ?_
      refine WL.val (OpVal.opv rfl) rfl rfl rfl ?_
      refine WL.nil ?_
      skip
      exact Keff.intro ⟨rfl, rfl, congrArg (fun b => some (Value.bool b)) (by first | (simp_all; done) | (simp_all; intros; omega)), trivial⟩ (by simp) (by repeat (first | exact List.Sublist.refl _ | refine List.Sublist.cons _ ?_ | refine List.Sublist.cons_cons _ ?_))
    · refine WL.val (OpVal.opv rfl) rfl rfl rfl ?_
      refine WL.val (OpVal.len rfl hl) rfl rfl rfl ?_
      refine WL.val (OpVal.opv rfl) rfl rfl rfl ?_
      refine WL.val (OpVal.opv rfl) rfl rfl rfl ?_
      refine WL.nil ?_
      skip
      exact Keff.intro ⟨rfl, rfl, congrArg (fun b => some (Value.bool b)) (by first | (simp_all; done) | (simp_all; intros; omega)), trivial⟩ (by simp) (by repeat (first | exact List.Sublist.refl _ | refine List.Sublist.cons _ ?_ | refine List.Sublist.cons_cons _ ?_))
  refine Kseq.go ?_
  refine W.cond rfl rfl (fun he => ?_) (fun hne => ?_)
  · refine W.seq ?_
    refine W.region ?_
    refine WL.val (OpVal.call rfl (fun m hm => awake11_any)) rfl rfl rfl ?_
    refine WL.val (OpVal.opv rfl) rfl rfl rfl ?_
    refine WL.nil ?_
    refine Kseq.go ?_
    refine W.ret ?_; refine Kseq.ret ?_; refine ⟨.inl rfl, [_], h, ⟨.tmp rfl, trivial⟩, (by repeat (first | exact .head _ | refine .tail _ ?_)), ?_⟩
    rfl
  simp only [Bool.or_eq_false_iff, Bool.not_eq_false', decide_eq_false_iff_not] at hne
  obtain ⟨hrd, hl0⟩ := hne
  obtain ⟨hth, hV⟩ := readyE_iff.1 hrd
  have hs : SmE r := ThinE.sm hth
  refine W.skip (Kseq.go (W.seq ?_))
  skip
  refine W.region ?_
  refine WL.val (OpVal.opv rfl) rfl rfl rfl ?_
  refine WL.val (OpVal.opv rfl) rfl rfl rfl ?_
  refine WL.val (OpVal.len rfl (by assumption)) rfl rfl rfl ?_
  refine WL.val (OpVal.cast (OpVal.sub rfl rfl (by omega) (by omega)) (show _ = vi ((l.length - 1 : Nat) : Int) from congrArg (Value.int .i64) (by omega))) rfl rfl rfl ?_
  refine WL.val (OpVal.sliceH rfl rfl hl (by omega)) rfl rfl rfl ?_
  refine WL.val (OpVal.opv rfl) rfl rfl rfl ?_
  refine WL.nil ?_
  refine Kseq.go (W.seq ?_)
  have hl1 := IsInts.sub hl (lo := 0) (hi := l.length - 1) (by omega) (by omega)
  rw [List.drop_zero, Nat.sub_zero] at hl1
  generalize subV 1 0 (l.length - 1) v19 = s1 at *
  have hn1 : (l.take (l.length - 1)).length = l.length - 1 := by simp
  have hw1 := walk_take hw (l.length - 1)
  have hcong : ∀ t k, k ≤ l.length - 1 → minuteAt r t (l.take (l.length - 1)) k = minuteAt r t l k := fun t k hk => minuteAt_congr fun i hi => getD_take (by omega)
  have hbm : ∀ mo, brought (l.take (l.length - 1)) mo = true → brought l mo = true := fun mo h => brought_take h
  generalize l.take (l.length - 1) = l1 at *
  skip
  refine W.region ?_
  refine WL.val (OpVal.loadPW rfl (by assumption) (by repeat (first | exact .head _ | refine .tail _ ?_)) (by rfl)) rfl rfl rfl ?_
  refine WL.abs (OpAbs.call rfl (fun m hm => errand_any (hv'.le (by repeat (first | exact hm.1 | replace hm := hm.2))) hs)) rfl rfl rfl ?_
  rintro m36 v36 h36
  refine WL.val (OpVal.opv rfl) rfl rfl rfl ?_
  refine WL.abs (OpAbs.call rfl (fun m hm => list11_any (hl1.le (by repeat (first | exact hm.1 | replace hm := hm.2))) (by omega))) rfl rfl rfl ?_
  rintro m38 v38 h38
  refine WL.abs (OpAbs.call rfl (fun m hm => brings11_ok hV hw1 hs (h36.le (by repeat (first | exact hm.1 | replace hm := hm.2))) (h38.le (by repeat (first | exact hm.1 | replace hm := hm.2))))) rfl rfl rfl ?_
  rintro m39 _ ⟨c7, rfl, hc7⟩
  refine WL.val (OpVal.opv rfl) rfl rfl rfl ?_
  refine WL.val (OpVal.opv rfl) rfl rfl rfl ?_
  refine WL.val (OpVal.opv rfl) rfl rfl rfl ?_
  refine WL.val (OpVal.opv rfl) rfl rfl rfl ?_
  refine WL.val (OpVal.opv rfl) rfl rfl rfl ?_
  refine WL.nil ?_
  refine Kseq.go (W.seq ?_)
  skip
  refine W.region ?_
  refine WL.val (OpVal.loadPW rfl (by assumption) (by repeat (first | exact .head _ | refine .tail _ ?_)) (by rfl)) rfl rfl rfl ?_
  refine WL.abs (OpAbs.call rfl (fun m hm => errand_any (hv'.le (by repeat (first | exact hm.1 | replace hm := hm.2))) hs)) rfl rfl rfl ?_
  rintro m44 v44 h44
  refine WL.val (OpVal.opv rfl) rfl rfl rfl ?_
  refine WL.abs (OpAbs.call rfl (fun m hm => list11_any (hl.le (by repeat (first | exact hm.1 | replace hm := hm.2))) (by omega))) rfl rfl rfl ?_
  rintro m46 v46 h46
  refine WL.abs (OpAbs.call rfl (fun m hm => brings11_ok hV hw hs (h44.le (by repeat (first | exact hm.1 | replace hm := hm.2))) (h46.le (by repeat (first | exact hm.1 | replace hm := hm.2))))) rfl rfl rfl ?_
  rintro m47 _ ⟨c9, rfl, hc9⟩
  refine WL.val (OpVal.opv rfl) rfl rfl rfl ?_
  refine WL.val (OpVal.opv rfl) rfl rfl rfl ?_
  refine WL.val (OpVal.opv rfl) rfl rfl rfl ?_
  refine WL.val (OpVal.opv rfl) rfl rfl rfl ?_
  refine WL.val (OpVal.opv rfl) rfl rfl rfl ?_
  refine WL.nil ?_
  refine Kseq.go (W.seq ?_)
  skip
  refine W.region ?_
  refine WL.val (OpVal.loadPW rfl (by assumption) (by repeat (first | exact .head _ | refine .tail _ ?_)) (by rfl)) rfl rfl rfl ?_
  refine WL.abs (OpAbs.call rfl (fun m hm => errand_any (hv'.le (by repeat (first | exact hm.1 | replace hm := hm.2))) hs)) rfl rfl rfl ?_
  rintro m52 v52 h52
  refine WL.val (OpVal.opv rfl) rfl rfl rfl ?_
  refine WL.abs (OpAbs.call rfl (fun m hm => list11_any (hl1.le (by repeat (first | exact hm.1 | replace hm := hm.2))) (by omega))) rfl rfl rfl ?_
  rintro m54 v54 h54
  refine WL.abs (OpAbs.call rfl (fun m hm => comes11_ok hV hw1 hs (h52.le (by repeat (first | exact hm.1 | replace hm := hm.2))) (h54.le (by repeat (first | exact hm.1 | replace hm := hm.2))))) rfl rfl rfl ?_
  rintro m55 _ ⟨c11, rfl, hc11⟩
  refine WL.val (OpVal.opv rfl) rfl rfl rfl ?_
  refine WL.val (OpVal.opv rfl) rfl rfl rfl ?_
  refine WL.val (OpVal.opv rfl) rfl rfl rfl ?_
  refine WL.val (OpVal.opv rfl) rfl rfl rfl ?_
  refine WL.val (OpVal.opv rfl) rfl rfl rfl ?_
  refine WL.nil ?_
  refine Kseq.go (W.seq ?_)
  skip
  refine W.region ?_
  refine WL.val (OpVal.loadPW rfl (by assumption) (by repeat (first | exact .head _ | refine .tail _ ?_)) (by rfl)) rfl rfl rfl ?_
  refine WL.abs (OpAbs.call rfl (fun m hm => errand_any (hv'.le (by repeat (first | exact hm.1 | replace hm := hm.2))) hs)) rfl rfl rfl ?_
  rintro m60 v60 h60
  refine WL.val (OpVal.opv rfl) rfl rfl rfl ?_
  refine WL.abs (OpAbs.call rfl (fun m hm => list11_any (hl.le (by repeat (first | exact hm.1 | replace hm := hm.2))) (by omega))) rfl rfl rfl ?_
  rintro m62 v62 h62
  refine WL.abs (OpAbs.call rfl (fun m hm => comes11_ok hV hw hs (h60.le (by repeat (first | exact hm.1 | replace hm := hm.2))) (h62.le (by repeat (first | exact hm.1 | replace hm := hm.2))))) rfl rfl rfl ?_
  rintro m63 _ ⟨c13, rfl, hc13⟩
  refine WL.val (OpVal.opv rfl) rfl rfl rfl ?_
  refine WL.val (OpVal.opv rfl) rfl rfl rfl ?_
  refine WL.val (OpVal.opv rfl) rfl rfl rfl ?_
  refine WL.val (OpVal.opv rfl) rfl rfl rfl ?_
  refine WL.val (OpVal.opv rfl) rfl rfl rfl ?_
  refine WL.nil ?_
  refine Kseq.go (W.seq (W.seq ?_))
  have hcl1 := comesTo_len r l1 l1.length
  have hcl := comesTo_len r l l.length
  skip
  refine W.region ?_
  refine WL.val (OpVal.opv rfl) rfl rfl rfl ?_
  refine WL.val (OpVal.opv rfl) rfl rfl rfl ?_
  refine WL.val (OpVal.opv rfl) rfl rfl rfl ?_
  refine WL.val (OpVal.opv rfl) rfl rfl rfl ?_
  refine WL.val (OpVal.opv rfl) rfl rfl rfl ?_
  refine WL.val (OpVal.opv rfl) rfl rfl rfl ?_
  refine WL.val (OpVal.opv rfl) rfl rfl rfl ?_
  refine WL.val (OpVal.opv rfl) rfl rfl rfl ?_
  refine WL.val (OpVal.opv rfl) rfl rfl rfl ?_
  refine WL.val (OpVal.opv rfl) rfl rfl rfl ?_
  refine WL.val (OpVal.opv rfl) rfl rfl rfl ?_
  refine WL.val (OpVal.opv rfl) rfl rfl rfl ?_
  refine WL.val (OpVal.opv rfl) rfl rfl rfl ?_
  refine WL.val (OpVal.opv rfl) rfl rfl rfl ?_
  refine WL.val (OpVal.opv rfl) rfl rfl rfl ?_
  refine WL.val (OpVal.opv rfl) rfl rfl rfl ?_
  refine WL.val (OpVal.len rfl hc11) rfl rfl rfl ?_
  refine WL.val (OpVal.opv rfl) rfl rfl rfl ?_
  refine WL.val (OpVal.len rfl hl1) rfl rfl rfl ?_
  refine WL.val (OpVal.cast (OpVal.opv rfl) (congrArg Value.bool (show _ = false from by rw [hcl1]; simp))) rfl rfl rfl ?_
  refine WL.val (OpVal.opv rfl) rfl rfl rfl ?_
  refine WL.val (OpVal.opv rfl) rfl rfl rfl ?_
  refine WL.val (OpVal.opv rfl) rfl rfl rfl ?_
  refine WL.val (OpVal.len rfl hc13) rfl rfl rfl ?_
  refine WL.val (OpVal.opv rfl) rfl rfl rfl ?_
  refine WL.val (OpVal.len rfl hl) rfl rfl rfl ?_
  refine WL.val (OpVal.cast (OpVal.opv rfl) (congrArg Value.bool (show _ = false from by rw [hcl]; simp))) rfl rfl rfl ?_
  refine WL.val (OpVal.opv rfl) rfl rfl rfl ?_
  refine WL.nil ?_
  refine Kseq.go ?_
  refine W.cond rfl rfl (fun he => absurd he (by simp)) (fun _ => ?_)
  refine W.skip (Kseq.go (W.seq (W.seq ?_)))
  skip
  refine W.region ?_
  refine WL.val (OpVal.opv rfl) rfl rfl rfl ?_
  refine WL.nil ?_
  refine Kseq.go (W.block ?_)
  have hsub := pieces_sub (ms := movesR r) (p := fun i => brought l1 ((movesR r).getD i default)) (q := fun i => brought l ((movesR r).getD i default)) (fun i _ h => hbm _ h)
  generalize piecesB (movesR r) (fun i => brought l1 ((movesR r).getD i default)) = pa at *
  generalize piecesB (movesR r) (fun i => brought l ((movesR r).getD i default)) = pb at *
  have hpb := hc7.bd
  refine W.loopC (σ := Nat) (fun k => [(7, c7), (9, c9), (11, c11), (13, c13), (15, .int .i64 (k : Int))]) (fun k => k ≤ pa.length) (fun k => pa.length - k) 0 ⟨rfl, rfl, rfl, rfl, rfl, trivial⟩ (Nat.zero_le _) ?_
  intro k hk
  refine W.seq (W.seq ?_)
  refine W.region ?_
  refine WL.val (OpVal.opv rfl) rfl rfl rfl ?_
  refine WL.val (OpVal.opv rfl) rfl rfl rfl ?_
  refine WL.val (OpVal.len rfl hc7) rfl rfl rfl ?_
  refine WL.val (OpVal.opv rfl) rfl rfl rfl ?_
  refine WL.nil ?_
  refine Kseq.go ?_
  refine W.condD rfl rfl (fun hlt => ?_) (fun hge => ?_)
  · have hkp : k < pa.length := by omega
    have hmem : pa.getD k 0 ∈ pb := hsub.subset (mem_getD hkp)
    refine W.skip (Kseq.go (W.seq (W.block (W.seq ?_))))
    refine W.region ?_
    refine WL.val (OpVal.opv rfl) rfl rfl rfl ?_
    refine WL.val (OpVal.opv rfl) rfl rfl rfl ?_
    refine WL.val (OpVal.opv rfl) rfl rfl rfl ?_
    refine WL.val (OpVal.indexAddrN rfl rfl hc7 (by omega)) rfl rfl rfl ?_
    refine WL.val (OpVal.loadE rfl hc7 (by repeat (first | exact .head _ | refine .tail _ ?_)) (by omega) (by omega)) rfl rfl rfl ?_
    refine WL.val (OpVal.cast (OpVal.call rfl (fun m hm => has_any _ (hc9.le (by repeat (first | exact hm.1 | replace hm := hm.2))))) (congrArg Value.bool (decide_eq_true hmem))) rfl rfl rfl ?_
    refine WL.val (OpVal.opv rfl) rfl rfl rfl ?_
    refine WL.nil ?_
    refine Kseq.go ?_
    refine W.cond rfl rfl (fun he => absurd he (by simp)) (fun _ => ?_)
    refine W.skip (Kblock.normal (Kseq.go ?_))
    refine W.region ?_
    refine WL.val (OpVal.opv rfl) rfl rfl rfl ?_
    refine WL.val (OpVal.incr rfl (by omega)) rfl rfl rfl ?_
    refine WL.val (OpVal.opv rfl) rfl rfl rfl ?_
    refine WL.nil ?_
    skip
    exact Kloop.nextC (k + 1) (by omega) (by omega) ⟨rfl, rfl, rfl, rfl, rfl, trivial⟩ (by simp) (by repeat (first | exact List.Sublist.refl _ | refine List.Sublist.cons _ ?_ | refine List.Sublist.cons_cons _ ?_))
  refine W.exit (Kseq.exit (Kloop.exit (Kblock.here (Kseq.go (W.seq (W.seq ?_))))))
  skip
  refine W.region ?_
  refine WL.val (OpVal.opv rfl) rfl rfl rfl ?_
  refine WL.nil ?_
  refine Kseq.go (W.block ?_)
  refine W.loopC (σ := Nat) (fun k => [(11, c11), (13, c13), (16, .int .i64 (k : Int))]) (fun k => k ≤ l1.length) (fun k => l1.length - k) 0 ⟨rfl, rfl, rfl, trivial⟩ (Nat.zero_le _) ?_
  intro k hk
  refine W.seq (W.seq ?_)
  refine W.region ?_
  refine WL.val (OpVal.opv rfl) rfl rfl rfl ?_
  refine WL.val (OpVal.opv rfl) rfl rfl rfl ?_
  refine WL.val (OpVal.len rfl hc11) rfl rfl rfl ?_
  refine WL.val (OpVal.opv rfl) rfl rfl rfl ?_
  refine WL.nil ?_
  refine Kseq.go ?_
  refine W.condD rfl rfl (fun hlt => ?_) (fun hge => ?_)
  · have hkl : k < l1.length := by omega
    have hkl2 : k < l.length := by omega
    refine W.skip (Kseq.go (W.seq (W.block (W.seq ?_))))
    refine W.draw 8 (by kernel_rfl) (by kernel_rfl) (by kernel_rfl) rfl ?_
    refine DJ.val [] (OpVal.opv rfl) rfl rfl rfl rfl ?_
    refine DJ.val [] (OpVal.opv rfl) rfl rfl rfl rfl ?_
    refine DJ.val [] (OpVal.indexAddrN rfl rfl hc11 (by omega)) rfl rfl rfl rfl ?_
    refine DJ.val [] (OpVal.cast (OpVal.loadEA rfl hc11 (by repeat (first | exact .head _ | refine .tail _ ?_)) (by omega)) (show _ = vq [minuteAt r (leastE r) l (k + 1), minuteAt r (greatestE r) l (k + 1)] from by rw [comesTo_get hkl, hcong _ _ (by omega), hcong _ _ (by omega)]; rfl)) rfl rfl rfl rfl ?_
    refine DJ.val [] (OpVal.opv rfl) rfl rfl rfl rfl ?_
    refine DJ.val [] (OpVal.opv rfl) rfl rfl rfl rfl ?_
    refine DJ.val [] (OpVal.indexAddrN rfl rfl hc13 (by omega)) rfl rfl rfl rfl ?_
    refine DJ.val [] (OpVal.cast (OpVal.loadEA rfl hc13 (by repeat (first | exact .head _ | refine .tail _ ?_)) (by omega)) (show _ = vq [minuteAt r (leastE r) l (k + 1), minuteAt r (greatestE r) l (k + 1)] from by rw [comesTo_get hkl2]; rfl)) rfl rfl rfl rfl ?_
    refine DJ.nil ?_
    refine WL.val (OpVal.cast (OpVal.neqQ (N := 2) (enc := vi) (xs := [minuteAt r (leastE r) l (k + 1), minuteAt r (greatestE r) l (k + 1)]) (ys := [minuteAt r (leastE r) l (k + 1), minuteAt r (greatestE r) l (k + 1)]) rfl rfl rfl rfl) (show _ = Value.bool false from congrArg Value.bool (by simp))) rfl rfl rfl ?_
    refine WL.nil ?_
    refine Kseq.go ?_
    refine W.cond rfl rfl (fun he => absurd he (by simp)) (fun _ => ?_)
    refine W.skip (Kblock.normal (Kseq.go ?_))
    refine W.region ?_
    refine WL.val (OpVal.opv rfl) rfl rfl rfl ?_
    refine WL.val (OpVal.incr rfl (by omega)) rfl rfl rfl ?_
    refine WL.val (OpVal.opv rfl) rfl rfl rfl ?_
    refine WL.nil ?_
    skip
    exact Kloop.nextC (k + 1) (by omega) (by omega) ⟨rfl, rfl, rfl, trivial⟩ (by simp) (by repeat (first | exact List.Sublist.refl _ | refine List.Sublist.cons _ ?_ | refine List.Sublist.cons_cons _ ?_))
  refine W.exit (Kseq.exit (Kloop.exit (Kblock.here (Kseq.go (W.seq ?_)))))
  skip
  refine W.region ?_
  refine WL.val (OpVal.call rfl (fun m hm => awake11_any)) rfl rfl rfl ?_
  refine WL.val (OpVal.opv rfl) rfl rfl rfl ?_
  refine WL.nil ?_
  refine Kseq.go ?_
  refine W.ret ?_; skip; refine ⟨.inl rfl, [_], h, ⟨.tmp rfl, trivial⟩, (by repeat (first | exact .head _ | refine .tail _ ?_)), ?_⟩
  rfl
end Go.Proofs.YtjligncpaeeljaaGreat
