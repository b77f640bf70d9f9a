/- The statement ErrandNoBetter: its contract. -/
import Derived.Test.YtjligncpaeeljaaGreatT83
import Derived.Test.YtjligncpaeeljaaGreatT92
namespace Go.Proofs.YtjligncpaeeljaaGreat
open Go Go.Eng Go.RowKit

theorem proveB_own {r : Errand} {l : List Int} (hV : ValidE r) (hw : Walk r.n l) : proveB r l l.length = servesB r (movesR r) l := by
  unfold proveB servesB
  rw [walkedE_of hV hw]
  simp [Bool.and_comm]
/-- ErrandNoBetter -/
theorem errandNoBetter_any {h : Mem} {v wv : Value} {r : Errand} {ws : List Nat} (hv : IsErrand h v r) (hws : IsWds h wv ws) : FnV Tryz.prog 17 #[v, wv] h (.bool true) := by
  have hv' := hv
  obtain ⟨wov, pv, hov, sv, f, rfl, hW, hP, hM, hH, hS⟩ := hv
  refine FnR.val ?_
  refine FnR.of_W (n := 123) Tryz.func17 rfl rfl (Nat.le_of_ble_eq_true rfl) fun c hr hD hF => ?_
  refine W.seq ?_
  refine W.region ?_
  refine WL.box rfl rfl rfl rfl (fun b2 => ?_)
  refine WL.val (OpVal.opv rfl) rfl rfl rfl ?_
  refine WL.nil ?_
  refine Kseq.go (W.seq (W.seq ?_))
  refine W.freezeBox (.head _) (fun b hb => (hF b hb).elim) fun m1 h1 => ?_
  skip
  refine W.region ?_
  refine WL.val (OpVal.loadPW rfl (by assumption) (by repeat (first | exact .head _ | refine .tail _ ?_)) (by rfl)) rfl rfl rfl ?_
  refine WL.val (OpVal.call rfl (fun m hm => ready11_any (hv'.le (by repeat (first | exact hm.1 | replace hm := hm.2))))) rfl rfl rfl ?_
  refine WL.val (OpVal.opv rfl) rfl rfl rfl ?_
  refine WL.nil ?_
  refine Kseq.go ?_
  refine W.cond rfl rfl (fun he => ?_) (fun hne => ?_)
  · refine W.seq ?_
    refine W.region ?_
    refine WL.val (OpVal.call rfl (fun m hm => awake11_any)) rfl rfl rfl ?_
    refine WL.val (OpVal.opv rfl) rfl rfl rfl ?_
    refine WL.nil ?_
    refine Kseq.go ?_
    refine W.ret ?_; refine Kseq.ret ?_; refine ⟨.inl rfl, [_], h, ⟨.tmp rfl, trivial⟩, (by repeat (first | exact .head _ | refine .tail _ ?_)), ?_⟩
    rfl
  obtain ⟨hth, hV⟩ := readyE_iff.1 (show readyE r = true by simpa using hne)
  have hs : SmE r := ThinE.sm hth
  have h0 := faultT_zero.2 hV
  have hok := movesR_ok hV
  have hcal := hV.calls
  refine W.skip (Kseq.go (W.seq ?_))
  skip
  refine W.region ?_
  refine WL.val (OpVal.loadPW rfl (by assumption) (by repeat (first | exact .head _ | refine .tail _ ?_)) (by rfl)) rfl rfl rfl ?_
  refine WL.abs (OpAbs.call rfl (fun m hm => errand_any (hv'.le (by repeat (first | exact hm.1 | replace hm := hm.2))) hs)) rfl rfl rfl ?_
  rintro m21 v21 h21
  refine WL.abs (OpAbs.call rfl (fun m hm => bestT_any (h21.le (by repeat (first | exact hm.1 | replace hm := hm.2))) hs)) rfl rfl rfl ?_
  rintro m22 _ ⟨cv, rfl, hcv⟩
  refine WL.val (OpVal.opv rfl) rfl rfl rfl ?_
  refine WL.val (OpVal.opv rfl) rfl rfl rfl ?_
  refine WL.val (OpVal.opv rfl) rfl rfl rfl ?_
  refine WL.val (OpVal.opv rfl) rfl rfl rfl ?_
  refine WL.val (OpVal.opv rfl) rfl rfl rfl ?_
  refine WL.val (OpVal.opv rfl) rfl rfl rfl ?_
  refine WL.val (OpVal.opv rfl) rfl rfl rfl ?_
  refine WL.nil ?_
  refine Kseq.go (W.seq ?_)
  skip
  refine W.region ?_
  refine WL.val (OpVal.loadPW rfl (by assumption) (by repeat (first | exact .head _ | refine .tail _ ?_)) (by rfl)) rfl rfl rfl ?_
  refine WL.abs (OpAbs.call rfl (fun m hm => errand_any (hv'.le (by repeat (first | exact hm.1 | replace hm := hm.2))) hs)) rfl rfl rfl ?_
  rintro m28 v28 h28
  refine WL.val (OpVal.call rfl (fun m hm => fewestT11_any (h28.le (by repeat (first | exact hm.1 | replace hm := hm.2))) hs)) rfl rfl rfl ?_
  refine WL.val (OpVal.opv rfl) rfl rfl rfl ?_
  refine WL.val (OpVal.opv rfl) rfl rfl rfl ?_
  refine WL.val (OpVal.opv rfl) rfl rfl rfl ?_
  refine WL.val (OpVal.opv rfl) rfl rfl rfl ?_
  refine WL.val (OpVal.opv rfl) rfl rfl rfl ?_
  refine WL.nil ?_
  refine Kseq.go (W.seq ?_)
  rw [if_pos h0, h0]
  skip
  refine W.region ?_
  refine WL.val (OpVal.loadPW rfl (by assumption) (by repeat (first | exact .head _ | refine .tail _ ?_)) (by rfl)) rfl rfl rfl ?_
  refine WL.val (OpVal.opv rfl) rfl rfl rfl ?_
  refine WL.abs (OpAbs.call rfl (fun m hm => walked11_any (hv'.le (by repeat (first | exact hm.1 | replace hm := hm.2))) (hws.le (by repeat (first | exact hm.1 | replace hm := hm.2))))) rfl rfl rfl ?_
  rintro m34 v34 h34
  refine WL.val (OpVal.opv rfl) rfl rfl rfl ?_
  refine WL.nil ?_
  refine Kseq.go (W.seq ?_)
  obtain ⟨l, hl, hw, hl6⟩ := h34
  skip
  refine W.region ?_
  refine WL.val (OpVal.loadPW rfl (by assumption) (by repeat (first | exact .head _ | refine .tail _ ?_)) (by rfl)) rfl rfl rfl ?_
  refine WL.abs (OpAbs.call rfl (fun m hm => errand_any (hv'.le (by repeat (first | exact hm.1 | replace hm := hm.2))) hs)) rfl rfl rfl ?_
  rintro m36 v36 h36
  refine WL.val (OpVal.opv rfl) rfl rfl rfl ?_
  refine WL.abs (OpAbs.call rfl (fun m hm => list11_any (hl.le (by repeat (first | exact hm.1 | replace hm := hm.2))) (by omega))) rfl rfl rfl ?_
  rintro m38 v38 h38
  refine WL.val (OpVal.opv rfl) rfl rfl rfl ?_
  refine WL.val (OpVal.len rfl hl) rfl rfl rfl ?_
  refine WL.val (OpVal.call rfl (fun m hm => proveWalk_any _ (h36.le (by repeat (first | exact hm.1 | replace hm := hm.2))) hs (h38.le (by repeat (first | exact hm.1 | replace hm := hm.2))))) rfl rfl rfl ?_
  refine WL.val (OpVal.opv rfl) rfl rfl rfl ?_
  refine WL.nil ?_
  refine Kseq.go (W.seq ?_)
  rw [proveB_own hV hw]
  skip
  refine W.region ?_
  refine WL.val (OpVal.loadPW rfl (by assumption) (by repeat (first | exact .head _ | refine .tail _ ?_)) (by rfl)) rfl rfl rfl ?_
  refine WL.abs (OpAbs.call rfl (fun m hm => errand_any (hv'.le (by repeat (first | exact hm.1 | replace hm := hm.2))) hs)) rfl rfl rfl ?_
  rintro m44 v44 h44
  refine WL.val (OpVal.opv rfl) rfl rfl rfl ?_
  refine WL.abs (OpAbs.call rfl (fun m hm => list11_any (hl.le (by repeat (first | exact hm.1 | replace hm := hm.2))) (by omega))) rfl rfl rfl ?_
  rintro m46 v46 h46
  refine WL.abs (OpAbs.call rfl (fun m hm => comes11_ok hV hw hs (h44.le (by repeat (first | exact hm.1 | replace hm := hm.2))) (h46.le (by repeat (first | exact hm.1 | replace hm := hm.2))))) rfl rfl rfl ?_
  rintro m47 _ ⟨cv12, rfl, hcv12⟩
  refine WL.val (OpVal.opv rfl) rfl rfl rfl ?_
  refine WL.val (OpVal.opv rfl) rfl rfl rfl ?_
  refine WL.val (OpVal.opv rfl) rfl rfl rfl ?_
  refine WL.val (OpVal.opv rfl) rfl rfl rfl ?_
  refine WL.val (OpVal.opv rfl) rfl rfl rfl ?_
  refine WL.nil ?_
  refine Kseq.go (W.seq (W.seq ?_))
  have hcl := comesTo_len r l l.length
  have hfl : servesB r (movesR r) l = true → fewestP r.n (movesR r) ≤ l.length := fun hsv => fewestP_le (by omega) (canIn_iff.2 ⟨l, (mem_walks (by omega)).2 ⟨hw, Nat.le_refl _⟩, (servesB_iff.1 hsv).1⟩)
  have hin : servesB r (movesR r) l = true → l ∈ allW r := fun hsv => by
    have h1 := (sureB_iff.1 (servesB_iff.1 hsv).2).1
    exact (mem_walks (by omega)).2 ⟨hw, by omega⟩
  have hbv : bestV r = bestW r (movesR r) (allW r) (allW r).length := bestP_eq (walks_pairwise _ _) (Nat.le_refl _)
  have hnone : bestV r = none → servesB r (movesR r) l = false := fun hb => by
    cases hx : servesB r (movesR r) l with
    | false => rfl
    | true => have := bestW_none (hbv ▸ hb) l (hin hx); rw [hx] at this; cases this
  have hsome : ∀ b, bestV r = some b → servesB r (movesR r) l = true → better l (endingE r l) b (endingE r b) = false := fun b hb hsv => (bestW_some (hbv ▸ hb)).least l (hin hsv) hsv
  generalize servesB r (movesR r) l = sb at hfl hnone hsome ⊢
  clear hin
  skip
  refine W.toS [(2, .pointer (some ⟨b2, 0, none⟩)), (5, cv), (6, vi (if bestErr r = 0 then (foundC r (bestV r)).2 else 0)), (7, vi (bestErr r)), (8, vi (fewestP r.n (movesR r) : Int)), (10, v34), (11, .bool sb), (12, cv12), (71, .bool false)] ?_ ?_
  · skip
    refine W.region ?_
    refine WL.val (OpVal.opv rfl) rfl rfl rfl ?_
    refine WL.val (OpVal.cast (OpVal.opv rfl) (show _ = Value.bool false from rfl)) rfl rfl rfl ?_
    refine WL.val (OpVal.opv rfl) rfl rfl rfl ?_
    refine WL.splitB rfl rfl (fun g52 => ?_) (fun g52 => ?_)
    · refine WL.pass rfl rfl rfl ?_
      refine WL.pass rfl rfl rfl ?_
      refine WL.val (OpVal.opv rfl) rfl rfl rfl ?_
      refine WL.val (OpVal.opv rfl) rfl rfl rfl ?_
      refine WL.pass rfl rfl rfl ?_
      refine WL.pass rfl rfl rfl ?_
      refine WL.pass rfl rfl rfl ?_
      refine WL.pass rfl rfl rfl ?_
      refine WL.pass rfl rfl rfl ?_
      refine WL.val (OpVal.opv rfl) rfl rfl rfl ?_
      refine WL.val (OpVal.opv rfl) rfl rfl rfl ?_
      refine WL.pass rfl rfl rfl ?_
      refine WL.pass rfl rfl rfl ?_
      refine WL.pass rfl rfl rfl ?_
      refine WL.pass rfl rfl rfl ?_
      refine WL.pass rfl rfl rfl ?_
      refine WL.pass rfl rfl rfl ?_
      refine WL.pass rfl rfl rfl ?_
      refine WL.val (OpVal.opv rfl) rfl rfl rfl ?_
      refine WL.nil ?_
      skip
      first | exact Bool.noConfusion (show false = true from by assumption) | exact Bool.noConfusion (show true = false from by assumption) | exact Keff.intro ⟨rfl, rfl, rfl, rfl, rfl, rfl, rfl, rfl, rfl, trivial⟩ (by simp) (by repeat (first | exact List.Sublist.refl _ | refine List.Sublist.cons _ ?_ | refine List.Sublist.cons_cons _ ?_))
    · refine WL.val (OpVal.opv rfl) rfl rfl rfl ?_
      refine WL.val (OpVal.cast (OpVal.opv rfl) (show _ = Value.bool false from rfl)) rfl rfl rfl ?_
      refine WL.val (OpVal.opv rfl) rfl rfl rfl ?_
      refine WL.val (OpVal.opv rfl) rfl rfl rfl ?_
      refine WL.splitB rfl rfl (fun g56 => ?_) (fun g56 => ?_)
      · refine WL.pass rfl rfl rfl ?_
        refine WL.pass rfl rfl rfl ?_
        refine WL.pass rfl rfl rfl ?_
        refine WL.pass rfl rfl rfl ?_
        refine WL.pass rfl rfl rfl ?_
        refine WL.val (OpVal.opv rfl) rfl rfl rfl ?_
        refine WL.val (OpVal.opv rfl) rfl rfl rfl ?_
        refine WL.pass rfl rfl rfl ?_
        refine WL.pass rfl rfl rfl ?_
        refine WL.pass rfl rfl rfl ?_
        refine WL.pass rfl rfl rfl ?_
        refine WL.pass rfl rfl rfl ?_
        refine WL.pass rfl rfl rfl ?_
        refine WL.pass rfl rfl rfl ?_
        refine WL.val (OpVal.opv rfl) rfl rfl rfl ?_
        refine WL.nil ?_
        skip
        first | exact Bool.noConfusion (show false = true from by assumption) | exact Bool.noConfusion (show true = false from by assumption) | exact Keff.intro ⟨rfl, rfl, rfl, rfl, rfl, rfl, rfl, rfl, rfl, trivial⟩ (by simp) (by repeat (first | exact List.Sublist.refl _ | refine List.Sublist.cons _ ?_ | refine List.Sublist.cons_cons _ ?_))
      · refine WL.val (OpVal.opv rfl) rfl rfl rfl ?_
        refine WL.val (OpVal.len rfl hcv12) rfl rfl rfl ?_
        refine WL.val (OpVal.opv rfl) rfl rfl rfl ?_
        refine WL.val (OpVal.len rfl hl) rfl rfl rfl ?_
        refine WL.val (OpVal.cast (OpVal.opv rfl) (congrArg Value.bool (show _ = false from by rw [hcl]; simp))) rfl rfl rfl ?_
        refine WL.val (OpVal.opv rfl) rfl rfl rfl ?_
        refine WL.val (OpVal.opv rfl) rfl rfl rfl ?_
        refine WL.splitB rfl rfl (fun g63 => ?_) (fun g63 => ?_)
        · refine WL.pass rfl rfl rfl ?_
          refine WL.pass rfl rfl rfl ?_
          refine WL.pass rfl rfl rfl ?_
          refine WL.pass rfl rfl rfl ?_
          refine WL.pass rfl rfl rfl ?_
          refine WL.pass rfl rfl rfl ?_
          refine WL.pass rfl rfl rfl ?_
          refine WL.val (OpVal.opv rfl) rfl rfl rfl ?_
          refine WL.nil ?_
          skip
          first | exact Bool.noConfusion (show false = true from by assumption) | exact Bool.noConfusion (show true = false from by assumption) | exact Keff.intro ⟨rfl, rfl, rfl, rfl, rfl, rfl, rfl, rfl, rfl, trivial⟩ (by simp) (by repeat (first | exact List.Sublist.refl _ | refine List.Sublist.cons _ ?_ | refine List.Sublist.cons_cons _ ?_))
        · refine WL.val (OpVal.opv rfl) rfl rfl rfl ?_
          refine WL.val (OpVal.opv rfl) rfl rfl rfl ?_
          refine WL.splitB rfl rfl (fun g65 => ?_) (fun g65 => ?_)
          · refine WL.val (OpVal.opv rfl) rfl rfl rfl ?_
            refine WL.val (OpVal.len rfl hl) rfl rfl rfl ?_
            refine WL.val (OpVal.opv rfl) rfl rfl rfl ?_
            refine WL.val (OpVal.cast (OpVal.opv rfl) (congrArg Value.bool (decide_eq_false (by have := hfl (by assumption); omega)))) rfl rfl rfl ?_
            refine WL.val (OpVal.opv rfl) rfl rfl rfl ?_
            refine WL.val (OpVal.opv rfl) rfl rfl rfl ?_
            refine WL.nil ?_
            skip
            first | exact Bool.noConfusion (show false = true from by assumption) | exact Bool.noConfusion (show true = false from by assumption) | exact Keff.intro ⟨rfl, rfl, rfl, rfl, rfl, rfl, rfl, rfl, rfl, trivial⟩ (by simp) (by repeat (first | exact List.Sublist.refl _ | refine List.Sublist.cons _ ?_ | refine List.Sublist.cons_cons _ ?_))
          · refine WL.pass rfl rfl rfl ?_
            refine WL.pass rfl rfl rfl ?_
            refine WL.pass rfl rfl rfl ?_
            refine WL.pass rfl rfl rfl ?_
            refine WL.val (OpVal.opv rfl) rfl rfl rfl ?_
            refine WL.val (OpVal.opv rfl) rfl rfl rfl ?_
            refine WL.nil ?_
            skip
            first | exact Bool.noConfusion (show false = true from by assumption) | exact Bool.noConfusion (show true = false from by assumption) | exact Keff.intro ⟨rfl, rfl, rfl, rfl, rfl, rfl, rfl, rfl, rfl, trivial⟩ (by simp) (by repeat (first | exact List.Sublist.refl _ | refine List.Sublist.cons _ ?_ | refine List.Sublist.cons_cons _ ?_))
  refine Kseq.go ?_
  refine W.cond rfl rfl (fun he => absurd he (by simp)) (fun _ => ?_)
  refine W.skip (Kseq.go (W.seq (W.seq ?_)))
  cases hb : bestV r with
  | none =>
    have hbe : bestErr r = 10 := by unfold bestErr; rw [if_neg (by omega), hb]; rfl
    have hns := hnone hb
    subst hns
    rw [hbe]
    skip
    refine W.region ?_
    refine WL.val (OpVal.opv rfl) rfl rfl rfl ?_
    refine WL.val (OpVal.opv rfl) rfl rfl rfl ?_
    refine WL.nil ?_
    refine Kseq.go ?_
    refine W.cond rfl rfl (fun _ => ?_) (fun he => absurd he (by simp))
    refine W.seq ?_
    refine W.region ?_
    refine WL.val (OpVal.opv rfl) rfl rfl rfl ?_
    refine WL.val (OpVal.opv rfl) rfl rfl rfl ?_
    refine WL.val (OpVal.opv rfl) rfl rfl rfl ?_
    refine WL.val (OpVal.opv rfl) rfl rfl rfl ?_
    refine WL.val (OpVal.opv rfl) rfl rfl rfl ?_
    refine WL.val (OpVal.opv rfl) rfl rfl rfl ?_
    refine WL.val (OpVal.opv rfl) rfl rfl rfl ?_
    refine WL.val (OpVal.call rfl (fun m hm => awake11_any)) rfl rfl rfl ?_
    refine WL.val (OpVal.opv rfl) rfl rfl rfl ?_
    refine WL.val (OpVal.opv rfl) rfl rfl rfl ?_
    refine WL.nil ?_
    refine Kseq.go ?_
    refine W.ret ?_; refine Kseq.ret ?_; refine ⟨.inl rfl, [_], h, ⟨.tmp rfl, trivial⟩, (by repeat (first | exact .head _ | refine .tail _ ?_)), ?_⟩
    rfl
  | some b =>
    have hbe : bestErr r = 0 := by unfold bestErr; rw [if_neg (by omega), hb]; rfl
    have hB := bestW_some (hbv ▸ hb)
    have hbw := (mem_walks (show r.calls.toNat ≤ 7 by omega)).1 hB.mem
    have hpb : proveB r b b.length = true := (proveB_own hV hbw.1).trans hB.serves
    have hb7 := hbw.1.len
    have hbf : fewestP r.n (movesR r) ≤ b.length := fewestP_le (by omega) (canIn_iff.2 ⟨b, (mem_walks (by omega)).2 ⟨hbw.1, Nat.le_refl _⟩, (servesB_iff.1 hB.serves).1⟩)
    have hless := hsome b hb
    rw [hbe, if_pos rfl, hb] at hcv
    rw [hbe, if_pos rfl]
    replace hcv : IsInts m22 cv b := hcv
    show W _ _ _ ((2, .pointer (some ⟨b2, 0, none⟩)) :: (5, cv) :: (6, vi (endingE r b)) :: _) _ _
    skip
    refine W.region ?_
    refine WL.val (OpVal.opv rfl) rfl rfl rfl ?_
    refine WL.val (OpVal.opv rfl) rfl rfl rfl ?_
    refine WL.nil ?_
    refine Kseq.go ?_
    refine W.cond rfl rfl (fun he => absurd he (by simp)) (fun _ => ?_)
    refine W.skip (Kseq.go (W.seq ?_))
    skip
    refine W.region ?_
    refine WL.val (OpVal.fieldAddrB rfl) rfl rfl rfl ?_
    refine WL.val (OpVal.loadP rfl (by assumption) (by repeat (first | exact .head _ | refine .tail _ ?_)) rfl) rfl rfl rfl ?_
    refine WL.val (OpVal.opv rfl) rfl rfl rfl ?_
    refine WL.nil ?_
    refine Kseq.go (W.seq (W.seq ?_))
    skip
    refine W.region ?_
    refine WL.val (OpVal.opv rfl) rfl rfl rfl ?_
    refine WL.val (OpVal.len rfl hcv12) rfl rfl rfl ?_
    refine WL.val (OpVal.opv rfl) rfl rfl rfl ?_
    refine WL.nil ?_
    refine Kseq.go ?_
    refine W.condD rfl rfl (fun hlt => ?_) (fun hge => ?_)
    · have hl0 : 0 < l.length := by omega
      have hend : ((comesTo r l l.length).getD (l.length - 1) default).hi = endingE r l := by
        rw [comesTo_get (by omega)]
        unfold endingE
        rw [show l.length - 1 + 1 = l.length by omega]
      skip
      refine W.region ?_
      refine WL.val (OpVal.opv rfl) rfl rfl rfl ?_
      refine WL.val (OpVal.opv rfl) rfl rfl rfl ?_
      refine WL.val (OpVal.len rfl hcv12) rfl rfl rfl ?_
      refine WL.val (OpVal.cast (OpVal.sub rfl rfl (by omega) (by omega)) (show _ = vi ((l.length - 1 : Nat) : Int) from congrArg (Value.int .i64) (by omega))) rfl rfl rfl ?_
      refine WL.val (OpVal.indexAddrN rfl rfl hcv12 (by omega)) rfl rfl rfl ?_
      refine WL.val (OpVal.fieldAddrN rfl hcv12 (by omega)) rfl rfl rfl ?_
      refine WL.val (OpVal.cast (OpVal.loadE rfl hcv12 (by repeat (first | exact .head _ | refine .tail _ ?_)) (by omega) (by omega)) (show _ = vi (endingE r l) from congrArg (Value.int .i64) hend)) rfl rfl rfl ?_
      refine WL.val (OpVal.opv rfl) rfl rfl rfl ?_
      refine WL.nil ?_
      refine Kseq.go (W.seq ?_)
      skip
      skip
      refine W.region ?_
      refine WL.val (OpVal.opv rfl) rfl rfl rfl ?_
      refine WL.val (OpVal.len rfl hcv) rfl rfl rfl ?_
      refine WL.val (OpVal.opv rfl) rfl rfl rfl ?_
      refine WL.val (OpVal.cast (OpVal.opv rfl) (congrArg Value.bool (decide_eq_true (by omega)))) rfl rfl rfl ?_
      refine WL.val (OpVal.opv rfl) rfl rfl rfl ?_
      refine WL.splitB rfl rfl (fun g99 => ?_) (fun g99 => ?_)
      · refine WL.val (OpVal.loadPW rfl (by assumption) (by repeat (first | exact .head _ | refine .tail _ ?_)) (by rfl)) rfl rfl rfl ?_
        refine WL.abs (OpAbs.call rfl (fun m hm => errand_any (hv'.le (by repeat (first | exact hm.1 | replace hm := hm.2))) hs)) rfl rfl rfl ?_
        rintro m101 v101 h101
        refine WL.val (OpVal.opv rfl) rfl rfl rfl ?_
        refine WL.abs (OpAbs.call rfl (fun m hm => list11_any (hcv.le (by repeat (first | exact hm.1 | replace hm := hm.2))) (by omega))) rfl rfl rfl ?_
        rintro m103 v103 h103
        refine WL.val (OpVal.opv rfl) rfl rfl rfl ?_
        refine WL.val (OpVal.len rfl hcv) rfl rfl rfl ?_
        refine WL.val (OpVal.cast (OpVal.call rfl (fun m hm => proveWalk_any _ (h101.le (by repeat (first | exact hm.1 | replace hm := hm.2))) hs (h103.le (by repeat (first | exact hm.1 | replace hm := hm.2))))) (congrArg Value.bool hpb)) rfl rfl rfl ?_
        refine WL.val (OpVal.opv rfl) rfl rfl rfl ?_
        refine WL.val (OpVal.opv rfl) rfl rfl rfl ?_
        refine WL.splitB rfl rfl (fun g108 => ?_) (fun g108 => ?_)
        · refine WL.val (OpVal.opv rfl) rfl rfl rfl ?_
          refine WL.val (OpVal.opv rfl) rfl rfl rfl ?_
          refine WL.val (OpVal.opv rfl) rfl rfl rfl ?_
          refine WL.splitB rfl rfl (fun g111 => ?_) (fun g111 => ?_)
          · refine WL.pass rfl rfl rfl ?_
            refine WL.pass rfl rfl rfl ?_
            refine WL.pass rfl rfl rfl ?_
            refine WL.pass rfl rfl rfl ?_
            refine WL.pass rfl rfl rfl ?_
            refine WL.pass rfl rfl rfl ?_
            refine WL.val (OpVal.opv rfl) rfl rfl rfl ?_
            refine WL.val (OpVal.opv rfl) rfl rfl rfl ?_
            refine WL.val (OpVal.opv rfl) rfl rfl rfl ?_
            refine WL.val (OpVal.call rfl (fun m hm => awake11_any)) rfl rfl rfl ?_
            refine WL.val (OpVal.opv rfl) rfl rfl rfl ?_
            refine WL.val (OpVal.opv rfl) rfl rfl rfl ?_
            refine WL.nil ?_
            refine Kseq.go ?_
            first | exact Bool.noConfusion (show false = true from by assumption) | exact Bool.noConfusion (show true = false from by assumption) | (refine W.ret ?_; skip; refine ⟨.inl rfl, [_], h, ⟨.tmp rfl, trivial⟩, (by repeat (first | exact .head _ | refine .tail _ ?_)), ?_⟩; rfl)
          · refine WL.val (OpVal.opv rfl) rfl rfl rfl ?_
            refine WL.val (OpVal.opv rfl) rfl rfl rfl ?_
            refine WL.val (OpVal.opv rfl) rfl rfl rfl ?_
            refine WL.val (OpVal.opv rfl) rfl rfl rfl ?_
            refine WL.val (OpVal.cast (OpVal.call rfl (fun m hm => betterR_any _ _ (hl.le (by repeat (first | exact hm.1 | replace hm := hm.2))) (hcv.le (by repeat (first | exact hm.1 | replace hm := hm.2))))) (congrArg Value.bool (hless (by simpa using (show (!sb) = false from by assumption))))) rfl rfl rfl ?_
            refine WL.val (OpVal.opv rfl) rfl rfl rfl ?_
            refine WL.val (OpVal.opv rfl) rfl rfl rfl ?_
            refine WL.val (OpVal.opv rfl) rfl rfl rfl ?_
            refine WL.val (OpVal.opv rfl) rfl rfl rfl ?_
            refine WL.splitB rfl rfl (fun g120 => ?_) (fun g120 => ?_)
            · refine WL.val (OpVal.call rfl (fun m hm => awake11_any)) rfl rfl rfl ?_
              refine WL.val (OpVal.opv rfl) rfl rfl rfl ?_
              refine WL.val (OpVal.opv rfl) rfl rfl rfl ?_
              refine WL.nil ?_
              refine Kseq.go ?_
              first | exact Bool.noConfusion (show false = true from by assumption) | exact Bool.noConfusion (show true = false from by assumption) | (refine W.ret ?_; skip; refine ⟨.inl rfl, [_], h, ⟨.tmp rfl, trivial⟩, (by repeat (first | exact .head _ | refine .tail _ ?_)), ?_⟩; rfl)
            · refine WL.pass rfl rfl rfl ?_
              refine WL.val (OpVal.opv rfl) rfl rfl rfl ?_
              refine WL.val (OpVal.opv rfl) rfl rfl rfl ?_
              refine WL.nil ?_
              refine Kseq.go ?_
              first | exact Bool.noConfusion (show false = true from by assumption) | exact Bool.noConfusion (show true = false from by assumption) | (refine W.ret ?_; skip; refine ⟨.inl rfl, [_], h, ⟨.tmp rfl, trivial⟩, (by repeat (first | exact .head _ | refine .tail _ ?_)), ?_⟩; rfl)
        · refine WL.pass rfl rfl rfl ?_
          refine WL.pass rfl rfl rfl ?_
          refine WL.pass rfl rfl rfl ?_
          refine WL.pass rfl rfl rfl ?_
          refine WL.pass rfl rfl rfl ?_
          refine WL.pass rfl rfl rfl ?_
          refine WL.pass rfl rfl rfl ?_
          refine WL.pass rfl rfl rfl ?_
          refine WL.pass rfl rfl rfl ?_
          refine WL.pass rfl rfl rfl ?_
          refine WL.val (OpVal.opv rfl) rfl rfl rfl ?_
          refine WL.val (OpVal.opv rfl) rfl rfl rfl ?_
          refine WL.pass rfl rfl rfl ?_
          refine WL.val (OpVal.opv rfl) rfl rfl rfl ?_
          refine WL.val (OpVal.opv rfl) rfl rfl rfl ?_
          refine WL.nil ?_
          refine Kseq.go ?_
          first | exact Bool.noConfusion (show false = true from by assumption) | exact Bool.noConfusion (show true = false from by assumption) | (refine W.ret ?_; skip; refine ⟨.inl rfl, [_], h, ⟨.tmp rfl, trivial⟩, (by repeat (first | exact .head _ | refine .tail _ ?_)), ?_⟩; rfl)
      · refine WL.pass rfl rfl rfl ?_
        refine WL.pass rfl rfl rfl ?_
        refine WL.pass rfl rfl rfl ?_
        refine WL.pass rfl rfl rfl ?_
        refine WL.pass rfl rfl rfl ?_
        refine WL.pass rfl rfl rfl ?_
        refine WL.pass rfl rfl rfl ?_
        refine WL.val (OpVal.opv rfl) rfl rfl rfl ?_
        refine WL.val (OpVal.opv rfl) rfl rfl rfl ?_
        refine WL.pass rfl rfl rfl ?_
        refine WL.pass rfl rfl rfl ?_
        refine WL.pass rfl rfl rfl ?_
        refine WL.pass rfl rfl rfl ?_
        refine WL.pass rfl rfl rfl ?_
        refine WL.pass rfl rfl rfl ?_
        refine WL.pass rfl rfl rfl ?_
        refine WL.pass rfl rfl rfl ?_
        refine WL.pass rfl rfl rfl ?_
        refine WL.pass rfl rfl rfl ?_
        refine WL.val (OpVal.opv rfl) rfl rfl rfl ?_
        refine WL.val (OpVal.opv rfl) rfl rfl rfl ?_
        refine WL.pass rfl rfl rfl ?_
        refine WL.val (OpVal.opv rfl) rfl rfl rfl ?_
        refine WL.val (OpVal.opv rfl) rfl rfl rfl ?_
        refine WL.nil ?_
        refine Kseq.go ?_
        first | exact Bool.noConfusion (show false = true from by assumption) | exact Bool.noConfusion (show true = false from by assumption) | (refine W.ret ?_; skip; refine ⟨.inl rfl, [_], h, ⟨.tmp rfl, trivial⟩, (by repeat (first | exact .head _ | refine .tail _ ?_)), ?_⟩; rfl)
    · have hl0 : l.length = 0 := by omega
      have hend : endingE r l = r.start := by unfold endingE; rw [hl0]; rfl
      rw [hend] at hless
      refine W.skip (Kseq.go (W.seq ?_))
      skip
      refine W.region ?_
      refine WL.val (OpVal.opv rfl) rfl rfl rfl ?_
      refine WL.val (OpVal.len rfl hcv) rfl rfl rfl ?_
      refine WL.val (OpVal.opv rfl) rfl rfl rfl ?_
      refine WL.val (OpVal.cast (OpVal.opv rfl) (congrArg Value.bool (decide_eq_true (by omega)))) rfl rfl rfl ?_
      refine WL.val (OpVal.opv rfl) rfl rfl rfl ?_
      refine WL.splitB rfl rfl (fun g99 => ?_) (fun g99 => ?_)
      · refine WL.val (OpVal.loadPW rfl (by assumption) (by repeat (first | exact .head _ | refine .tail _ ?_)) (by rfl)) rfl rfl rfl ?_
        refine WL.abs (OpAbs.call rfl (fun m hm => errand_any (hv'.le (by repeat (first | exact hm.1 | replace hm := hm.2))) hs)) rfl rfl rfl ?_
        rintro m101 v101 h101
        refine WL.val (OpVal.opv rfl) rfl rfl rfl ?_
        refine WL.abs (OpAbs.call rfl (fun m hm => list11_any (hcv.le (by repeat (first | exact hm.1 | replace hm := hm.2))) (by omega))) rfl rfl rfl ?_
        rintro m103 v103 h103
        refine WL.val (OpVal.opv rfl) rfl rfl rfl ?_
        refine WL.val (OpVal.len rfl hcv) rfl rfl rfl ?_
        refine WL.val (OpVal.cast (OpVal.call rfl (fun m hm => proveWalk_any _ (h101.le (by repeat (first | exact hm.1 | replace hm := hm.2))) hs (h103.le (by repeat (first | exact hm.1 | replace hm := hm.2))))) (congrArg Value.bool hpb)) rfl rfl rfl ?_
        refine WL.val (OpVal.opv rfl) rfl rfl rfl ?_
        refine WL.val (OpVal.opv rfl) rfl rfl rfl ?_
        refine WL.splitB rfl rfl (fun g108 => ?_) (fun g108 => ?_)
        · refine WL.val (OpVal.opv rfl) rfl rfl rfl ?_
          refine WL.val (OpVal.opv rfl) rfl rfl rfl ?_
          refine WL.val (OpVal.opv rfl) rfl rfl rfl ?_
          refine WL.splitB rfl rfl (fun g111 => ?_) (fun g111 => ?_)
          · refine WL.pass rfl rfl rfl ?_
            refine WL.pass rfl rfl rfl ?_
            refine WL.pass rfl rfl rfl ?_
            refine WL.pass rfl rfl rfl ?_
            refine WL.pass rfl rfl rfl ?_
            refine WL.pass rfl rfl rfl ?_
            refine WL.val (OpVal.opv rfl) rfl rfl rfl ?_
            refine WL.val (OpVal.opv rfl) rfl rfl rfl ?_
            refine WL.val (OpVal.opv rfl) rfl rfl rfl ?_
            refine WL.val (OpVal.call rfl (fun m hm => awake11_any)) rfl rfl rfl ?_
            refine WL.val (OpVal.opv rfl) rfl rfl rfl ?_
            refine WL.val (OpVal.opv rfl) rfl rfl rfl ?_
            refine WL.nil ?_
            refine Kseq.go ?_
            first | exact Bool.noConfusion (show false = true from by assumption) | exact Bool.noConfusion (show true = false from by assumption) | (refine W.ret ?_; skip; refine ⟨.inl rfl, [_], h, ⟨.tmp rfl, trivial⟩, (by repeat (first | exact .head _ | refine .tail _ ?_)), ?_⟩; rfl)
          · refine WL.val (OpVal.opv rfl) rfl rfl rfl ?_
            refine WL.val (OpVal.opv rfl) rfl rfl rfl ?_
            refine WL.val (OpVal.opv rfl) rfl rfl rfl ?_
            refine WL.val (OpVal.opv rfl) rfl rfl rfl ?_
            refine WL.val (OpVal.cast (OpVal.call rfl (fun m hm => betterR_any _ _ (hl.le (by repeat (first | exact hm.1 | replace hm := hm.2))) (hcv.le (by repeat (first | exact hm.1 | replace hm := hm.2))))) (congrArg Value.bool (hless (by simpa using (show (!sb) = false from by assumption))))) rfl rfl rfl ?_
            refine WL.val (OpVal.opv rfl) rfl rfl rfl ?_
            refine WL.val (OpVal.opv rfl) rfl rfl rfl ?_
            refine WL.val (OpVal.opv rfl) rfl rfl rfl ?_
            refine WL.val (OpVal.opv rfl) rfl rfl rfl ?_
            refine WL.splitB rfl rfl (fun g120 => ?_) (fun g120 => ?_)
            · refine WL.val (OpVal.call rfl (fun m hm => awake11_any)) rfl rfl rfl ?_
              refine WL.val (OpVal.opv rfl) rfl rfl rfl ?_
              refine WL.val (OpVal.opv rfl) rfl rfl rfl ?_
              refine WL.nil ?_
              refine Kseq.go ?_
              first | exact Bool.noConfusion (show false = true from by assumption) | exact Bool.noConfusion (show true = false from by assumption) | (refine W.ret ?_; skip; refine ⟨.inl rfl, [_], h, ⟨.tmp rfl, trivial⟩, (by repeat (first | exact .head _ | refine .tail _ ?_)), ?_⟩; rfl)
            · refine WL.pass rfl rfl rfl ?_
              refine WL.val (OpVal.opv rfl) rfl rfl rfl ?_
              refine WL.val (OpVal.opv rfl) rfl rfl rfl ?_
              refine WL.nil ?_
              refine Kseq.go ?_
              first | exact Bool.noConfusion (show false = true from by assumption) | exact Bool.noConfusion (show true = false from by assumption) | (refine W.ret ?_; skip; refine ⟨.inl rfl, [_], h, ⟨.tmp rfl, trivial⟩, (by repeat (first | exact .head _ | refine .tail _ ?_)), ?_⟩; rfl)
        · refine WL.pass rfl rfl rfl ?_
          refine WL.pass rfl rfl rfl ?_
          refine WL.pass rfl rfl rfl ?_
          refine WL.pass rfl rfl rfl ?_
          refine WL.pass rfl rfl rfl ?_
          refine WL.pass rfl rfl rfl ?_
          refine WL.pass rfl rfl rfl ?_
          refine WL.pass rfl rfl rfl ?_
          refine WL.pass rfl rfl rfl ?_
          refine WL.pass rfl rfl rfl ?_
          refine WL.val (OpVal.opv rfl) rfl rfl rfl ?_
          refine WL.val (OpVal.opv rfl) rfl rfl rfl ?_
          refine WL.pass rfl rfl rfl ?_
          refine WL.val (OpVal.opv rfl) rfl rfl rfl ?_
          refine WL.val (OpVal.opv rfl) rfl rfl rfl ?_
          refine WL.nil ?_
          refine Kseq.go ?_
          first | exact Bool.noConfusion (show false = true from by assumption) | exact Bool.noConfusion (show true = false from by assumption) | (refine W.ret ?_; skip; refine ⟨.inl rfl, [_], h, ⟨.tmp rfl, trivial⟩, (by repeat (first | exact .head _ | refine .tail _ ?_)), ?_⟩; rfl)
      · refine WL.pass rfl rfl rfl ?_
        refine WL.pass rfl rfl rfl ?_
        refine WL.pass rfl rfl rfl ?_
        refine WL.pass rfl rfl rfl ?_
        refine WL.pass rfl rfl rfl ?_
        refine WL.pass rfl rfl rfl ?_
        refine WL.pass rfl rfl rfl ?_
        refine WL.val (OpVal.opv rfl) rfl rfl rfl ?_
        refine WL.val (OpVal.opv rfl) rfl rfl rfl ?_
        refine WL.pass rfl rfl rfl ?_
        refine WL.pass rfl rfl rfl ?_
        refine WL.pass rfl rfl rfl ?_
        refine WL.pass rfl rfl rfl ?_
        refine WL.pass rfl rfl rfl ?_
        refine WL.pass rfl rfl rfl ?_
        refine WL.pass rfl rfl rfl ?_
        refine WL.pass rfl rfl rfl ?_
        refine WL.pass rfl rfl rfl ?_
        refine WL.pass rfl rfl rfl ?_
        refine WL.val (OpVal.opv rfl) rfl rfl rfl ?_
        refine WL.val (OpVal.opv rfl) rfl rfl rfl ?_
        refine WL.pass rfl rfl rfl ?_
        refine WL.val (OpVal.opv rfl) rfl rfl rfl ?_
        refine WL.val (OpVal.opv rfl) rfl rfl rfl ?_
        refine WL.nil ?_
        refine Kseq.go ?_
        first | exact Bool.noConfusion (show false = true from by assumption) | exact Bool.noConfusion (show true = false from by assumption) | (refine W.ret ?_; skip; refine ⟨.inl rfl, [_], h, ⟨.tmp rfl, trivial⟩, (by repeat (first | exact .head _ | refine .tail _ ?_)), ?_⟩; rfl)
end Go.Proofs.YtjligncpaeeljaaGreat
