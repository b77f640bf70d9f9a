/- The statement ErrandEnds: its contract. -/
import Derived.Test.YtjligncpaeeljaaGreatT81
namespace Go.Proofs.YtjligncpaeeljaaGreat
open Go Go.Eng Go.RowKit

theorem walkedE_of {r : Errand} {l : List Int} (hV : ValidE r) (hw : Walk r.n l) : walkedE r l = 0 := walkedE_ok hV (isWalk_iff.2 hw)
theorem playE_ok {r : Errand} {tr l : List Int} (hV : ValidE r) (ht : TruthE r tr) (hw : Walk r.n l) : playE11 r tr l = 0 := by
  unfold playE11
  rw [if_neg (by rw [faultT_zero.2 hV]; simp), if_pos (by rw [isTruthE_iff.2 ht, isWalk_iff.2 hw]; rfl)]
/-- Play, of a truth and a walk. -/
theorem play11_ok {h : Mem} {v tv lv : Value} {r : Errand} {tr l : List Int} (hV : ValidE r) (hT : TruthE r tr) (hw : Walk r.n l) (hs : SmE r) (hv : IsErrand h v r) (ht : IsInts h tv tr) (hl : IsInts h lv l) : FnR Tryz.prog 22 #[v, tv, lv] h (fun m q => ∃ cv, q = .tuple #[cv, vi 0] ∧ IsInts m cv (minutes r tr l)) := by
  have := playT11_any hv hs ht hl
  rwa [playE_ok hV hT hw, if_pos rfl] at this
/-- Comes, of a walk. -/
theorem comes11_ok {h : Mem} {v lv : Value} {r : Errand} {l : List Int} (hV : ValidE r) (hw : Walk r.n l) (hs : SmE r) (hv : IsErrand h v r) (hl : IsInts h lv l) : FnR Tryz.prog 31 #[v, lv] h (fun m q => ∃ cv, q = .tuple #[cv, vi 0] ∧ IsRgs m cv (comesTo r l l.length)) := by
  have := comesT_any hv hs hl
  rwa [walkedE_of hV hw, if_pos rfl] at this
/-- Brings, of a walk. -/
theorem brings11_ok {h : Mem} {v lv : Value} {r : Errand} {l : List Int} (hV : ValidE r) (hw : Walk r.n l) (hs : SmE r) (hv : IsErrand h v r) (hl : IsInts h lv l) : FnR Tryz.prog 37 #[v, lv] h (fun m q => ∃ cv, q = .tuple #[cv, vi 0] ∧ IsInts m cv (piecesB (movesR r) (fun i => brought l ((movesR r).getD i default)))) := by
  have := bringsT_any hv hs hl
  rwa [walkedE_of hV hw, if_pos rfl] at this
/-- ErrandEnds -/
theorem errandEnds_any {h : Mem} {v wv : Value} {r : Errand} {ws : List Nat} (hv : IsErrand h v r) (hws : IsWds h wv ws) : FnV Tryz.prog 9 #[v, wv] h (.bool true) := by
  have hv' := hv
  obtain ⟨wov, pv, hov, sv, f, rfl, hW, hP, hM, hH, hS⟩ := hv
  refine FnR.val ?_
  refine FnR.of_W (n := 100) Tryz.func9 rfl rfl (Nat.le_of_ble_eq_true rfl) fun c hr hD hF => ?_
  refine W.seq ?_
  refine W.region ?_
  refine WL.box rfl rfl rfl rfl (fun b2 => ?_)
  refine WL.val (OpVal.opv rfl) rfl rfl rfl ?_
  refine WL.nil ?_
  refine Kseq.go (W.seq (W.seq ?_))
  refine W.freezeBox (.head _) (fun b hb => (hF b hb).elim) fun m1 h1 => ?_
  skip
  refine W.region ?_
  refine WL.val (OpVal.loadPW rfl (by assumption) (by repeat (first | exact .head _ | refine .tail _ ?_)) (by rfl)) rfl rfl rfl ?_
  refine WL.val (OpVal.call rfl (fun m hm => ready11_any (hv'.le (by repeat (first | exact hm.1 | replace hm := hm.2))))) rfl rfl rfl ?_
  refine WL.val (OpVal.opv rfl) rfl rfl rfl ?_
  refine WL.nil ?_
  refine Kseq.go ?_
  refine W.cond rfl rfl (fun he => ?_) (fun hne => ?_)
  · refine W.seq ?_
    refine W.region ?_
    refine WL.val (OpVal.call rfl (fun m hm => awake11_any)) rfl rfl rfl ?_
    refine WL.val (OpVal.opv rfl) rfl rfl rfl ?_
    refine WL.nil ?_
    refine Kseq.go ?_
    refine W.ret ?_; refine Kseq.ret ?_; refine ⟨.inl rfl, [_], h, ⟨.tmp rfl, trivial⟩, (by repeat (first | exact .head _ | refine .tail _ ?_)), ?_⟩
    rfl
  obtain ⟨hth, hV⟩ := readyE_iff.1 (show readyE r = true by simpa using hne)
  have hs : SmE r := ThinE.sm hth
  have h100 : r.streets.length ≤ 100 := by have := hV.streetsLen; have := streets_le hV.women; omega
  refine W.skip (Kseq.go (W.seq ?_))
  skip
  refine W.region ?_
  refine WL.val (OpVal.loadPW rfl (by assumption) (by repeat (first | exact .head _ | refine .tail _ ?_)) (by rfl)) rfl rfl rfl ?_
  refine WL.val (OpVal.opv rfl) rfl rfl rfl ?_
  refine WL.abs (OpAbs.call rfl (fun m hm => walked11_any (hv'.le (by repeat (first | exact hm.1 | replace hm := hm.2))) (hws.le (by repeat (first | exact hm.1 | replace hm := hm.2))))) rfl rfl rfl ?_
  rintro m19 v19 h19
  refine WL.val (OpVal.opv rfl) rfl rfl rfl ?_
  refine WL.nil ?_
  refine Kseq.go (W.seq ?_)
  obtain ⟨l, hl, hw, hl6⟩ := h19
  let A27 : Mem → Value → Prop := fun m q => ∃ cv, q = .tuple #[cv, vi 0] ∧ IsInts m cv (minutes r (leastE r) l)
  let A37 : Mem → Value → Prop := fun m q => ∃ cv, q = .tuple #[cv, vi 0] ∧ IsInts m cv (minutes r (greatestE r) l)
  skip
  refine W.draw 11 (by kernel_rfl) (by kernel_rfl) (by kernel_rfl) rfl ?_
  refine DJ.val [] (OpVal.loadPW rfl (by assumption) (by repeat (first | exact .head _ | refine .tail _ ?_)) (by rfl)) rfl rfl rfl rfl ?_
  refine DJ.abs (A := fun m q => IsErrand m q r) [] (OpAbs.call rfl (fun m hm => errand_any (hv'.le (by repeat (first | exact hm.1 | replace hm := hm.2))) hs)) rfl rfl rfl rfl ?_
  refine DJ.val [] (OpVal.loadPW rfl (by assumption) (by repeat (first | exact .head _ | refine .tail _ ?_)) (by rfl)) rfl rfl rfl rfl ?_
  refine DJ.abs (A := fun m q => IsInts m q (leastE r)) [] (OpAbs.call rfl (fun m hm => leastR_any (hv'.le (by repeat (first | exact hm.1 | replace hm := hm.2))) h100)) rfl rfl rfl rfl ?_
  refine DJ.val [] (OpVal.opv rfl) rfl rfl rfl rfl ?_
  refine DJ.abs (A := fun m q => IsInts m q l) [] (OpAbs.call rfl (fun m hm => list11_any (hl.le (by repeat (first | exact hm.1 | replace hm := hm.2))) (by omega))) rfl rfl rfl rfl ?_
  refine DJ.abs (A := A27) [(26, fun m q => IsInts m q l), (24, fun m q => IsInts m q (leastE r)), (22, fun m q => IsErrand m q r)] (fun m26 v26 h26 => fun m24 v24 h24 => fun m22 v22 h22 => OpAbs.call rfl (fun m hm => play11_ok hV (least_truth hV) hw hs (h22.le (by repeat (first | exact hm.1 | replace hm := hm.2))) (h24.le (by repeat (first | exact hm.1 | replace hm := hm.2))) (h26.le (by repeat (first | exact hm.1 | replace hm := hm.2))))) rfl rfl rfl rfl ?_ (hG := ⟨(by repeat (first | exact .head _ | refine .tail _ ?_)), rfl, (by repeat (first | exact .head _ | refine .tail _ ?_)), rfl, (by repeat (first | exact .head _ | refine .tail _ ?_)), rfl, trivial⟩)
  refine DJ.abs (A := A27) [(27, A27)] (fun m27 v27 h27 => OpAbs.ofVal (OpVal.opv rfl) (by repeat (first | exact .head _ | refine .tail _ ?_)) h27) rfl rfl rfl rfl ?_ (hG := ⟨(by repeat (first | exact .head _ | refine .tail _ ?_)), rfl, trivial⟩)
  refine DJ.abs (A := fun m q => IsInts m q (minutes r (leastE r) l)) [(20, A27)] (fun m20 v20 h20 => by obtain ⟨cv, rfl, hc⟩ := h20; exact OpAbs.ofVal (OpVal.opv rfl) (by repeat (first | exact .head _ | refine .tail _ ?_)) hc) rfl rfl rfl rfl ?_ (hG := ⟨(by repeat (first | exact .head _ | refine .tail _ ?_)), rfl, trivial⟩)
  refine DJ.val [(20, A27)] (fun m20 v20 h20 => (show OpVal _ _ _ _ _ (vi 0) from by obtain ⟨cv, rfl, hc⟩ := h20; exact OpVal.opv rfl)) rfl rfl rfl rfl ?_ (hG := ⟨(by repeat (first | exact .head _ | refine .tail _ ?_)), rfl, trivial⟩)
  refine DJ.abs (A := fun m q => IsInts m q (minutes r (leastE r) l)) [(28, fun m q => IsInts m q (minutes r (leastE r) l))] (fun m28 v28 h28 => OpAbs.ofVal (OpVal.opv rfl) (by repeat (first | exact .head _ | refine .tail _ ?_)) h28) rfl rfl rfl rfl ?_ (hG := ⟨(by repeat (first | exact .head _ | refine .tail _ ?_)), rfl, trivial⟩)
  refine DJ.nil ?_
  rintro m6 v6 h6
  rintro m28 v28 h28
  rintro m20 v20 h20
  rintro m27 v27 h27
  rintro m26 v26 h26
  rintro m24 v24 h24
  rintro m22 v22 h22
  refine WL.val (OpVal.opv rfl) rfl rfl rfl ?_
  refine WL.nil ?_
  refine Kseq.go (W.seq ?_)
  skip
  refine W.draw 11 (by kernel_rfl) (by kernel_rfl) (by kernel_rfl) rfl ?_
  refine DJ.val [] (OpVal.loadPW rfl (by assumption) (by repeat (first | exact .head _ | refine .tail _ ?_)) (by rfl)) rfl rfl rfl rfl ?_
  refine DJ.abs (A := fun m q => IsErrand m q r) [] (OpAbs.call rfl (fun m hm => errand_any (hv'.le (by repeat (first | exact hm.1 | replace hm := hm.2))) hs)) rfl rfl rfl rfl ?_
  refine DJ.val [] (OpVal.loadPW rfl (by assumption) (by repeat (first | exact .head _ | refine .tail _ ?_)) (by rfl)) rfl rfl rfl rfl ?_
  refine DJ.abs (A := fun m q => IsInts m q (greatestE r)) [] (OpAbs.call rfl (fun m hm => greatestR_any (hv'.le (by repeat (first | exact hm.1 | replace hm := hm.2))) h100)) rfl rfl rfl rfl ?_
  refine DJ.val [] (OpVal.opv rfl) rfl rfl rfl rfl ?_
  refine DJ.abs (A := fun m q => IsInts m q l) [] (OpAbs.call rfl (fun m hm => list11_any (hl.le (by repeat (first | exact hm.1 | replace hm := hm.2))) (by omega))) rfl rfl rfl rfl ?_
  refine DJ.abs (A := A37) [(36, fun m q => IsInts m q l), (34, fun m q => IsInts m q (greatestE r)), (32, fun m q => IsErrand m q r)] (fun m36 v36 h36 => fun m34 v34 h34 => fun m32 v32 h32 => OpAbs.call rfl (fun m hm => play11_ok hV (greatest_truth hV) hw hs (h32.le (by repeat (first | exact hm.1 | replace hm := hm.2))) (h34.le (by repeat (first | exact hm.1 | replace hm := hm.2))) (h36.le (by repeat (first | exact hm.1 | replace hm := hm.2))))) rfl rfl rfl rfl ?_ (hG := ⟨(by repeat (first | exact .head _ | refine .tail _ ?_)), rfl, (by repeat (first | exact .head _ | refine .tail _ ?_)), rfl, (by repeat (first | exact .head _ | refine .tail _ ?_)), rfl, trivial⟩)
  refine DJ.abs (A := A37) [(37, A37)] (fun m37 v37 h37 => OpAbs.ofVal (OpVal.opv rfl) (by repeat (first | exact .head _ | refine .tail _ ?_)) h37) rfl rfl rfl rfl ?_ (hG := ⟨(by repeat (first | exact .head _ | refine .tail _ ?_)), rfl, trivial⟩)
  refine DJ.abs (A := fun m q => IsInts m q (minutes r (greatestE r) l)) [(30, A37)] (fun m30 v30 h30 => by obtain ⟨cv, rfl, hc⟩ := h30; exact OpAbs.ofVal (OpVal.opv rfl) (by repeat (first | exact .head _ | refine .tail _ ?_)) hc) rfl rfl rfl rfl ?_ (hG := ⟨(by repeat (first | exact .head _ | refine .tail _ ?_)), rfl, trivial⟩)
  refine DJ.val [(30, A37)] (fun m30 v30 h30 => (show OpVal _ _ _ _ _ (vi 0) from by obtain ⟨cv, rfl, hc⟩ := h30; exact OpVal.opv rfl)) rfl rfl rfl rfl ?_ (hG := ⟨(by repeat (first | exact .head _ | refine .tail _ ?_)), rfl, trivial⟩)
  refine DJ.abs (A := fun m q => IsInts m q (minutes r (greatestE r) l)) [(38, fun m q => IsInts m q (minutes r (greatestE r) l))] (fun m38 v38 h38 => OpAbs.ofVal (OpVal.opv rfl) (by repeat (first | exact .head _ | refine .tail _ ?_)) h38) rfl rfl rfl rfl ?_ (hG := ⟨(by repeat (first | exact .head _ | refine .tail _ ?_)), rfl, trivial⟩)
  refine DJ.nil ?_
  rintro m8 v8 h8
  rintro m38 v38 h38
  rintro m30 v30 h30
  rintro m37 v37 h37
  rintro m36 v36 h36
  rintro m34 v34 h34
  rintro m32 v32 h32
  refine WL.val (OpVal.opv rfl) rfl rfl rfl ?_
  refine WL.nil ?_
  refine Kseq.go (W.seq ?_)
  skip
  refine W.region ?_
  refine WL.val (OpVal.loadPW rfl (by assumption) (by repeat (first | exact .head _ | refine .tail _ ?_)) (by rfl)) rfl rfl rfl ?_
  refine WL.abs (OpAbs.call rfl (fun m hm => errand_any (hv'.le (by repeat (first | exact hm.1 | replace hm := hm.2))) hs)) rfl rfl rfl ?_
  rintro m42 v42 h42
  refine WL.val (OpVal.opv rfl) rfl rfl rfl ?_
  refine WL.abs (OpAbs.call rfl (fun m hm => list11_any (hl.le (by repeat (first | exact hm.1 | replace hm := hm.2))) (by omega))) rfl rfl rfl ?_
  rintro m44 v44 h44
  refine WL.abs (OpAbs.call rfl (fun m hm => comes11_ok hV hw hs (h42.le (by repeat (first | exact hm.1 | replace hm := hm.2))) (h44.le (by repeat (first | exact hm.1 | replace hm := hm.2))))) rfl rfl rfl ?_
  rintro m45 _ ⟨cv, rfl, hcv⟩
  refine WL.val (OpVal.opv rfl) rfl rfl rfl ?_
  refine WL.val (OpVal.opv rfl) rfl rfl rfl ?_
  refine WL.val (OpVal.opv rfl) rfl rfl rfl ?_
  refine WL.val (OpVal.opv rfl) rfl rfl rfl ?_
  refine WL.val (OpVal.opv rfl) rfl rfl rfl ?_
  refine WL.nil ?_
  refine Kseq.go (W.seq (W.seq ?_))
  have hm1 := minutes_len r (leastE r) l
  have hm2 := minutes_len r (greatestE r) l
  have hcl := comesTo_len r l l.length
  skip
  refine W.region ?_
  refine WL.val (OpVal.opv rfl) rfl rfl rfl ?_
  refine WL.val (OpVal.opv rfl) rfl rfl rfl ?_
  refine WL.val (OpVal.opv rfl) rfl rfl rfl ?_
  refine WL.val (OpVal.opv rfl) rfl rfl rfl ?_
  refine WL.val (OpVal.opv rfl) rfl rfl rfl ?_
  refine WL.val (OpVal.opv rfl) rfl rfl rfl ?_
  refine WL.val (OpVal.opv rfl) rfl rfl rfl ?_
  refine WL.val (OpVal.opv rfl) rfl rfl rfl ?_
  refine WL.val (OpVal.opv rfl) rfl rfl rfl ?_
  refine WL.val (OpVal.opv rfl) rfl rfl rfl ?_
  refine WL.val (OpVal.opv rfl) rfl rfl rfl ?_
  refine WL.val (OpVal.opv rfl) rfl rfl rfl ?_
  refine WL.val (OpVal.len rfl h6) rfl rfl rfl ?_
  refine WL.val (OpVal.opv rfl) rfl rfl rfl ?_
  refine WL.val (OpVal.len rfl hl) rfl rfl rfl ?_
  refine WL.val (OpVal.cast (OpVal.opv rfl) (congrArg Value.bool (show _ = false from by rw [hm1]; simp))) rfl rfl rfl ?_
  refine WL.val (OpVal.opv rfl) rfl rfl rfl ?_
  refine WL.val (OpVal.opv rfl) rfl rfl rfl ?_
  refine WL.val (OpVal.opv rfl) rfl rfl rfl ?_
  refine WL.val (OpVal.len rfl h8) rfl rfl rfl ?_
  refine WL.val (OpVal.opv rfl) rfl rfl rfl ?_
  refine WL.val (OpVal.len rfl hl) rfl rfl rfl ?_
  refine WL.val (OpVal.cast (OpVal.opv rfl) (congrArg Value.bool (show _ = false from by rw [hm2]; simp))) rfl rfl rfl ?_
  refine WL.val (OpVal.opv rfl) rfl rfl rfl ?_
  refine WL.val (OpVal.opv rfl) rfl rfl rfl ?_
  refine WL.val (OpVal.opv rfl) rfl rfl rfl ?_
  refine WL.val (OpVal.len rfl hcv) rfl rfl rfl ?_
  refine WL.val (OpVal.opv rfl) rfl rfl rfl ?_
  refine WL.val (OpVal.len rfl hl) rfl rfl rfl ?_
  refine WL.val (OpVal.cast (OpVal.opv rfl) (congrArg Value.bool (show _ = false from by rw [hcl]; simp))) rfl rfl rfl ?_
  refine WL.val (OpVal.opv rfl) rfl rfl rfl ?_
  refine WL.nil ?_
  refine Kseq.go ?_
  refine W.cond rfl rfl (fun he => absurd he (by simp)) (fun _ => ?_)
  refine W.skip (Kseq.go (W.seq (W.seq ?_)))
  skip
  refine W.region ?_
  refine WL.val (OpVal.opv rfl) rfl rfl rfl ?_
  refine WL.nil ?_
  refine Kseq.go (W.block ?_)
  refine W.loopC (σ := Nat) (fun k => [(6, v6), (8, v8), (10, cv), (12, .int .i64 (k : Int))]) (fun k => k ≤ l.length) (fun k => l.length - k) 0 ⟨rfl, rfl, rfl, rfl, trivial⟩ (Nat.zero_le _) ?_
  intro k hk
  refine W.seq (W.seq ?_)
  refine W.region ?_
  refine WL.val (OpVal.opv rfl) rfl rfl rfl ?_
  refine WL.val (OpVal.opv rfl) rfl rfl rfl ?_
  refine WL.val (OpVal.len rfl hcv) rfl rfl rfl ?_
  refine WL.val (OpVal.opv rfl) rfl rfl rfl ?_
  refine WL.nil ?_
  refine Kseq.go ?_
  refine W.condD rfl rfl (fun hlt => ?_) (fun hge => ?_)
  · have hkl : k < l.length := by omega
    refine W.skip (Kseq.go (W.seq (W.block (W.seq ?_))))
    refine W.draw 13 (by kernel_rfl) (by kernel_rfl) (by kernel_rfl) rfl ?_
    refine DJ.val [] (OpVal.opv rfl) rfl rfl rfl rfl ?_
    refine DJ.val [] (OpVal.opv rfl) rfl rfl rfl rfl ?_
    refine DJ.val [] (OpVal.indexAddrN rfl rfl hcv (by omega)) rfl rfl rfl rfl ?_
    refine DJ.val [] (OpVal.cast (OpVal.loadEA rfl hcv (by repeat (first | exact .head _ | refine .tail _ ?_)) (by omega)) (show _ = vq [minuteAt r (leastE r) l (k + 1), minuteAt r (greatestE r) l (k + 1)] from by rw [comesTo_get hkl]; rfl)) rfl rfl rfl rfl ?_
    refine DJ.val [] (OpVal.opv rfl) rfl rfl rfl rfl ?_
    refine DJ.val [] (OpVal.opv rfl) rfl rfl rfl rfl ?_
    refine DJ.val [] (OpVal.indexAddrN rfl rfl h6 (by omega)) rfl rfl rfl rfl ?_
    refine DJ.val [] (OpVal.cast (OpVal.loadE rfl h6 (by repeat (first | exact .head _ | refine .tail _ ?_)) (by omega) (by omega)) (congrArg (Value.int .i64) (minutes_get hkl))) rfl rfl rfl rfl ?_
    refine DJ.val [] (OpVal.opv rfl) rfl rfl rfl rfl ?_
    refine DJ.val [] (OpVal.opv rfl) rfl rfl rfl rfl ?_
    refine DJ.val [] (OpVal.indexAddrN rfl rfl h8 (by omega)) rfl rfl rfl rfl ?_
    refine DJ.val [] (OpVal.cast (OpVal.loadE rfl h8 (by repeat (first | exact .head _ | refine .tail _ ?_)) (by omega) (by omega)) (congrArg (Value.int .i64) (minutes_get hkl))) rfl rfl rfl rfl ?_
    refine DJ.val [] (OpVal.call rfl (fun m hm => between11_any _ _)) rfl rfl rfl rfl ?_
    refine DJ.nil ?_
    refine WL.val (OpVal.cast (OpVal.neqQ (N := 2) (enc := vi) (xs := [minuteAt r (leastE r) l (k + 1), minuteAt r (greatestE r) l (k + 1)]) (ys := [minuteAt r (leastE r) l (k + 1), minuteAt r (greatestE r) l (k + 1)]) rfl rfl rfl rfl) (show _ = Value.bool false from congrArg Value.bool (by simp))) rfl rfl rfl ?_
    refine WL.nil ?_
    refine Kseq.go ?_
    refine W.cond rfl rfl (fun he => absurd he (by simp)) (fun _ => ?_)
    refine W.skip (Kblock.normal (Kseq.go ?_))
    refine W.region ?_
    refine WL.val (OpVal.opv rfl) rfl rfl rfl ?_
    refine WL.val (OpVal.incr rfl (by omega)) rfl rfl rfl ?_
    refine WL.val (OpVal.opv rfl) rfl rfl rfl ?_
    refine WL.nil ?_
    skip
    exact Kloop.nextC (k + 1) (by omega) (by omega) ⟨rfl, rfl, rfl, rfl, trivial⟩ (by simp) (by repeat (first | exact List.Sublist.refl _ | refine List.Sublist.cons _ ?_ | refine List.Sublist.cons_cons _ ?_))
  refine W.exit (Kseq.exit (Kloop.exit (Kblock.here (Kseq.go (W.seq ?_)))))
  skip
  refine W.region ?_
  refine WL.val (OpVal.call rfl (fun m hm => awake11_any)) rfl rfl rfl ?_
  refine WL.val (OpVal.opv rfl) rfl rfl rfl ?_
  refine WL.nil ?_
  refine Kseq.go ?_
  refine W.ret ?_; skip; refine ⟨.inl rfl, [_], h, ⟨.tmp rfl, trivial⟩, (by repeat (first | exact .head _ | refine .tail _ ?_)), ?_⟩
  rfl
end Go.Proofs.YtjligncpaeeljaaGreat
