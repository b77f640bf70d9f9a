/- The statement ErrandTruth: its contract. -/
import Derived.Test.YtjligncpaeeljaaGreatT83
namespace Go.Proofs.YtjligncpaeeljaaGreat
open Go Go.Eng Go.RowKit

theorem lateV_two {r : Errand} {l : List Int} (hV : ValidE r) (hw : Walk r.n l) : ((lateV r l).2 = 0 ∨ (lateV r l).2 = 7) ∧ ((lateV r l).2 = 7 → ∀ k, k < l.length → inTime r l k = true) := by
  have h0 := walkedE_of hV hw
  unfold lateV
  rw [if_neg (by omega)]
  split
  · rename_i h
    exact ⟨.inr rfl, fun _ k hk => (fstNo_all_iff.1 h) k hk⟩
  · exact ⟨.inl rfl, fun h => absurd h (by simp)⟩
/-- ErrandTruth -/
theorem errandTruth_any {h : Mem} {v wv : Value} {r : Errand} {ws : List Nat} {x : Nat} (hv : IsErrand h v r) (hws : IsWds h wv ws) (hx : x < 65536) : FnV Tryz.prog 8 #[v, wv, .int .u16 (x : Int)] h (.bool true) := by
  have hv' := hv
  obtain ⟨wov, pv, hov, sv, f, rfl, hW, hP, hM, hH, hS⟩ := hv
  refine FnR.val ?_
  refine FnR.of_W (n := 154) Tryz.func8 rfl rfl (Nat.le_of_ble_eq_true rfl) fun c hr hD hF => ?_
  refine W.seq ?_
  refine W.region ?_
  refine WL.box rfl rfl rfl rfl (fun b3 => ?_)
  refine WL.val (OpVal.opv rfl) rfl rfl rfl ?_
  refine WL.nil ?_
  refine Kseq.go (W.seq (W.seq ?_))
  refine W.freezeBox (.head _) (fun b hb => (hF b hb).elim) fun m1 h1 => ?_
  skip
  refine W.region ?_
  refine WL.val (OpVal.loadPW rfl (by assumption) (by repeat (first | exact .head _ | refine .tail _ ?_)) (by rfl)) rfl rfl rfl ?_
  refine WL.val (OpVal.call rfl (fun m hm => ready11_any (hv'.le (by repeat (first | exact hm.1 | replace hm := hm.2))))) rfl rfl rfl ?_
  refine WL.val (OpVal.opv rfl) rfl rfl rfl ?_
  refine WL.nil ?_
  refine Kseq.go ?_
  refine W.cond rfl rfl (fun he => ?_) (fun hne => ?_)
  · refine W.seq ?_
    refine W.region ?_
    refine WL.val (OpVal.call rfl (fun m hm => awake11_any)) rfl rfl rfl ?_
    refine WL.val (OpVal.opv rfl) rfl rfl rfl ?_
    refine WL.nil ?_
    refine Kseq.go ?_
    refine W.ret ?_; refine Kseq.ret ?_; refine ⟨.inl rfl, [_], h, ⟨.tmp rfl, trivial⟩, (by repeat (first | exact .head _ | refine .tail _ ?_)), ?_⟩
    rfl
  obtain ⟨hth, hV⟩ := readyE_iff.1 (show readyE r = true by simpa using hne)
  have hs : SmE r := ThinE.sm hth
  refine W.skip (Kseq.go (W.seq ?_))
  skip
  refine W.region ?_
  refine WL.val (OpVal.loadPW rfl (by assumption) (by repeat (first | exact .head _ | refine .tail _ ?_)) (by rfl)) rfl rfl rfl ?_
  refine WL.val (OpVal.opv rfl) rfl rfl rfl ?_
  refine WL.abs (OpAbs.call rfl (fun m hm => walked11_any (hv'.le (by repeat (first | exact hm.1 | replace hm := hm.2))) (hws.le (by repeat (first | exact hm.1 | replace hm := hm.2))))) rfl rfl rfl ?_
  rintro m22 v22 h22
  refine WL.val (OpVal.opv rfl) rfl rfl rfl ?_
  refine WL.nil ?_
  refine Kseq.go (W.seq ?_)
  obtain ⟨l, hl, hw, hl6⟩ := h22
  let A32 : Mem → Value → Prop := fun m q => ∃ tr cv, TruthE r tr ∧ q = .tuple #[cv, vi 0] ∧ IsInts m cv (minutes r tr l)
  let A33 : Mem → Value → Prop := fun m q => ∃ tr, TruthE r tr ∧ IsInts m q (minutes r tr l)
  skip
  refine W.draw 13 (by kernel_rfl) (by kernel_rfl) (by kernel_rfl) rfl ?_
  refine DJ.val [] (OpVal.loadPW rfl (by assumption) (by repeat (first | exact .head _ | refine .tail _ ?_)) (by rfl)) rfl rfl rfl rfl ?_
  refine DJ.abs (A := fun m q => IsErrand m q r) [] (OpAbs.call rfl (fun m hm => errand_any (hv'.le (by repeat (first | exact hm.1 | replace hm := hm.2))) hs)) rfl rfl rfl rfl ?_
  refine DJ.val [] (OpVal.loadPW rfl (by assumption) (by repeat (first | exact .head _ | refine .tail _ ?_)) (by rfl)) rfl rfl rfl rfl ?_
  refine DJ.val [] (OpVal.opv rfl) rfl rfl rfl rfl ?_
  refine DJ.val [] (OpVal.conv rfl (i64_in (by omega) (by omega))) rfl rfl rfl rfl ?_
  refine DJ.abs (A := fun m q => ∃ tr, TruthE r tr ∧ IsInts m q tr) [] (OpAbs.call rfl (fun m hm => chosen11_any (hv'.le (by repeat (first | exact hm.1 | replace hm := hm.2))) hV (by omega) (by omega))) rfl rfl rfl rfl ?_
  refine DJ.val [] (OpVal.opv rfl) rfl rfl rfl rfl ?_
  refine DJ.abs (A := fun m q => IsInts m q l) [] (OpAbs.call rfl (fun m hm => list11_any (hl.le (by repeat (first | exact hm.1 | replace hm := hm.2))) (by omega))) rfl rfl rfl rfl ?_
  refine DJ.abs (A := A32) [(31, fun m q => IsInts m q l), (29, fun m q => ∃ tr, TruthE r tr ∧ IsInts m q tr), (25, fun m q => IsErrand m q r)] (fun m31 v31 h31 => fun m29 v29 h29 => fun m25 v25 h25 => by obtain ⟨tr, hT, ht⟩ := h29; exact OpAbs.mono (OpAbs.call rfl (fun m hm => play11_ok hV hT hw hs (h25.le (by repeat (first | exact hm.1 | replace hm := hm.2))) (ht.le (by repeat (first | exact hm.1 | replace hm := hm.2))) (h31.le (by repeat (first | exact hm.1 | replace hm := hm.2))))) (fun m q ⟨cv, e, hc⟩ => Exists.intro tr (Exists.intro cv (And.intro hT (And.intro e hc))))) rfl rfl rfl rfl ?_ (hG := ⟨(by repeat (first | exact .head _ | refine .tail _ ?_)), rfl, (by repeat (first | exact .head _ | refine .tail _ ?_)), rfl, (by repeat (first | exact .head _ | refine .tail _ ?_)), rfl, trivial⟩)
  refine DJ.abs (A := A32) [(32, A32)] (fun m32 v32 h32 => OpAbs.ofVal (OpVal.opv rfl) (by repeat (first | exact .head _ | refine .tail _ ?_)) h32) rfl rfl rfl rfl ?_ (hG := ⟨(by repeat (first | exact .head _ | refine .tail _ ?_)), rfl, trivial⟩)
  refine DJ.abs (A := A33) [(23, A32)] (fun m23 v23 h23 => by obtain ⟨tr, cv, hT, rfl, hc⟩ := h23; exact OpAbs.ofVal (OpVal.opv rfl) (by repeat (first | exact .head _ | refine .tail _ ?_)) (Exists.intro tr (And.intro hT hc))) rfl rfl rfl rfl ?_ (hG := ⟨(by repeat (first | exact .head _ | refine .tail _ ?_)), rfl, trivial⟩)
  refine DJ.val [(23, A32)] (fun m23 v23 h23 => (show OpVal _ _ _ _ _ (vi 0) from by obtain ⟨tr, cv, hT, rfl, hc⟩ := h23; exact OpVal.opv rfl)) rfl rfl rfl rfl ?_ (hG := ⟨(by repeat (first | exact .head _ | refine .tail _ ?_)), rfl, trivial⟩)
  refine DJ.abs (A := A33) [(33, A33)] (fun m33 v33 h33 => OpAbs.ofVal (OpVal.opv rfl) (by repeat (first | exact .head _ | refine .tail _ ?_)) h33) rfl rfl rfl rfl ?_ (hG := ⟨(by repeat (first | exact .head _ | refine .tail _ ?_)), rfl, trivial⟩)
  refine DJ.nil ?_
  rintro m8 v8 h8
  rintro m33 v33 h33
  rintro m23 v23 h23
  rintro m32 v32 h32
  rintro m31 v31 h31
  rintro m29 v29 h29
  rintro m25 v25 h25
  refine WL.val (OpVal.opv rfl) rfl rfl rfl ?_
  refine WL.nil ?_
  refine Kseq.go (W.seq ?_)
  obtain ⟨tr, hT, h8⟩ := h8
  clear h23 h32 h33 h29
  skip
  refine W.region ?_
  refine WL.val (OpVal.loadPW rfl (by assumption) (by repeat (first | exact .head _ | refine .tail _ ?_)) (by rfl)) rfl rfl rfl ?_
  refine WL.abs (OpAbs.call rfl (fun m hm => errand_any (hv'.le (by repeat (first | exact hm.1 | replace hm := hm.2))) hs)) rfl rfl rfl ?_
  rintro m37 v37 h37
  refine WL.val (OpVal.opv rfl) rfl rfl rfl ?_
  refine WL.abs (OpAbs.call rfl (fun m hm => list11_any (hl.le (by repeat (first | exact hm.1 | replace hm := hm.2))) (by omega))) rfl rfl rfl ?_
  rintro m39 v39 h39
  refine WL.abs (OpAbs.call rfl (fun m hm => comes11_ok hV hw hs (h37.le (by repeat (first | exact hm.1 | replace hm := hm.2))) (h39.le (by repeat (first | exact hm.1 | replace hm := hm.2))))) rfl rfl rfl ?_
  rintro m40 _ ⟨cv, rfl, hcv⟩
  refine WL.val (OpVal.opv rfl) rfl rfl rfl ?_
  refine WL.val (OpVal.opv rfl) rfl rfl rfl ?_
  refine WL.val (OpVal.opv rfl) rfl rfl rfl ?_
  refine WL.val (OpVal.opv rfl) rfl rfl rfl ?_
  refine WL.val (OpVal.opv rfl) rfl rfl rfl ?_
  refine WL.nil ?_
  refine Kseq.go (W.seq ?_)
  skip
  refine W.region ?_
  refine WL.val (OpVal.loadPW rfl (by assumption) (by repeat (first | exact .head _ | refine .tail _ ?_)) (by rfl)) rfl rfl rfl ?_
  refine WL.abs (OpAbs.call rfl (fun m hm => errand_any (hv'.le (by repeat (first | exact hm.1 | replace hm := hm.2))) hs)) rfl rfl rfl ?_
  rintro m45 v45 h45
  refine WL.val (OpVal.opv rfl) rfl rfl rfl ?_
  refine WL.abs (OpAbs.call rfl (fun m hm => list11_any (hl.le (by repeat (first | exact hm.1 | replace hm := hm.2))) (by omega))) rfl rfl rfl ?_
  rintro m47 v47 h47
  refine WL.val (OpVal.call rfl (fun m hm => lateT_any (h45.le (by repeat (first | exact hm.1 | replace hm := hm.2))) hs (h47.le (by repeat (first | exact hm.1 | replace hm := hm.2))))) rfl rfl rfl ?_
  refine WL.val (OpVal.opv rfl) rfl rfl rfl ?_
  refine WL.val (OpVal.opv rfl) rfl rfl rfl ?_
  refine WL.val (OpVal.opv rfl) rfl rfl rfl ?_
  refine WL.val (OpVal.opv rfl) rfl rfl rfl ?_
  refine WL.val (OpVal.opv rfl) rfl rfl rfl ?_
  refine WL.nil ?_
  refine Kseq.go (W.seq (W.seq ?_))
  have hm1 := minutes_len r tr l
  have hcl := comesTo_len r l l.length
  obtain ⟨he2, he7⟩ := lateV_two hV hw
  skip
  refine W.toS [(3, .pointer (some ⟨b3, 0, none⟩)), (7, v22), (8, v8), (10, cv), (13, vi (lateV r l).2), (78, .bool false)] ?_ ?_
  · skip
    refine W.region ?_
    refine WL.val (OpVal.opv rfl) rfl rfl rfl ?_
    refine WL.val (OpVal.opv rfl) rfl rfl rfl ?_
    refine WL.val (OpVal.opv rfl) rfl rfl rfl ?_
    refine WL.splitN rfl rfl (fun g53 => ?_) (fun g53 => ?_)
    · refine WL.pass rfl rfl rfl ?_
      refine WL.pass rfl rfl rfl ?_
      refine WL.val (OpVal.opv rfl) rfl rfl rfl ?_
      refine WL.val (OpVal.opv rfl) rfl rfl rfl ?_
      refine WL.pass rfl rfl rfl ?_
      refine WL.pass rfl rfl rfl ?_
      refine WL.pass rfl rfl rfl ?_
      refine WL.pass rfl rfl rfl ?_
      refine WL.pass rfl rfl rfl ?_
      refine WL.pass rfl rfl rfl ?_
      refine WL.val (OpVal.opv rfl) rfl rfl rfl ?_
      refine WL.val (OpVal.opv rfl) rfl rfl rfl ?_
      refine WL.pass rfl rfl rfl ?_
      refine WL.pass rfl rfl rfl ?_
      refine WL.pass rfl rfl rfl ?_
      refine WL.pass rfl rfl rfl ?_
      refine WL.pass rfl rfl rfl ?_
      refine WL.val (OpVal.opv rfl) rfl rfl rfl ?_
      refine WL.val (OpVal.opv rfl) rfl rfl rfl ?_
      refine WL.pass rfl rfl rfl ?_
      refine WL.pass rfl rfl rfl ?_
      refine WL.pass rfl rfl rfl ?_
      refine WL.pass rfl rfl rfl ?_
      refine WL.pass rfl rfl rfl ?_
      refine WL.val (OpVal.opv rfl) rfl rfl rfl ?_
      refine WL.nil ?_
      skip
      exact Keff.intro ⟨rfl, rfl, rfl, rfl, rfl, by first | rfl | (exfalso; rcases he2 with e | e <;> simp_all; done) | trace_state, trivial⟩ (by simp) (by repeat (first | exact List.Sublist.refl _ | refine List.Sublist.cons _ ?_ | refine List.Sublist.cons_cons _ ?_))
    · refine WL.val (OpVal.opv rfl) rfl rfl rfl ?_
      refine WL.val (OpVal.opv rfl) rfl rfl rfl ?_
      refine WL.val (OpVal.opv rfl) rfl rfl rfl ?_
      refine WL.val (OpVal.opv rfl) rfl rfl rfl ?_
      refine WL.splitN rfl rfl (fun g57 => ?_) (fun g57 => ?_)
      · refine WL.pass rfl rfl rfl ?_
        refine WL.pass rfl rfl rfl ?_
        refine WL.pass rfl rfl rfl ?_
        refine WL.pass rfl rfl rfl ?_
        refine WL.pass rfl rfl rfl ?_
        refine WL.pass rfl rfl rfl ?_
        refine WL.val (OpVal.opv rfl) rfl rfl rfl ?_
        refine WL.val (OpVal.opv rfl) rfl rfl rfl ?_
        refine WL.pass rfl rfl rfl ?_
        refine WL.pass rfl rfl rfl ?_
        refine WL.pass rfl rfl rfl ?_
        refine WL.pass rfl rfl rfl ?_
        refine WL.pass rfl rfl rfl ?_
        refine WL.val (OpVal.opv rfl) rfl rfl rfl ?_
        refine WL.val (OpVal.opv rfl) rfl rfl rfl ?_
        refine WL.pass rfl rfl rfl ?_
        refine WL.pass rfl rfl rfl ?_
        refine WL.pass rfl rfl rfl ?_
        refine WL.pass rfl rfl rfl ?_
        refine WL.pass rfl rfl rfl ?_
        refine WL.val (OpVal.opv rfl) rfl rfl rfl ?_
        refine WL.nil ?_
        skip
        exact Keff.intro ⟨rfl, rfl, rfl, rfl, rfl, by first | rfl | (exfalso; rcases he2 with e | e <;> simp_all; done) | trace_state, trivial⟩ (by simp) (by repeat (first | exact List.Sublist.refl _ | refine List.Sublist.cons _ ?_ | refine List.Sublist.cons_cons _ ?_))
      · refine WL.val (OpVal.opv rfl) rfl rfl rfl ?_
        refine WL.val (OpVal.opv rfl) rfl rfl rfl ?_
        refine WL.val (OpVal.opv rfl) rfl rfl rfl ?_
        refine WL.splitN rfl rfl (fun g60 => ?_) (fun g60 => ?_)
        · refine WL.val (OpVal.opv rfl) rfl rfl rfl ?_
          refine WL.val (OpVal.opv rfl) rfl rfl rfl ?_
          refine WL.val (OpVal.opv rfl) rfl rfl rfl ?_
          refine WL.val (OpVal.opv rfl) rfl rfl rfl ?_
          refine WL.val (OpVal.opv rfl) rfl rfl rfl ?_
          refine WL.splitN rfl rfl (fun g65 => ?_) (fun g65 => ?_)
          · refine WL.pass rfl rfl rfl ?_
            refine WL.pass rfl rfl rfl ?_
            refine WL.pass rfl rfl rfl ?_
            refine WL.pass rfl rfl rfl ?_
            refine WL.pass rfl rfl rfl ?_
            refine WL.val (OpVal.opv rfl) rfl rfl rfl ?_
            refine WL.val (OpVal.opv rfl) rfl rfl rfl ?_
            refine WL.pass rfl rfl rfl ?_
            refine WL.pass rfl rfl rfl ?_
            refine WL.pass rfl rfl rfl ?_
            refine WL.pass rfl rfl rfl ?_
            refine WL.pass rfl rfl rfl ?_
            refine WL.val (OpVal.opv rfl) rfl rfl rfl ?_
            refine WL.nil ?_
            skip
            exact Keff.intro ⟨rfl, rfl, rfl, rfl, rfl, by first | rfl | (exfalso; rcases he2 with e | e <;> simp_all; done) | trace_state, trivial⟩ (by simp) (by repeat (first | exact List.Sublist.refl _ | refine List.Sublist.cons _ ?_ | refine List.Sublist.cons_cons _ ?_))
          · refine WL.val (OpVal.opv rfl) rfl rfl rfl ?_
            refine WL.val (OpVal.len rfl h8) rfl rfl rfl ?_
            refine WL.val (OpVal.opv rfl) rfl rfl rfl ?_
            refine WL.val (OpVal.len rfl hl) rfl rfl rfl ?_
            refine WL.val (OpVal.cast (OpVal.opv rfl) (congrArg Value.bool (show _ = false from by rw [hm1]; simp))) rfl rfl rfl ?_
            refine WL.val (OpVal.opv rfl) rfl rfl rfl ?_
            refine WL.val (OpVal.opv rfl) rfl rfl rfl ?_
            refine WL.splitB rfl rfl (fun g72 => ?_) (fun g72 => ?_)
            · refine WL.pass rfl rfl rfl ?_
              refine WL.pass rfl rfl rfl ?_
              refine WL.pass rfl rfl rfl ?_
              refine WL.pass rfl rfl rfl ?_
              refine WL.pass rfl rfl rfl ?_
              refine WL.val (OpVal.opv rfl) rfl rfl rfl ?_
              refine WL.nil ?_
              skip
              exact Keff.intro ⟨rfl, rfl, rfl, rfl, rfl, by first | rfl | (exfalso; rcases he2 with e | e <;> simp_all; done) | trace_state, trivial⟩ (by simp) (by repeat (first | exact List.Sublist.refl _ | refine List.Sublist.cons _ ?_ | refine List.Sublist.cons_cons _ ?_))
            · refine WL.val (OpVal.opv rfl) rfl rfl rfl ?_
              refine WL.val (OpVal.len rfl hcv) rfl rfl rfl ?_
              refine WL.val (OpVal.opv rfl) rfl rfl rfl ?_
              refine WL.val (OpVal.len rfl hl) rfl rfl rfl ?_
              refine WL.val (OpVal.cast (OpVal.opv rfl) (congrArg Value.bool (show _ = false from by rw [hcl]; simp))) rfl rfl rfl ?_
              refine WL.val (OpVal.opv rfl) rfl rfl rfl ?_
              refine WL.nil ?_
              skip
              exact Keff.intro ⟨rfl, rfl, rfl, rfl, rfl, by first | rfl | (exfalso; rcases he2 with e | e <;> simp_all; done) | trace_state, trivial⟩ (by simp) (by repeat (first | exact List.Sublist.refl _ | refine List.Sublist.cons _ ?_ | refine List.Sublist.cons_cons _ ?_))
        · refine WL.pass rfl rfl rfl ?_
          refine WL.pass rfl rfl rfl ?_
          refine WL.val (OpVal.opv rfl) rfl rfl rfl ?_
          refine WL.val (OpVal.opv rfl) rfl rfl rfl ?_
          refine WL.val (OpVal.opv rfl) rfl rfl rfl ?_
          refine WL.val (OpVal.opv rfl) rfl rfl rfl ?_
          refine WL.val (OpVal.len rfl h8) rfl rfl rfl ?_
          refine WL.val (OpVal.opv rfl) rfl rfl rfl ?_
          refine WL.val (OpVal.len rfl hl) rfl rfl rfl ?_
          refine WL.val (OpVal.cast (OpVal.opv rfl) (congrArg Value.bool (show _ = false from by rw [hm1]; simp))) rfl rfl rfl ?_
          refine WL.val (OpVal.opv rfl) rfl rfl rfl ?_
          refine WL.val (OpVal.opv rfl) rfl rfl rfl ?_
          refine WL.splitB rfl rfl (fun g72 => ?_) (fun g72 => ?_)
          · refine WL.pass rfl rfl rfl ?_
            refine WL.pass rfl rfl rfl ?_
            refine WL.pass rfl rfl rfl ?_
            refine WL.pass rfl rfl rfl ?_
            refine WL.pass rfl rfl rfl ?_
            refine WL.val (OpVal.opv rfl) rfl rfl rfl ?_
            refine WL.nil ?_
            skip
            exact Keff.intro ⟨rfl, rfl, rfl, rfl, rfl, by first | rfl | (exfalso; rcases he2 with e | e <;> simp_all; done) | trace_state, trivial⟩ (by simp) (by repeat (first | exact List.Sublist.refl _ | refine List.Sublist.cons _ ?_ | refine List.Sublist.cons_cons _ ?_))
          · refine WL.val (OpVal.opv rfl) rfl rfl rfl ?_
            refine WL.val (OpVal.len rfl hcv) rfl rfl rfl ?_
            refine WL.val (OpVal.opv rfl) rfl rfl rfl ?_
            refine WL.val (OpVal.len rfl hl) rfl rfl rfl ?_
            refine WL.val (OpVal.cast (OpVal.opv rfl) (congrArg Value.bool (show _ = false from by rw [hcl]; simp))) rfl rfl rfl ?_
            refine WL.val (OpVal.opv rfl) rfl rfl rfl ?_
            refine WL.nil ?_
            skip
            exact Keff.intro ⟨rfl, rfl, rfl, rfl, rfl, by first | rfl | (exfalso; rcases he2 with e | e <;> simp_all; done) | trace_state, trivial⟩ (by simp) (by repeat (first | exact List.Sublist.refl _ | refine List.Sublist.cons _ ?_ | refine List.Sublist.cons_cons _ ?_))
  refine Kseq.go ?_
  refine W.cond rfl rfl (fun he => absurd he (by simp)) (fun _ => ?_)
  refine W.skip (Kseq.go (W.seq (W.seq ?_)))
  skip
  refine W.region ?_
  refine WL.val (OpVal.opv rfl) rfl rfl rfl ?_
  refine WL.nil ?_
  refine Kseq.go (W.block ?_)
  refine W.loopC (σ := Nat) (fun k => [(3, .pointer (some ⟨b3, 0, none⟩)), (7, v22), (8, v8), (10, cv), (13, vi (lateV r l).2), (14, .int .i64 (k : Int))]) (fun k => k ≤ l.length) (fun k => l.length - k) 0 ⟨rfl, rfl, rfl, rfl, rfl, rfl, trivial⟩ (Nat.zero_le _) ?_
  intro k hk
  refine W.seq (W.seq ?_)
  refine W.region ?_
  refine WL.val (OpVal.opv rfl) rfl rfl rfl ?_
  refine WL.val (OpVal.opv rfl) rfl rfl rfl ?_
  refine WL.val (OpVal.len rfl h8) rfl rfl rfl ?_
  refine WL.val (OpVal.opv rfl) rfl rfl rfl ?_
  refine WL.nil ?_
  refine Kseq.go ?_
  refine W.condD rfl rfl (fun hlt => ?_) (fun hge => ?_)
  · have hkl : k < l.length := by omega
    have hwk := hw.lt k hkl
    have hhl := hV.homeLen
    have hge := minuteAt_le (x := r) (r := r) (w := l) (a := leastE r) (b := tr) rfl (Int.le_refl _) (fun _ => Int.le_refl _) (fun i => hT.ge i) (k + 1)
    have hle := minuteAt_le (x := r) (r := r) (w := l) (a := tr) (b := greatestE r) rfl (Int.le_refl _) (fun _ => Int.le_refl _) (fun i => hT.le i) (k + 1)
    have hho := minuteAt_home r tr l k
    have hst := minuteAt_step (r := r) (t := tr) (w := l) (hT.nonneg hV) k
    have h7 : (lateV r l).2 = 7 → minuteAt r (greatestE r) l (k + 1) ≤ (r.home.getD (l.getD k 0).toNat default).hi := fun e => of_decide_eq_true (he7 e k hkl)
    refine W.skip (Kseq.go (W.seq (W.block (W.seq ?_))))
    refine W.draw2g 9 8 15 (fun g : Nat => Value.pointer (some ⟨g, 0, none⟩)) (fun g => [.blk g #[vi 0, vi 0] 73]) (by kernel_rfl) (by kernel_rfl) (by kernel_rfl) rfl rfl ?_
    refine DJ2.val [] (.inr (OpVal.fieldAddrB rfl)) (.inr (fun g => OpVal.fieldAddrB rfl)) rfl (fun _ => rfl) rfl rfl rfl (fun _ => rfl) rfl ?_
    refine DJ2.val [] (.inr (OpVal.loadP rfl (by assumption) (by repeat (first | exact .head _ | refine .tail _ ?_)) rfl)) (.inr (fun g => OpVal.loadP rfl (by assumption) (by repeat (first | exact .head _ | refine .tail _ ?_)) rfl)) rfl (fun _ => rfl) rfl rfl rfl (fun _ => rfl) rfl ?_
    refine DJ2.val [] (.inr (OpVal.opv rfl)) (.inr (fun g => OpVal.opv rfl)) rfl (fun _ => rfl) rfl rfl rfl (fun _ => rfl) rfl ?_
    refine DJ2.val [] (.inr (OpVal.opv rfl)) (.inr (fun g => OpVal.opv rfl)) rfl (fun _ => rfl) rfl rfl rfl (fun _ => rfl) rfl ?_
    refine DJ2.val [] (.inr (OpVal.indexAddrN rfl rfl hl (by omega))) (.inr (fun g => OpVal.indexAddrN rfl rfl hl (by omega))) rfl (fun _ => rfl) rfl rfl rfl (fun _ => rfl) rfl ?_
    refine DJ2.val [] (.inr (OpVal.loadE rfl hl (by repeat (first | exact .head _ | refine .tail _ ?_)) (by omega) (by omega))) (.inr (fun g => OpVal.loadE rfl hl (by repeat (first | exact .head _ | refine .tail _ ?_)) (by omega) (by omega))) rfl (fun _ => rfl) rfl rfl rfl (fun _ => rfl) rfl ?_
    refine DJ2.val [] (.inr (OpVal.indexAddr rfl rfl hH (by omega) (by omega))) (.inr (fun g => OpVal.indexAddr rfl rfl hH (by omega) (by omega))) rfl (fun _ => rfl) rfl rfl rfl (fun _ => rfl) rfl ?_
    refine DJ2.val [] (.inr (OpVal.loadEA rfl hH (by repeat (first | exact .head _ | refine .tail _ ?_)) (by omega))) (.inr (fun g => OpVal.loadEA rfl hH (by repeat (first | exact .head _ | refine .tail _ ?_)) (by omega))) rfl (fun _ => rfl) rfl rfl rfl (fun _ => rfl) rfl ?_
    refine DJ2.eff [] trivial rfl rfl rfl (fun M2 hM2 => ?_) ?_
    · (refine WL.alloc rfl rfl rfl (fun b3 => ?_); exact WL.nil ⟨b3, Keff.intro (by repeat (first | exact trivial | refine ⟨rfl, ?_⟩)) (fun m hm => hm) (.refl _)⟩)
    refine DJ2.nil (fun g => ?_)
    (refine WL.store [vi (r.home.getD (l.getD k 0).toNat default).lo, vi (r.home.getD (l.getD k 0).toNat default).hi] rfl (.head _) rfl rfl rfl (Nat.le_of_ble_eq_true rfl) (IsArr.ones hH (by omega)) rfl ?_)
    refine WL.nil ?_
    refine Kseq.go (W.seq ?_)
    generalize (r.home.getD (l.getD k 0).toNat default).lo = hlo at *
    generalize (r.home.getD (l.getD k 0).toNat default).hi = hhi at *
    skip
    refine W.toS [(3, .pointer (some ⟨b3, 0, none⟩)), (7, v22), (8, v8), (10, cv), (13, vi (lateV r l).2), (14, .int .i64 (k : Int)), (152, .bool false)] ?_ ?_
    · skip
      refine W.draw 57 (by kernel_rfl) (by kernel_rfl) (by kernel_rfl) rfl ?_
      refine DJ.val [] (OpVal.opv rfl) rfl rfl rfl rfl ?_
      refine DJ.val [] (OpVal.opv rfl) rfl rfl rfl rfl ?_
      refine DJ.val [] (OpVal.indexAddrN rfl rfl h8 (by omega)) rfl rfl rfl rfl ?_
      refine DJ.val [] (OpVal.cast (OpVal.loadE rfl h8 (by repeat (first | exact .head _ | refine .tail _ ?_)) (by omega) (by omega)) (congrArg (Value.int .i64) (minutes_get hkl))) rfl rfl rfl rfl ?_
      refine DJ.val [] (OpVal.opv rfl) rfl rfl rfl rfl ?_
      refine DJ.val [] (OpVal.opv rfl) rfl rfl rfl rfl ?_
      refine DJ.val [] (OpVal.indexAddrN rfl rfl hcv (by omega)) rfl rfl rfl rfl ?_
      refine DJ.val [] (OpVal.fieldAddrN rfl hcv (by omega)) rfl rfl rfl rfl ?_
      refine DJ.val [] (OpVal.cast (OpVal.loadE rfl hcv (by repeat (first | exact .head _ | refine .tail _ ?_)) (by omega) (by omega)) (show _ = vi (minuteAt r (leastE r) l (k + 1)) from by rw [comesTo_get hkl]; rfl)) rfl rfl rfl rfl ?_
      refine DJ.val [] (OpVal.cast (OpVal.opv rfl) (congrArg Value.bool (decide_eq_false (by omega)))) rfl rfl rfl rfl ?_
      refine DJ.val [] (OpVal.opv rfl) rfl rfl rfl rfl ?_
      refine DJ.splitB rfl rfl (fun g103 => ?_) (fun g103 => ?_)
      · refine DJ.pass rfl rfl rfl rfl ?_
        refine DJ.pass rfl rfl rfl rfl ?_
        refine DJ.pass rfl rfl rfl rfl ?_
        refine DJ.pass rfl rfl rfl rfl ?_
        refine DJ.pass rfl rfl rfl rfl ?_
        refine DJ.pass rfl rfl rfl rfl ?_
        refine DJ.pass rfl rfl rfl rfl ?_
        refine DJ.pass rfl rfl rfl rfl ?_
        refine DJ.pass rfl rfl rfl rfl ?_
        refine DJ.pass rfl rfl rfl rfl ?_
        refine DJ.val [] (OpVal.opv rfl) rfl rfl rfl rfl ?_
        refine DJ.val [] (OpVal.opv rfl) rfl rfl rfl rfl ?_
        refine DJ.pass rfl rfl rfl rfl ?_
        refine DJ.pass rfl rfl rfl rfl ?_
        refine DJ.pass rfl rfl rfl rfl ?_
        refine DJ.pass rfl rfl rfl rfl ?_
        refine DJ.pass rfl rfl rfl rfl ?_
        refine DJ.pass rfl rfl rfl rfl ?_
        refine DJ.pass rfl rfl rfl rfl ?_
        refine DJ.val [] (OpVal.opv rfl) rfl rfl rfl rfl ?_
        refine DJ.val [] (OpVal.opv rfl) rfl rfl rfl rfl ?_
        refine DJ.pass rfl rfl rfl rfl ?_
        refine DJ.pass rfl rfl rfl rfl ?_
        refine DJ.pass rfl rfl rfl rfl ?_
        refine DJ.pass rfl rfl rfl rfl ?_
        refine DJ.pass rfl rfl rfl rfl ?_
        refine DJ.pass rfl rfl rfl rfl ?_
        refine DJ.pass rfl rfl rfl rfl ?_
        refine DJ.pass rfl rfl rfl rfl ?_
        refine DJ.pass rfl rfl rfl rfl ?_
        refine DJ.pass rfl rfl rfl rfl ?_
        refine DJ.pass rfl rfl rfl rfl ?_
        refine DJ.val [] (OpVal.opv rfl) rfl rfl rfl rfl ?_
        refine DJ.val [] (OpVal.opv rfl) rfl rfl rfl rfl ?_
        refine DJ.pass rfl rfl rfl rfl ?_
        refine DJ.pass rfl rfl rfl rfl ?_
        refine DJ.pass rfl rfl rfl rfl ?_
        refine DJ.pass rfl rfl rfl rfl ?_
        refine DJ.pass rfl rfl rfl rfl ?_
        refine DJ.pass rfl rfl rfl rfl ?_
        refine DJ.pass rfl rfl rfl rfl ?_
        refine DJ.pass rfl rfl rfl rfl ?_
        refine DJ.pass rfl rfl rfl rfl ?_
        refine DJ.pass rfl rfl rfl rfl ?_
        refine DJ.pass rfl rfl rfl rfl ?_
        refine DJ.pass rfl rfl rfl rfl ?_
        refine DJ.nil ?_
        refine WL.pass rfl rfl rfl ?_
        refine WL.pass rfl rfl rfl ?_
        refine WL.val (OpVal.opv rfl) rfl rfl rfl ?_
        refine WL.nil ?_
        skip
        first | exact Keff.intro ⟨rfl, rfl, rfl, rfl, rfl, rfl, rfl, trivial⟩ (by simp) (by repeat (first | exact List.Sublist.refl _ | refine List.Sublist.cons _ ?_ | refine List.Sublist.cons_cons _ ?_)) | exact Bool.noConfusion (show false = true from by assumption)
      · refine DJ.val [] (OpVal.opv rfl) rfl rfl rfl rfl ?_
        refine DJ.val [] (OpVal.opv rfl) rfl rfl rfl rfl ?_
        refine DJ.val [] (OpVal.indexAddrN rfl rfl h8 (by omega)) rfl rfl rfl rfl ?_
        refine DJ.val [] (OpVal.cast (OpVal.loadE rfl h8 (by repeat (first | exact .head _ | refine .tail _ ?_)) (by omega) (by omega)) (congrArg (Value.int .i64) (minutes_get hkl))) rfl rfl rfl rfl ?_
        refine DJ.val [] (OpVal.opv rfl) rfl rfl rfl rfl ?_
        refine DJ.val [] (OpVal.opv rfl) rfl rfl rfl rfl ?_
        refine DJ.val [] (OpVal.indexAddrN rfl rfl hcv (by omega)) rfl rfl rfl rfl ?_
        refine DJ.val [] (OpVal.fieldAddrN rfl hcv (by omega)) rfl rfl rfl rfl ?_
        refine DJ.val [] (OpVal.cast (OpVal.loadE rfl hcv (by repeat (first | exact .head _ | refine .tail _ ?_)) (by omega) (by omega)) (show _ = vi (minuteAt r (greatestE r) l (k + 1)) from by rw [comesTo_get hkl]; rfl)) rfl rfl rfl rfl ?_
        refine DJ.val [] (OpVal.cast (OpVal.opv rfl) (congrArg Value.bool (decide_eq_false (by omega)))) rfl rfl rfl rfl ?_
        refine DJ.val [] (OpVal.opv rfl) rfl rfl rfl rfl ?_
        refine DJ.val [] (OpVal.opv rfl) rfl rfl rfl rfl ?_
        refine DJ.splitB rfl rfl (fun g115 => ?_) (fun g115 => ?_)
        · refine DJ.pass rfl rfl rfl rfl ?_
          refine DJ.pass rfl rfl rfl rfl ?_
          refine DJ.pass rfl rfl rfl rfl ?_
          refine DJ.pass rfl rfl rfl rfl ?_
          refine DJ.pass rfl rfl rfl rfl ?_
          refine DJ.pass rfl rfl rfl rfl ?_
          refine DJ.pass rfl rfl rfl rfl ?_
          refine DJ.val [] (OpVal.opv rfl) rfl rfl rfl rfl ?_
          refine DJ.val [] (OpVal.opv rfl) rfl rfl rfl rfl ?_
          refine DJ.pass rfl rfl rfl rfl ?_
          refine DJ.pass rfl rfl rfl rfl ?_
          refine DJ.pass rfl rfl rfl rfl ?_
          refine DJ.pass rfl rfl rfl rfl ?_
          refine DJ.pass rfl rfl rfl rfl ?_
          refine DJ.pass rfl rfl rfl rfl ?_
          refine DJ.pass rfl rfl rfl rfl ?_
          refine DJ.pass rfl rfl rfl rfl ?_
          refine DJ.pass rfl rfl rfl rfl ?_
          refine DJ.pass rfl rfl rfl rfl ?_
          refine DJ.pass rfl rfl rfl rfl ?_
          refine DJ.val [] (OpVal.opv rfl) rfl rfl rfl rfl ?_
          refine DJ.val [] (OpVal.opv rfl) rfl rfl rfl rfl ?_
          refine DJ.pass rfl rfl rfl rfl ?_
          refine DJ.pass rfl rfl rfl rfl ?_
          refine DJ.pass rfl rfl rfl rfl ?_
          refine DJ.pass rfl rfl rfl rfl ?_
          refine DJ.pass rfl rfl rfl rfl ?_
          refine DJ.pass rfl rfl rfl rfl ?_
          refine DJ.pass rfl rfl rfl rfl ?_
          refine DJ.pass rfl rfl rfl rfl ?_
          refine DJ.pass rfl rfl rfl rfl ?_
          refine DJ.pass rfl rfl rfl rfl ?_
          refine DJ.pass rfl rfl rfl rfl ?_
          refine DJ.pass rfl rfl rfl rfl ?_
          refine DJ.nil ?_
          refine WL.pass rfl rfl rfl ?_
          refine WL.pass rfl rfl rfl ?_
          refine WL.val (OpVal.opv rfl) rfl rfl rfl ?_
          refine WL.nil ?_
          skip
          first | exact Keff.intro ⟨rfl, rfl, rfl, rfl, rfl, rfl, rfl, trivial⟩ (by simp) (by repeat (first | exact List.Sublist.refl _ | refine List.Sublist.cons _ ?_ | refine List.Sublist.cons_cons _ ?_)) | exact Bool.noConfusion (show false = true from by assumption)
        · refine DJ.val [] (OpVal.opv rfl) rfl rfl rfl rfl ?_
          refine DJ.val [] (OpVal.opv rfl) rfl rfl rfl rfl ?_
          refine DJ.val [] (OpVal.indexAddrN rfl rfl h8 (by omega)) rfl rfl rfl rfl ?_
          refine DJ.val [] (OpVal.cast (OpVal.loadE rfl h8 (by repeat (first | exact .head _ | refine .tail _ ?_)) (by omega) (by omega)) (congrArg (Value.int .i64) (minutes_get hkl))) rfl rfl rfl rfl ?_
          refine DJ.val [] (OpVal.fieldAddrB rfl) rfl rfl rfl rfl ?_
          refine DJ.val [] (OpVal.loadB rfl (.head _) rfl) rfl rfl rfl rfl ?_
          refine DJ.val [] (OpVal.cast (OpVal.opv rfl) (congrArg Value.bool (decide_eq_false (by omega)))) rfl rfl rfl rfl ?_
          refine DJ.val [] (OpVal.opv rfl) rfl rfl rfl rfl ?_
          refine DJ.val [] (OpVal.opv rfl) rfl rfl rfl rfl ?_
          refine DJ.splitB rfl rfl (fun g124 => ?_) (fun g124 => ?_)
          · refine DJ.pass rfl rfl rfl rfl ?_
            refine DJ.pass rfl rfl rfl rfl ?_
            refine DJ.pass rfl rfl rfl rfl ?_
            refine DJ.pass rfl rfl rfl rfl ?_
            refine DJ.pass rfl rfl rfl rfl ?_
            refine DJ.pass rfl rfl rfl rfl ?_
            refine DJ.pass rfl rfl rfl rfl ?_
            refine DJ.pass rfl rfl rfl rfl ?_
            refine DJ.pass rfl rfl rfl rfl ?_
            refine DJ.pass rfl rfl rfl rfl ?_
            refine DJ.pass rfl rfl rfl rfl ?_
            refine DJ.val [] (OpVal.opv rfl) rfl rfl rfl rfl ?_
            refine DJ.val [] (OpVal.opv rfl) rfl rfl rfl rfl ?_
            refine DJ.pass rfl rfl rfl rfl ?_
            refine DJ.pass rfl rfl rfl rfl ?_
            refine DJ.pass rfl rfl rfl rfl ?_
            refine DJ.pass rfl rfl rfl rfl ?_
            refine DJ.pass rfl rfl rfl rfl ?_
            refine DJ.pass rfl rfl rfl rfl ?_
            refine DJ.pass rfl rfl rfl rfl ?_
            refine DJ.pass rfl rfl rfl rfl ?_
            refine DJ.pass rfl rfl rfl rfl ?_
            refine DJ.pass rfl rfl rfl rfl ?_
            refine DJ.pass rfl rfl rfl rfl ?_
            refine DJ.pass rfl rfl rfl rfl ?_
            refine DJ.nil ?_
            refine WL.pass rfl rfl rfl ?_
            refine WL.pass rfl rfl rfl ?_
            refine WL.val (OpVal.opv rfl) rfl rfl rfl ?_
            refine WL.nil ?_
            skip
            first | exact Keff.intro ⟨rfl, rfl, rfl, rfl, rfl, rfl, rfl, trivial⟩ (by simp) (by repeat (first | exact List.Sublist.refl _ | refine List.Sublist.cons _ ?_ | refine List.Sublist.cons_cons _ ?_)) | exact Bool.noConfusion (show false = true from by assumption)
          · refine DJ.val [] (OpVal.opv rfl) rfl rfl rfl rfl ?_
            refine DJ.val [] (OpVal.opv rfl) rfl rfl rfl rfl ?_
            refine DJ.val [] (OpVal.opv rfl) rfl rfl rfl rfl ?_
            refine DJ.split rfl rfl (fun g127 => ?_) (fun g127 => ?_)
            · refine DJ.val [] (OpVal.opv rfl) rfl rfl rfl rfl ?_
              refine DJ.val [] (OpVal.opv rfl) rfl rfl rfl rfl ?_
              refine DJ.val [] (OpVal.indexAddrN rfl rfl h8 (by omega)) rfl rfl rfl rfl ?_
              refine DJ.val [] (OpVal.cast (OpVal.loadE rfl h8 (by repeat (first | exact .head _ | refine .tail _ ?_)) (by omega) (by omega)) (congrArg (Value.int .i64) (minutes_get hkl))) rfl rfl rfl rfl ?_
              refine DJ.val [] (OpVal.fieldAddrB rfl) rfl rfl rfl rfl ?_
              refine DJ.val [] (OpVal.loadB rfl (.head _) rfl) rfl rfl rfl rfl ?_
              refine DJ.val [] (OpVal.cast (OpVal.opv rfl) (congrArg Value.bool (decide_eq_false (by have := h7 (by assumption); omega)))) rfl rfl rfl rfl ?_
              refine DJ.val [] (OpVal.opv rfl) rfl rfl rfl rfl ?_
              refine DJ.val [] (OpVal.opv rfl) rfl rfl rfl rfl ?_
              refine DJ.val [] (OpVal.opv rfl) rfl rfl rfl rfl ?_
              refine DJ.splitB rfl rfl (fun g137 => ?_) (fun g137 => ?_)
              · refine DJ.pass rfl rfl rfl rfl ?_
                refine DJ.pass rfl rfl rfl rfl ?_
                refine DJ.pass rfl rfl rfl rfl ?_
                refine DJ.pass rfl rfl rfl rfl ?_
                refine DJ.pass rfl rfl rfl rfl ?_
                refine DJ.pass rfl rfl rfl rfl ?_
                refine DJ.pass rfl rfl rfl rfl ?_
                refine DJ.pass rfl rfl rfl rfl ?_
                refine DJ.pass rfl rfl rfl rfl ?_
                refine DJ.pass rfl rfl rfl rfl ?_
                refine DJ.pass rfl rfl rfl rfl ?_
                refine DJ.pass rfl rfl rfl rfl ?_
                refine DJ.nil ?_
                refine WL.pass rfl rfl rfl ?_
                refine WL.pass rfl rfl rfl ?_
                refine WL.val (OpVal.opv rfl) rfl rfl rfl ?_
                refine WL.nil ?_
                skip
                first | exact Keff.intro ⟨rfl, rfl, rfl, rfl, rfl, rfl, rfl, trivial⟩ (by simp) (by repeat (first | exact List.Sublist.refl _ | refine List.Sublist.cons _ ?_ | refine List.Sublist.cons_cons _ ?_)) | exact Bool.noConfusion (show false = true from by assumption)
              · refine DJ.val [] (OpVal.opv rfl) rfl rfl rfl rfl ?_
                refine DJ.val [] (OpVal.opv rfl) rfl rfl rfl rfl ?_
                refine DJ.val [] (OpVal.opv rfl) rfl rfl rfl rfl ?_
                refine DJ.split rfl rfl (fun g140 => ?_) (fun g140 => ?_)
                · refine DJ.val [] (OpVal.opv rfl) rfl rfl rfl rfl ?_
                  refine DJ.val [] (OpVal.opv rfl) rfl rfl rfl rfl ?_
                  refine DJ.val [] (OpVal.indexAddrN rfl rfl h8 (by omega)) rfl rfl rfl rfl ?_
                  refine DJ.val [] (OpVal.cast (OpVal.loadE rfl h8 (by repeat (first | exact .head _ | refine .tail _ ?_)) (by omega) (by omega)) (congrArg (Value.int .i64) (minutes_get hkl))) rfl rfl rfl rfl ?_
                  refine DJ.val [] (OpVal.opv rfl) rfl rfl rfl rfl ?_
                  refine DJ.val [] (OpVal.opv rfl) rfl rfl rfl rfl ?_
                  refine DJ.val [] (OpVal.cast (OpVal.sub rfl rfl (by omega) (by omega)) (show _ = vi ((k - 1 : Nat) : Int) from congrArg (Value.int .i64) (by omega))) rfl rfl rfl rfl ?_
                  refine DJ.val [] (OpVal.indexAddrN rfl rfl h8 (by omega)) rfl rfl rfl rfl ?_
                  refine DJ.val [] (OpVal.cast (OpVal.loadE rfl h8 (by repeat (first | exact .head _ | refine .tail _ ?_)) (by omega) (by omega)) (congrArg (Value.int .i64) ((minutes_get (show k - 1 < l.length by omega)).trans (by rw [show k - 1 + 1 = k by omega])))) rfl rfl rfl rfl ?_
                  refine DJ.nil ?_
                  refine WL.val (OpVal.cast (OpVal.opv rfl) (congrArg Value.bool (decide_eq_false (by omega)))) rfl rfl rfl ?_
                  refine WL.val (OpVal.opv rfl) rfl rfl rfl ?_
                  refine WL.val (OpVal.opv rfl) rfl rfl rfl ?_
                  refine WL.nil ?_
                  skip
                  first | exact Keff.intro ⟨rfl, rfl, rfl, rfl, rfl, rfl, rfl, trivial⟩ (by simp) (by repeat (first | exact List.Sublist.refl _ | refine List.Sublist.cons _ ?_ | refine List.Sublist.cons_cons _ ?_)) | exact Bool.noConfusion (show false = true from by assumption)
                · refine DJ.pass rfl rfl rfl rfl ?_
                  refine DJ.pass rfl rfl rfl rfl ?_
                  refine DJ.pass rfl rfl rfl rfl ?_
                  refine DJ.pass rfl rfl rfl rfl ?_
                  refine DJ.pass rfl rfl rfl rfl ?_
                  refine DJ.pass rfl rfl rfl rfl ?_
                  refine DJ.pass rfl rfl rfl rfl ?_
                  refine DJ.pass rfl rfl rfl rfl ?_
                  refine DJ.pass rfl rfl rfl rfl ?_
                  refine DJ.nil ?_
                  refine WL.pass rfl rfl rfl ?_
                  refine WL.val (OpVal.opv rfl) rfl rfl rfl ?_
                  refine WL.val (OpVal.opv rfl) rfl rfl rfl ?_
                  refine WL.nil ?_
                  skip
                  first | exact Keff.intro ⟨rfl, rfl, rfl, rfl, rfl, rfl, rfl, trivial⟩ (by simp) (by repeat (first | exact List.Sublist.refl _ | refine List.Sublist.cons _ ?_ | refine List.Sublist.cons_cons _ ?_)) | exact Bool.noConfusion (show false = true from by assumption)
            · refine DJ.pass rfl rfl rfl rfl ?_
              refine DJ.pass rfl rfl rfl rfl ?_
              refine DJ.pass rfl rfl rfl rfl ?_
              refine DJ.pass rfl rfl rfl rfl ?_
              refine DJ.pass rfl rfl rfl rfl ?_
              refine DJ.pass rfl rfl rfl rfl ?_
              refine DJ.pass rfl rfl rfl rfl ?_
              refine DJ.val [] (OpVal.opv rfl) rfl rfl rfl rfl ?_
              refine DJ.val [] (OpVal.opv rfl) rfl rfl rfl rfl ?_
              refine DJ.val [] (OpVal.opv rfl) rfl rfl rfl rfl ?_
              refine DJ.val [] (OpVal.opv rfl) rfl rfl rfl rfl ?_
              refine DJ.val [] (OpVal.opv rfl) rfl rfl rfl rfl ?_
              refine DJ.val [] (OpVal.opv rfl) rfl rfl rfl rfl ?_
              refine DJ.split rfl rfl (fun g140 => ?_) (fun g140 => ?_)
              · refine DJ.val [] (OpVal.opv rfl) rfl rfl rfl rfl ?_
                refine DJ.val [] (OpVal.opv rfl) rfl rfl rfl rfl ?_
                refine DJ.val [] (OpVal.indexAddrN rfl rfl h8 (by omega)) rfl rfl rfl rfl ?_
                refine DJ.val [] (OpVal.cast (OpVal.loadE rfl h8 (by repeat (first | exact .head _ | refine .tail _ ?_)) (by omega) (by omega)) (congrArg (Value.int .i64) (minutes_get hkl))) rfl rfl rfl rfl ?_
                refine DJ.val [] (OpVal.opv rfl) rfl rfl rfl rfl ?_
                refine DJ.val [] (OpVal.opv rfl) rfl rfl rfl rfl ?_
                refine DJ.val [] (OpVal.cast (OpVal.sub rfl rfl (by omega) (by omega)) (show _ = vi ((k - 1 : Nat) : Int) from congrArg (Value.int .i64) (by omega))) rfl rfl rfl rfl ?_
                refine DJ.val [] (OpVal.indexAddrN rfl rfl h8 (by omega)) rfl rfl rfl rfl ?_
                refine DJ.val [] (OpVal.cast (OpVal.loadE rfl h8 (by repeat (first | exact .head _ | refine .tail _ ?_)) (by omega) (by omega)) (congrArg (Value.int .i64) ((minutes_get (show k - 1 < l.length by omega)).trans (by rw [show k - 1 + 1 = k by omega])))) rfl rfl rfl rfl ?_
                refine DJ.nil ?_
                refine WL.val (OpVal.cast (OpVal.opv rfl) (congrArg Value.bool (decide_eq_false (by omega)))) rfl rfl rfl ?_
                refine WL.val (OpVal.opv rfl) rfl rfl rfl ?_
                refine WL.val (OpVal.opv rfl) rfl rfl rfl ?_
                refine WL.nil ?_
                skip
                first | exact Keff.intro ⟨rfl, rfl, rfl, rfl, rfl, rfl, rfl, trivial⟩ (by simp) (by repeat (first | exact List.Sublist.refl _ | refine List.Sublist.cons _ ?_ | refine List.Sublist.cons_cons _ ?_)) | exact Bool.noConfusion (show false = true from by assumption)
              · refine DJ.pass rfl rfl rfl rfl ?_
                refine DJ.pass rfl rfl rfl rfl ?_
                refine DJ.pass rfl rfl rfl rfl ?_
                refine DJ.pass rfl rfl rfl rfl ?_
                refine DJ.pass rfl rfl rfl rfl ?_
                refine DJ.pass rfl rfl rfl rfl ?_
                refine DJ.pass rfl rfl rfl rfl ?_
                refine DJ.pass rfl rfl rfl rfl ?_
                refine DJ.pass rfl rfl rfl rfl ?_
                refine DJ.nil ?_
                refine WL.pass rfl rfl rfl ?_
                refine WL.val (OpVal.opv rfl) rfl rfl rfl ?_
                refine WL.val (OpVal.opv rfl) rfl rfl rfl ?_
                refine WL.nil ?_
                skip
                first | exact Keff.intro ⟨rfl, rfl, rfl, rfl, rfl, rfl, rfl, trivial⟩ (by simp) (by repeat (first | exact List.Sublist.refl _ | refine List.Sublist.cons _ ?_ | refine List.Sublist.cons_cons _ ?_)) | exact Bool.noConfusion (show false = true from by assumption)
    refine Kseq.go ?_
    refine W.cond rfl rfl (fun he => absurd he (by simp)) (fun _ => ?_)
    refine W.skip (Kblock.normal (Kseq.go ?_))
    refine W.region ?_
    refine WL.val (OpVal.opv rfl) rfl rfl rfl ?_
    refine WL.val (OpVal.incr rfl (by omega)) rfl rfl rfl ?_
    refine WL.val (OpVal.opv rfl) rfl rfl rfl ?_
    refine WL.nil ?_
    skip
    exact Kloop.nextC (k + 1) (by omega) (by omega) ⟨rfl, rfl, rfl, rfl, rfl, rfl, trivial⟩ (by simp) (by repeat (first | exact List.Sublist.refl _ | refine List.Sublist.cons _ ?_ | refine List.Sublist.cons_cons _ ?_))
  refine W.exit (Kseq.exit (Kloop.exit (Kblock.here (Kseq.go (W.seq ?_)))))
  skip
  refine W.region ?_
  refine WL.val (OpVal.call rfl (fun m hm => awake11_any)) rfl rfl rfl ?_
  refine WL.val (OpVal.opv rfl) rfl rfl rfl ?_
  refine WL.nil ?_
  refine Kseq.go ?_
  refine W.ret ?_; skip; refine ⟨.inl rfl, [_], h, ⟨.tmp rfl, trivial⟩, (by repeat (first | exact .head _ | refine .tail _ ?_)), ?_⟩
  rfl
end Go.Proofs.YtjligncpaeeljaaGreat
