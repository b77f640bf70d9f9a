/- The reference's functions of chapter 6: Verdict, Carry, Harmed; the statement SickCarries. -/
import Derived.Test.YtdnbkjgbehakpaaGreatT147
namespace Go.Proofs.YtdnbkjgbehakpaaGreat
open Go Go.Eng Go.RowKit

/-- Verdict -/
theorem verdictR_any {h : Mem} (a b : Int) : FnV Tryz.prog 94 #[vi a, vi b] h (vi (if a = b then 1 else if a = 0 then 2 else 3)) := by
  refine FnR.val ?_
  refine FnR.of_W (n := 10) Tryz.func94 rfl rfl (Nat.le_of_ble_eq_true rfl) fun c hr hD hF => ?_
  refine W.seq ?_; refine W.region ?_; refine .o rfl rfl rfl rfl ?_; refine WL.nil ?_
  refine Kseq.go (W.seq (W.seq ?_))
  refine W.region ?_
  iterate 3 refine .o rfl rfl rfl rfl ?_
  refine WL.nil ?_; refine Kseq.go ?_
  refine W.cond rfl rfl (fun he => ?_) (fun hne => ?_)
  · have e : a = b := by simpa using he
    refine W.seq ?_; refine W.region ?_; refine .o rfl rfl rfl rfl ?_; refine WL.nil ?_; refine Kseq.go ?_
    refine W.ret ?_; refine Kseq.ret ?_; refine ⟨.inl rfl, [_], h, ⟨.tmp rfl, trivial⟩, (by repeat constructor), ?_⟩
    rw [if_pos e]; rfl
  have e : a ≠ b := by simpa using hne
  refine W.skip (Kseq.go (W.seq (W.seq ?_)))
  refine W.region ?_
  iterate 2 refine .o rfl rfl rfl rfl ?_
  refine WL.nil ?_; refine Kseq.go ?_
  refine W.cond rfl rfl (fun he2 => ?_) (fun hne2 => ?_)
  · have e2 : a = 0 := by simpa using he2
    refine W.seq ?_; refine W.region ?_; refine .o rfl rfl rfl rfl ?_; refine WL.nil ?_; refine Kseq.go ?_
    refine W.ret ?_; refine Kseq.ret ?_; refine ⟨.inl rfl, [_], h, ⟨.tmp rfl, trivial⟩, (by repeat constructor), ?_⟩
    rw [if_neg e, if_pos e2]; rfl
  have e2 : a ≠ 0 := by simpa using hne2
  refine W.skip (Kseq.go (W.seq ?_))
  refine W.region ?_; refine .o rfl rfl rfl rfl ?_; refine WL.nil ?_; refine Kseq.go ?_
  refine W.ret ?_; refine ⟨.inl rfl, [_], h, ⟨.tmp rfl, trivial⟩, (by repeat constructor), ?_⟩
  rw [if_neg e, if_neg e2]; rfl
/-- Carry, of all truths -/
theorem carryR_any {h : Mem} {v lv : Value} {r : House} {i : Nat} (hv : IsHouse h v r) (hV : ValidH r) (hl : IsCourses h lv (truths6 r)) (hne : ask6 r ≠ []) (hi : i < r.th) : FnV Tryz.prog 32 #[v, lv, vi (i : Int)] h (vi ((carry6 r).getD i 0)) := by
  have hv' := hv
  obtain ⟨wv, pv, kv, tv, bv, sv, f, rfl, hA⟩ := hv
  have hbd := truths6_len hV
  obtain ⟨vs, hvs, hvA⟩ := hl
  have hne2 : truths6 r ≠ [] := fun e => hne ((truths_nil hV).1 e)
  have hth := hV.th
  have hp10 : 2 ^ r.th ≤ 2 ^ 10 := Nat.pow_le_pow_right (by omega) (by omega)
  have hpi : 2 ^ i ≤ 2 ^ 10 := Nat.pow_le_pow_right (by omega) (by omega)
  have hpo : 0 < 2 ^ i := Nat.pow_pos (by omega)
  rw [carry6_get hi, ← verdict_congr (fun c => hV.truths) hne2]
  refine FnR.val ?_
  refine FnR.of_W (n := 32) Tryz.func32 rfl rfl (Nat.le_of_ble_eq_true rfl) fun c hr hD hF => ?_
  refine W.seq ?_; refine W.region ?_
  refine WL.box rfl rfl rfl rfl (fun b3 => ?_)
  refine .o rfl rfl rfl rfl ?_; refine WL.nil ?_
  refine Kseq.go (W.seq ?_)
  refine W.freezeBox (.head _) (fun b hb => (hF b hb).elim) fun m3 h3 => ?_
  refine W.region ?_; refine .o rfl rfl rfl rfl ?_; refine WL.nil ?_
  refine Kseq.go (W.seq (W.seq ?_))
  refine W.region ?_; refine .o rfl rfl rfl rfl ?_; refine WL.nil ?_
  refine Kseq.go (W.block ?_)
  refine W.loop (σ := Nat) (fun k => [(1, lv), (2, vi (i : Int)), (3, .pointer (some ⟨b3, 0, none⟩)), (7, vi ((((truths6 r).take k).countP (carryF r i) : Nat) : Int)), (8, vi (k : Int))]) (fun _ => [m3, h]) (fun _ => []) (fun k => k ≤ (truths6 r).length) (fun k => (truths6 r).length - k) 0 ⟨rfl, rfl, rfl, rfl, rfl, trivial⟩ (by simp) (List.nil_sublist _) (Nat.zero_le _) ?_
  intro k hk
  have hcl := List.countP_le_length (p := carryF r i) (l := (truths6 r).take k)
  rw [List.length_take] at hcl
  refine W.seq (W.seq ?_)
  refine W.region ?_
  iterate 2 refine .o rfl rfl rfl rfl ?_
  refine .val (.len rfl hvA) rfl rfl rfl ?_; refine .o rfl rfl rfl rfl ?_; refine WL.nil ?_; refine Kseq.go ?_
  refine W.condD rfl rfl (fun hlt => ?_) (fun hge => ?_)
  · have hkl : k < (truths6 r).length := by omega
    have hci := hvs.2 k hkl
    have hm := getDc hkl
    have htk := take_succ_getD (d := default) hkl
    obtain ⟨c, hce⟩ : ∃ c, (truths6 r).getD k default = c := ⟨_, rfl⟩
    rw [hce] at hci hm htk
    have hcm := truths_scene hV hm
    have hfit := scene_fit hcm
    have hL := lastN_lt hV hfit.owners []
    have hcv := hci
    obtain ⟨ov, hv2, eci, hO, hH⟩ := hci
    have hcf : carryF r i c = (lastN r c []).testBit i := rfl
    generalize hse : lastN r c [] = s at *
    refine W.skip (Kseq.go (W.seq (W.block (W.seq ?_))))
    refine W.draw 9 (by kernel_rfl) (by kernel_rfl) (by kernel_rfl) rfl ?_; refine .val [] (.loadPW rfl h3 (by repeat constructor) rfl) rfl rfl rfl rfl ?_; refine .val [] (.opv rfl) rfl rfl rfl rfl ?_; refine .val [] (.opv rfl) rfl rfl rfl rfl ?_; refine .val [] (.indexAddrN rfl rfl hvA hkl) rfl rfl rfl rfl ?_
    refine .val [] (.cast (.loadEA rfl hvA (by repeat constructor) hkl) (show _ = Value.agg #[ov, hv2] from by simp only [eci]; rfl)) rfl rfl rfl rfl ?_
    refine .val [] (.cast (.call rfl (fun m hm => lastR_any (hv'.le (by repeat (first | exact hm.1 | replace hm := hm.2))) hV (IsCourseV.le (eci ▸ hcv) (by repeat (first | exact hm.1 | replace hm := hm.2))) hfit.owners hfit.hours (IsBoils.nil m) (by simp))) (show _ = vi (s : Int) from by rw [hse])) rfl rfl rfl rfl ?_; refine .val [] (.opv rfl) rfl rfl rfl rfl ?_; refine .val [] (.conv rfl (wrap_u64 (by omega) (by omega))) rfl rfl rfl rfl ?_
    refine .val [] ((OpVal.shl rfl rfl (by omega) (by rw [pow_cast]; omega) (by rw [pow_cast]; omega)).cast (congrArg (Value.int .i64) (pow_cast i))) rfl rfl rfl rfl ?_
    refine DJ.nil ?_; refine .val (.band rfl rfl (by omega) (by omega)) rfl rfl rfl ?_
    refine .val (.cast (.opv rfl) (show _ = Value.bool (carryF r i c) from congrArg Value.bool (by rw [hcf, ← decide_not, Bool.eq_iff_iff, decide_eq_true_eq, ← and_one6]; omega))) rfl rfl rfl ?_
    refine WL.nil ?_; refine Kseq.go ?_
    refine W.cond rfl rfl (fun hb2 => ?_) (fun hb2 => ?_)
    · have e : ((truths6 r).take (k + 1)).countP (carryF r i) = ((truths6 r).take k).countP (carryF r i) + 1 := by rw [htk, List.countP_append, List.countP_cons_of_pos (by exact hb2), List.countP_nil]
      refine W.region ?_; refine .o rfl rfl rfl rfl ?_; refine .val (.incr rfl (by omega)) rfl rfl rfl ?_; refine .o rfl rfl rfl rfl ?_; refine WL.nil ?_
      refine Kblock.normal (Kseq.go ?_)
      refine W.region ?_; refine .o rfl rfl rfl rfl ?_; refine .val (.incr rfl (by omega)) rfl rfl rfl ?_; refine .o rfl rfl rfl rfl ?_; refine WL.nil ?_
      exact Kloop.next (k + 1) (by omega) (by omega) ⟨rfl, rfl, rfl, congrArg (fun z : Nat => some (vi (z : Int))) e.symm, rfl, trivial⟩ (by simp) (by repeat (first | exact List.Sublist.refl _ | refine List.Sublist.cons _ ?_ | refine List.Sublist.cons_cons _ ?_))
    · have e : ((truths6 r).take (k + 1)).countP (carryF r i) = ((truths6 r).take k).countP (carryF r i) := by rw [htk, List.countP_append, List.countP_cons_of_neg (by rw [hb2]; simp), List.countP_nil, Nat.add_zero]
      refine W.skip (Kblock.normal (Kseq.go ?_))
      refine W.region ?_; refine .o rfl rfl rfl rfl ?_; refine .val (.incr rfl (by omega)) rfl rfl rfl ?_; refine .o rfl rfl rfl rfl ?_; refine WL.nil ?_
      exact Kloop.next (k + 1) (by omega) (by omega) ⟨rfl, rfl, rfl, congrArg (fun z : Nat => some (vi (z : Int))) e.symm, rfl, trivial⟩ (by simp) (by repeat (first | exact List.Sublist.refl _ | refine List.Sublist.cons _ ?_ | refine List.Sublist.cons_cons _ ?_))
  · have hkk : k = (truths6 r).length := by omega
    subst hkk
    rw [List.take_length] at *
    refine W.exit (Kseq.exit (Kloop.exit (Kblock.here (Kseq.go (W.seq ?_)))))
    refine W.region ?_
    iterate 2 refine .o rfl rfl rfl rfl ?_
    refine .val (.len rfl hvA) rfl rfl rfl ?_; refine .val (.call rfl (fun m hm => verdictR_any _ _)) rfl rfl rfl ?_; refine .o rfl rfl rfl rfl ?_; refine WL.nil ?_; refine Kseq.go ?_
    refine W.ret ?_; refine ⟨.inl rfl, [_], h, ⟨.tmp rfl, trivial⟩, (by repeat constructor), ?_⟩
    show vi _ = vi _
    congr 1
    unfold verdictL
    by_cases e1 : (truths6 r).countP (carryF r i) = (truths6 r).length
    · rw [if_pos (by omega), if_pos e1]
    · rw [if_neg (by omega), if_neg e1]
      by_cases e2 : (truths6 r).countP (carryF r i) = 0
      · rw [if_pos (by omega), if_pos e2]
      · rw [if_neg (by omega), if_neg e2]
/-- Harmed, of all truths -/
theorem harmedR_any {h : Mem} {v lv : Value} {r : House} {w : Nat} (hv : IsHouse h v r) (hV : ValidH r) (hl : IsCourses h lv (truths6 r)) (hne : ask6 r ≠ []) : FnV Tryz.prog 33 #[v, lv, vi (w : Int)] h (.bool (!decide (verdictL (ask6 r) (harmF r w) = 2))) := by
  have hv' := hv
  obtain ⟨wv, pv, kv, tv, bv, sv, f, rfl, hA⟩ := hv
  have hbd := truths6_len hV
  obtain ⟨vs, hvs, hvA⟩ := hl
  have hne2 : truths6 r ≠ [] := fun e => hne ((truths_nil hV).1 e)
  have hth := hV.th
  have hp10 : 2 ^ r.th ≤ 2 ^ 10 := Nat.pow_le_pow_right (by omega) (by omega)
  refine FnR.val ?_
  refine FnR.of_W (n := 27) Tryz.func33 rfl rfl (Nat.le_of_ble_eq_true rfl) fun c hr hD hF => ?_
  refine W.seq ?_; refine W.region ?_
  refine WL.box rfl rfl rfl rfl (fun b3 => ?_)
  refine .o rfl rfl rfl rfl ?_; refine WL.nil ?_
  refine Kseq.go (W.seq (W.seq ?_))
  refine W.freezeBox (.head _) (fun b hb => (hF b hb).elim) fun m3 h3 => ?_
  refine W.region ?_; refine .o rfl rfl rfl rfl ?_; refine WL.nil ?_
  refine Kseq.go (W.block ?_)
  refine W.loop (σ := Nat) (fun k => [(1, lv), (2, vi (w : Int)), (3, .pointer (some ⟨b3, 0, none⟩)), (7, vi (k : Int))]) (fun _ => [m3, h]) (fun _ => []) (fun k => k ≤ (truths6 r).length ∧ ∀ i, i < k → harmF r w ((truths6 r).getD i default) = false) (fun k => (truths6 r).length - k) 0 ⟨rfl, rfl, rfl, rfl, trivial⟩ (by simp) (List.nil_sublist _) ⟨Nat.zero_le _, fun i hi => absurd hi (Nat.not_lt_zero _)⟩ ?_
  rintro k ⟨hk, hall⟩
  refine W.seq (W.seq ?_)
  refine W.region ?_
  iterate 2 refine .o rfl rfl rfl rfl ?_
  refine .val (.len rfl hvA) rfl rfl rfl ?_; refine .o rfl rfl rfl rfl ?_; refine WL.nil ?_; refine Kseq.go ?_
  refine W.condD rfl rfl (fun hlt => ?_) (fun hge => ?_)
  · have hkl : k < (truths6 r).length := by omega
    have hci := hvs.2 k hkl
    have hm := getDc hkl
    obtain ⟨c, hce⟩ : ∃ c, (truths6 r).getD k default = c := ⟨_, rfl⟩
    rw [hce] at hci hm
    have hcm := truths_scene hV hm
    have hfit := scene_fit hcm
    have hol := hfit.owners
    have hL := lastN_lt hV hfit.owners []
    have hcv := hci
    obtain ⟨ov, hv2, eci, hO, hH⟩ := hci
    have hcf : harmR r c (lastN r c []) w = harmF r w c := harmR_eq hfit.owners
    generalize hse : lastN r c [] = s at *
    refine W.skip (Kseq.go (W.seq (W.block (W.seq ?_))))
    refine W.draw 12 (by kernel_rfl) (by kernel_rfl) (by kernel_rfl) rfl ?_; refine .val [] (.loadPW rfl h3 (by repeat constructor) rfl) rfl rfl rfl rfl ?_; refine .val [] (.opv rfl) rfl rfl rfl rfl ?_; refine .val [] (.opv rfl) rfl rfl rfl rfl ?_; refine .val [] (.indexAddrN rfl rfl hvA hkl) rfl rfl rfl rfl ?_
    refine .val [] (.cast (.loadEA rfl hvA (by repeat constructor) hkl) (show _ = Value.agg #[ov, hv2] from by simp only [eci]; rfl)) rfl rfl rfl rfl ?_
    refine .val [] (.loadPW rfl h3 (by repeat constructor) rfl) rfl rfl rfl rfl ?_; refine .val [] (.opv rfl) rfl rfl rfl rfl ?_; refine .val [] (.opv rfl) rfl rfl rfl rfl ?_; refine .val [] (.indexAddrN rfl rfl hvA hkl) rfl rfl rfl rfl ?_
    refine .val [] (.cast (.loadEA rfl hvA (by repeat constructor) hkl) (show _ = Value.agg #[ov, hv2] from by simp only [eci]; rfl)) rfl rfl rfl rfl ?_
    refine .val [] (.cast (.call rfl (fun m hm => lastR_any (hv'.le (by repeat (first | exact hm.1 | replace hm := hm.2))) hV (IsCourseV.le (eci ▸ hcv) (by repeat (first | exact hm.1 | replace hm := hm.2))) hfit.owners hfit.hours (IsBoils.nil m) (by simp))) (show _ = vi (s : Int) from by rw [hse])) rfl rfl rfl rfl ?_; refine .val [] (.opv rfl) rfl rfl rfl rfl ?_; refine DJ.nil ?_; refine .val (.cast (.call rfl (fun m hm => isHarmedR_any _ (hv'.le (by repeat (first | exact hm.1 | replace hm := hm.2))) (IsCourseV.le (eci ▸ hcv) (by repeat (first | exact hm.1 | replace hm := hm.2))) (by omega) (by omega))) (congrArg Value.bool hcf)) rfl rfl rfl ?_; refine WL.nil ?_; refine Kseq.go ?_
    refine W.cond rfl rfl (fun hb2 => ?_) (fun hb2 => ?_)
    · refine W.seq ?_
      refine W.region ?_; refine .o rfl rfl rfl rfl ?_; refine WL.nil ?_; refine Kseq.go ?_
      refine W.ret ?_; refine Kblock.ret (Kseq.ret (Kloop.ret (Kblock.ret (Kseq.ret ?_)))); refine ⟨.inl rfl, [_], h, ⟨.tmp rfl, trivial⟩, (by repeat constructor), ?_⟩
      refine congrArg Value.bool ?_
      symm
      rw [Bool.not_eq_true', decide_eq_false_iff_not, verdict_two hne]
      intro hn
      rw [hn c (hV.truths.1 hm)] at hb2; cases hb2
    · refine W.skip (Kblock.normal (Kseq.go ?_))
      refine W.region ?_; refine .o rfl rfl rfl rfl ?_; refine .val (.incr rfl (by omega)) rfl rfl rfl ?_; refine .o rfl rfl rfl rfl ?_; refine WL.nil ?_
      refine Kloop.next (k + 1) ⟨hkl, fun i hi => ?_⟩ (by omega) ⟨rfl, rfl, rfl, rfl, trivial⟩ (by simp) (by repeat (first | exact List.Sublist.refl _ | refine List.Sublist.cons _ ?_ | refine List.Sublist.cons_cons _ ?_))
      rcases Nat.lt_succ_iff_lt_or_eq.1 hi with h2 | rfl
      · exact hall i h2
      · rw [hce]; exact hb2
  · have hkk : k = (truths6 r).length := by omega
    subst hkk
    refine W.exit (Kseq.exit (Kloop.exit (Kblock.here (Kseq.go (W.seq ?_)))))
    refine W.region ?_; refine .o rfl rfl rfl rfl ?_; refine WL.nil ?_; refine Kseq.go ?_
    refine W.ret ?_; refine ⟨.inl rfl, [_], h, ⟨.tmp rfl, trivial⟩, (by repeat constructor), ?_⟩
    refine congrArg Value.bool ?_
    symm
    rw [Bool.not_eq_false', decide_eq_true_eq, verdict_two hne]
    intro c hc
    obtain ⟨i, hi, rfl⟩ := of_memc (hV.truths.2 hc)
    exact hall i hi
/-- SickCarries -/
theorem sickCarries_any {h : Mem} {v : Value} {r : House} (hv : IsHouse h v r) : FnV Tryz.prog 4 #[v] h (.bool true) := by
  have hv' := hv
  obtain ⟨wv, pv, kv, tv, bv, sv, f, rfl, hA⟩ := hv
  have hW := hA.W
  refine FnR.val ?_
  refine FnR.of_W (n := 104) Tryz.func4 rfl rfl (Nat.le_of_ble_eq_true rfl) fun c hr hD hF => ?_
  refine W.seq ?_; refine W.region ?_
  refine WL.box rfl rfl rfl rfl (fun b1 => ?_)
  refine .o rfl rfl rfl rfl ?_; refine WL.nil ?_
  refine Kseq.go (W.seq (W.seq ?_))
  refine W.freezeBox (.head _) (fun b hb => (hF b hb).elim) fun m1 h1 => ?_
  cases hth : thin6 r with
  | false =>
    refine W.region ?_; refine .val (.loadPW rfl h1 (by repeat constructor) rfl) rfl rfl rfl ?_; refine .val (.cast (.call rfl (fun m hm => thin6_any (hv'.le (by repeat (first | exact hm.1 | replace hm := hm.2))))) (congrArg Value.bool hth)) rfl rfl rfl ?_; refine .o rfl rfl rfl rfl ?_; refine WL.nil ?_; refine Kseq.go ?_; refine W.condT rfl rfl ?_; refine W.seq ?_; refine W.region ?_; refine .val (.call rfl (fun m hm => awake6_any)) rfl rfl rfl ?_; refine .o rfl rfl rfl rfl ?_; refine WL.nil ?_; refine Kseq.go ?_
    refine W.ret ?_; refine Kseq.ret ?_; refine ⟨.inl rfl, [_], h, ⟨.tmp rfl, trivial⟩, (by repeat constructor), ?_⟩
    rfl
  | true =>
  have hs := thin6_sm hth
  refine W.region ?_; refine .val (.loadPW rfl h1 (by repeat constructor) rfl) rfl rfl rfl ?_; refine .val (.cast (.call rfl (fun m hm => thin6_any (hv'.le (by repeat (first | exact hm.1 | replace hm := hm.2))))) (congrArg Value.bool hth)) rfl rfl rfl ?_; refine .o rfl rfl rfl rfl ?_; refine WL.nil ?_; refine Kseq.go ?_; refine W.condF rfl rfl ?_
  refine W.skip (Kseq.go (W.seq ?_))
  obtain ⟨E, hE⟩ : ∃ E, ask6E r true = E := ⟨_, rfl⟩
  refine W.region ?_; refine .val (.loadPW rfl h1 (by repeat constructor) rfl) rfl rfl rfl ?_; refine WL.abs (OpAbs.call rfl (fun m hm => houseL_any (hv'.le (by repeat (first | exact hm.1 | replace hm := hm.2))) hs)) rfl rfl rfl ?_
  rintro m18 v18 h18
  refine WL.abs (OpAbs.call rfl (fun m hm => carry6_any (h18.le (by repeat (first | exact hm.1 | replace hm := hm.2))) hs)) rfl rfl rfl ?_
  rintro m19 _ ⟨lv1, rfl, hl1⟩
  rw [hE] at hl1
  rw [hE]
  iterate 5 refine .o rfl rfl rfl rfl ?_
  refine WL.nil ?_
  refine Kseq.go (W.seq ?_)
  refine W.region ?_; refine .val (.loadPW rfl h1 (by repeat constructor) rfl) rfl rfl rfl ?_; refine WL.abs (OpAbs.call rfl (fun m hm => houseL_any (hv'.le (by repeat (first | exact hm.1 | replace hm := hm.2))) hs)) rfl rfl rfl ?_
  rintro m24 v24 h24
  refine WL.abs (OpAbs.call rfl (fun m hm => whose6_any (h24.le (by repeat (first | exact hm.1 | replace hm := hm.2))) hs)) rfl rfl rfl ?_
  rintro m25 _ ⟨lv2, rfl, hl2⟩
  rw [hE] at hl2
  rw [hE]
  iterate 5 refine .o rfl rfl rfl rfl ?_
  refine WL.nil ?_
  refine Kseq.go (W.seq ?_)
  refine W.region ?_; refine .val (.loadPW rfl h1 (by repeat constructor) rfl) rfl rfl rfl ?_; refine WL.abs (OpAbs.call rfl (fun m hm => sure6_any (hv'.le (by repeat (first | exact hm.1 | replace hm := hm.2))) hs)) rfl rfl rfl ?_
  rintro m30 _ ⟨lv3, rfl, hl3⟩
  rw [hE] at hl3
  rw [hE]
  iterate 5 refine .o rfl rfl rfl rfl ?_
  refine WL.nil ?_
  refine Kseq.go (W.seq (W.seq ?_))
  refine W.join fun mj hj => ?_
  have g1 := hl1.le (hj _ (by simp))
  have g2 := hl2.le (hj _ (by simp))
  have g3 := fun e => (hl3 e).le (hj m30 (by simp))
  have h1j := h1.le (hj m1 (by simp))
  have hvj := hv'.le (hj h (by simp))
  have hWj := IsArr.le hW (hj h (by simp))
  clear hl1 hl2 hl3 h18 h24 h1
  refine W.weaken [(1, .pointer (some ⟨b1, 0, none⟩)), (3, lv1), (4, vi E), (5, lv2), (6, vi E), (7, lv3), (8, vi E)] [mj] [] (by repeat (first | exact trivial | refine ⟨rfl, ?_⟩)) (by simp) (List.nil_sublist _) ?_
  by_cases h0 : E = 0
  · subst h0
    rw [if_pos rfl] at g1 g2
    have hask := hE
    unfold ask6E at hask
    have hf0 : fault6 r = 0 := by
      refine Classical.byContradiction fun hn => ?_
      rw [if_pos hn] at hask; exact hn hask
    have hV := fault6_zero.1 hf0
    have hne : ask6 r ≠ [] := (ask6E_iff.1 hE).2.2
    have hT := g3 rfl
    have hthw := hV.thW
    have hcl := carry6_len r
    have hbd1 := g1.bd
    have hth10 := hV.th.2.2
    have hwn := hV.table.women
    refine W.region ?_; refine .o rfl rfl rfl rfl ?_; refine .val (OpVal.neqF6 rfl rfl) rfl rfl rfl ?_; refine WL.nil ?_; refine Kseq.go ?_; refine W.condF rfl rfl ?_
    refine W.skip (Kseq.go (W.seq (W.seq ?_)))
    refine W.region ?_; refine .o rfl rfl rfl rfl ?_; refine .val (OpVal.neqF6 rfl rfl) rfl rfl rfl ?_
    iterate 2 refine .o rfl rfl rfl rfl ?_
    refine .val (OpVal.neqF6 rfl rfl) rfl rfl rfl ?_
    iterate 3 refine .o rfl rfl rfl rfl ?_
    refine .val (.len rfl g1) rfl rfl rfl ?_; refine .val (.loadPW rfl h1j (by repeat constructor) rfl) rfl rfl rfl ?_; refine .val (.cast (.call rfl (fun m hm => thingsR_any (hvj.le (by repeat (first | exact hm.1 | replace hm := hm.2))))) (congrArg (Value.int .i64) hthw)) rfl rfl rfl ?_; refine .val (.cast (.opv rfl) (show _ = Value.bool false from congrArg (fun b => Value.bool (!b)) (decide_eq_true (by omega)))) rfl rfl rfl ?_; refine .o rfl rfl rfl rfl ?_; refine WL.nil ?_; refine Kseq.go ?_; refine W.condF rfl rfl ?_
    refine W.skip (Kseq.go (W.seq (W.seq ?_)))
    refine W.region ?_; refine .o rfl rfl rfl rfl ?_; refine WL.nil ?_
    refine Kseq.go (W.block ?_)
    refine W.loop (σ := Nat) (fun k => [(1, .pointer (some ⟨b1, 0, none⟩)), (3, lv1), (5, lv2), (7, lv3), (9, vi (k : Int))]) (fun _ => [mj]) (fun _ => []) (fun k => k ≤ r.th) (fun k => r.th - k) 0 ⟨rfl, rfl, rfl, rfl, rfl, trivial⟩ (by simp) (List.nil_sublist _) (Nat.zero_le _) ?_
    rintro k hk
    try dsimp only at hk ⊢
    refine W.seq (W.seq ?_)
    refine W.region ?_
    iterate 2 refine .o rfl rfl rfl rfl ?_
    refine .val (.len rfl g1) rfl rfl rfl ?_; refine .o rfl rfl rfl rfl ?_; refine WL.nil ?_; refine Kseq.go ?_
    refine W.condD rfl rfl (fun hlt => ?_) (fun hge => ?_)
    · have hkl : k < r.th := by omega
      refine W.skip (Kseq.go (W.seq (W.block (W.seq ?_))))
      refine W.draw 8 (by kernel_rfl) (by kernel_rfl) (by kernel_rfl) rfl ?_; refine .val [] (.opv rfl) rfl rfl rfl rfl ?_; refine .val [] (.opv rfl) rfl rfl rfl rfl ?_; refine .val [] (.indexAddrN rfl rfl g1 (by omega)) rfl rfl rfl rfl ?_; refine .val [] (.loadE rfl g1 (by repeat constructor) (by omega) (by omega)) rfl rfl rfl rfl ?_; refine .val [] (.loadPW rfl h1j (by repeat constructor) rfl) rfl rfl rfl rfl ?_; refine .val [] (.opv rfl) rfl rfl rfl rfl ?_; refine .val [] (.opv rfl) rfl rfl rfl rfl ?_; refine .val [] (.call rfl (fun m hm => carryR_any (hvj.le (by repeat (first | exact hm.1 | replace hm := hm.2))) hV (hT.le (by repeat (first | exact hm.1 | replace hm := hm.2))) hne hkl)) rfl rfl rfl rfl ?_; refine DJ.nil ?_; refine .val (OpVal.neqF6 rfl rfl) rfl rfl rfl ?_; refine WL.nil ?_; refine Kseq.go ?_; refine W.condF rfl rfl ?_
      refine W.skip (Kblock.normal (Kseq.go ?_))
      refine W.region ?_; refine .o rfl rfl rfl rfl ?_; refine .val (.incr rfl (by omega)) rfl rfl rfl ?_; refine .o rfl rfl rfl rfl ?_; refine WL.nil ?_
      exact Kloop.next (k + 1) (by omega) (by omega) ⟨rfl, rfl, rfl, rfl, rfl, trivial⟩ (by simp) (by repeat (first | exact List.Sublist.refl _ | refine List.Sublist.cons _ ?_ | refine List.Sublist.cons_cons _ ?_))
    refine W.exit (Kseq.exit (Kloop.exit (Kblock.here (Kseq.go (W.seq ?_)))))
    refine W.region ?_; refine .o rfl rfl rfl rfl ?_; refine WL.nil ?_
    refine Kseq.go (W.seq (W.seq ?_))
    refine W.region ?_; refine .o rfl rfl rfl rfl ?_; refine WL.nil ?_
    refine Kseq.go (W.block ?_)
    let p : Nat → Bool := fun w => !decide (verdictL (ask6 r) (harmF r w) = 2)
    refine W.nilRow 3 1 ?_; refine W.loop (σ := Nat × Value) (fun s => [(1, .pointer (some ⟨b1, 0, none⟩)), (5, lv2), (7, lv3), (10, s.2), (11, vi (s.1 : Int))]) (fun _ => [mj]) (fun s => [ir 3 s.2 (sel s.1 p)]) (fun s => s.1 ≤ r.table.women.length) (fun s => r.table.women.length - s.1) (0, .slice none 0 0) ⟨rfl, rfl, rfl, rfl, rfl, trivial⟩ (by simp) (.refl _) (Nat.zero_le _) ?_
    rintro ⟨w, a⟩ hw
    dsimp only at hw ⊢
    have hlen := sel_len w p
    refine W.seq (W.seq ?_)
    refine W.region ?_; refine .o rfl rfl rfl rfl ?_; refine .val (.fieldAddrB rfl) rfl rfl rfl ?_; refine .val (.fieldAddrB rfl) rfl rfl rfl ?_; refine .val (.loadP rfl h1j (by repeat constructor) rfl) rfl rfl rfl ?_; refine .val (.len rfl hWj) rfl rfl rfl ?_; refine .o rfl rfl rfl rfl ?_; refine WL.nil ?_; refine Kseq.go ?_
    refine W.condD rfl rfl (fun hlt => ?_) (fun hge => ?_)
    · have hwl : w < r.table.women.length := by omega
      refine W.skip (Kseq.go (W.seq (W.block (W.seq ?_))))
      refine W.region ?_; refine .val (.loadPW rfl h1j (by repeat constructor) rfl) rfl rfl rfl ?_
      iterate 2 refine .o rfl rfl rfl rfl ?_
      refine .val (.cast (.call rfl (fun m hm => harmedR_any (hvj.le (by repeat (first | exact hm.1 | replace hm := hm.2))) hV (hT.le (by repeat (first | exact hm.1 | replace hm := hm.2))) hne)) (show _ = Value.bool (p w) from rfl)) rfl rfl rfl ?_; refine WL.nil ?_; refine Kseq.go ?_
      refine W.cond rfl rfl (fun hb => ?_) (fun hb => ?_)
      · skip
        refine W.region ?_
        iterate 2 refine .o rfl rfl rfl rfl ?_
        refine WL.abs (OpAbs.lit [_] rfl (Nat.le_of_ble_eq_true rfl) rfl rfl (by simp [Value.cells]) (Nat.le_of_ble_eq_true rfl) rfl (by first | (simp [Value.oneCell']; done) | exact List.all_eq_true.1 rfl)) rfl rfl rfl ?_
        rintro m96 _ ⟨hc96, a96, rfl⟩
        refine WL.appInt rfl (fun _ => (.head _)) rfl (by assumption) (by repeat constructor) (by omega) rfl rfl rfl ?_
        intro a97 cp97
        refine .o rfl rfl rfl rfl ?_; refine WL.nil ?_
        refine Kblock.normal (Kseq.go ?_)
        refine W.region ?_; refine .o rfl rfl rfl rfl ?_; refine .val (.incr rfl (by omega)) rfl rfl rfl ?_; refine .o rfl rfl rfl rfl ?_; refine WL.nil ?_
        exact Kloop.next (w + 1, _) (by dsimp only; omega) (by dsimp only; omega) ⟨rfl, rfl, rfl, rfl, rfl, trivial⟩ (by simp) (by dsimp only; rw [sel_yes hb]; exact (by repeat (first | exact List.Sublist.refl _ | refine List.Sublist.cons _ ?_ | refine List.Sublist.cons_cons _ ?_)))
      · refine W.skip (Kblock.normal (Kseq.go ?_))
        refine W.region ?_; refine .o rfl rfl rfl rfl ?_; refine .val (.incr rfl (by omega)) rfl rfl rfl ?_; refine .o rfl rfl rfl rfl ?_; refine WL.nil ?_
        exact Kloop.next (w + 1, a) (by dsimp only; omega) (by dsimp only; omega) ⟨rfl, rfl, rfl, rfl, rfl, trivial⟩ (by simp) (by dsimp only; rw [sel_no hb]; exact (by repeat (first | exact List.Sublist.refl _ | refine List.Sublist.cons _ ?_ | refine List.Sublist.cons_cons _ ?_)))
    refine W.exit (Kseq.exit (Kloop.exit (Kblock.here (Kseq.go (W.seq ?_)))))
    have hww : w = r.table.women.length := by omega
    subst hww
    refine W.freezeInts (.head _) (fun b hb => (hF b hb).elim) fun mr hmr => ?_
    have hmr' : IsInts mr a (whose6 r) := hmr
    clear hmr
    refine W.region ?_
    iterate 2 refine .o rfl rfl rfl rfl ?_
    refine .val (.call rfl (fun m hm => same6_eq (g2.le (by repeat (first | exact hm.1 | replace hm := hm.2))) (hmr'.le (by repeat (first | exact hm.1 | replace hm := hm.2))))) rfl rfl rfl ?_; refine .o rfl rfl rfl rfl ?_; refine .val (.call rfl (fun m hm => awake6_any)) rfl rfl rfl ?_
    iterate 2 refine .o rfl rfl rfl rfl ?_
    refine WL.nil ?_; refine Kseq.go ?_
    refine W.ret ?_; refine ⟨.inl rfl, [_], mj, ⟨.tmp rfl, trivial⟩, (by repeat constructor), ?_⟩
    rfl
  · rw [if_neg h0] at g1 g2
    refine W.region ?_; refine .o rfl rfl rfl rfl ?_; refine .val (.cast (.opv rfl) (show _ = Value.bool true from congrArg (fun b => Value.bool (!b)) (decide_eq_false h0))) rfl rfl rfl ?_; refine WL.nil ?_; refine Kseq.go ?_; refine W.condT rfl rfl ?_; refine W.seq ?_; refine W.region ?_
    iterate 2 refine .o rfl rfl rfl rfl ?_
    refine .val (OpVal.eqT6 rfl rfl) rfl rfl rfl ?_
    iterate 3 refine .o rfl rfl rfl rfl ?_
    refine .val (OpVal.eqT6 rfl rfl) rfl rfl rfl ?_
    iterate 3 refine .o rfl rfl rfl rfl ?_
    refine .val (.cast (.len rfl g1) (show _ = vi 0 from rfl)) rfl rfl rfl ?_; refine .o rfl rfl rfl rfl ?_; refine .val (.cast (.len rfl g2) (show _ = vi 0 from rfl)) rfl rfl rfl ?_; refine .val (.cast (.add rfl rfl (by omega) (by omega)) (show _ = vi 0 from rfl)) rfl rfl rfl ?_; refine .val (OpVal.eqT6 rfl rfl) rfl rfl rfl ?_
    iterate 2 refine .o rfl rfl rfl rfl ?_
    refine .val (.call rfl (fun m hm => awake6_any)) rfl rfl rfl ?_
    iterate 2 refine .o rfl rfl rfl rfl ?_
    refine WL.nil ?_; refine Kseq.go ?_
    refine W.ret ?_; refine Kseq.ret ?_; refine ⟨.inl rfl, [_], mj, ⟨.tmp rfl, trivial⟩, (by repeat constructor), ?_⟩
    rfl
end Go.Proofs.YtdnbkjgbehakpaaGreat
