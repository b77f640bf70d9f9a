/- The program's functions of chapter 6: carries, harmed, verdict, Carry, Whose. -/
import Derived.Test.YtdnbkjgbehakpaaT119
namespace Go.Proofs.Ytdnbkjgbehakpaa
open Go Go.Eng Go.RowKit

theorem known_last {r : House} {q : Course} (hf : FitC r q) (h7 : r.np ≤ 7) (h6 : r.tn ≤ 6) {i : Nat} (hi : i < 10) : (knownL r q).toArray[13 + i]? = some (.bool ((lastN r q []).testBit i)) := by
  unfold knownL
  rw [List.getElem?_toArray, List.getElem?_append_right (by rw [sceneL_len hf h7 h6]; omega), sceneL_len hf h7 h6, Nat.add_sub_cancel_left]
  simp [carL, hi]
theorem known_owner {r : House} {q : Course} (hf : FitC r q) (h7 : r.np ≤ 7) {i : Nat} (hi : i < r.np) : (knownL r q).toArray[0 + i]? = some (vi (q.owners.getD i 0)) := by
  have h1 := sceneC_owner (c := q) (by rw [hf.owners]; exact h7) (show i < q.owners.length by rw [hf.owners]; exact hi)
  have h2 : (sceneC q)[0 + i]? = (sceneL q)[0 + i]? := by unfold sceneC sceneL; rw [List.getElem?_toArray]
  rw [h2] at h1
  unfold knownL
  rw [List.getElem?_toArray, List.getElem?_append_left (by obtain ⟨h, _⟩ := List.getElem?_eq_some_iff.1 h1; exact h)]
  exact h1
theorem known_scene {r : House} {q : Course} (hf : FitC r q) (h7 : r.np ≤ 7) (h6 : r.tn ≤ 6) : ((knownL r q).toArray.toList.drop 0).take 13 = sceneL q := by
  show ((knownL r q).drop 0).take 13 = _
  unfold knownL
  rw [List.drop_zero, List.take_append_of_le_length (by rw [sceneL_len hf h7 h6]; omega), List.take_of_length_le (by rw [sceneL_len hf h7 h6]; omega)]
theorem range_getD {L : List Value} {n : Nat} (h : L.length = n) : (List.range n).map (fun j => L.getD j undef) = L := by
  subst h
  apply List.ext_getElem (by simp)
  intro i h1 h2
  simp [List.getD_eq_getElem?_getD, List.getElem?_eq_getElem h2]
theorem ask6_fit {r : House} {q : Course} (h : q ∈ ask6 r) : FitC r q := scene_fit (List.mem_filter.1 h).1
/-- carries -/
theorem carries6_any {h : Mem} {p : Value} {r : House} {q : Course} {i : Nat} (hV : ValidH r) (hf : FitC r q) (hi : i < 10) : FnV Try.prog 32 #[p, knownV r q, vi i] h (.bool ((lastN r q []).testBit i)) := by
  have hnp := hV.np7
  have htn : r.tn ≤ 6 := hV.touchN
  refine FnR.val ?_
  refine FnR.of_W (n := 11) Try.func32 rfl rfl (Nat.le_of_ble_eq_true rfl) fun c hr hD hF => ?_
  refine W.seq ?_; refine W.region ?_
  refine WL.box rfl rfl rfl rfl (fun b4 => ?_)
  refine .o rfl ?_; refine WL.nil ?_
  refine Kseq.go (W.seq ?_)
  refine W.region ?_; refine .o rfl ?_; refine .val (.fieldAddrB rfl) rfl rfl rfl ?_; refine .val (.indexAddrB rfl rfl hi) rfl rfl rfl ?_; refine .val (.loadB rfl (.head _) (known_last hf hnp htn hi)) rfl rfl rfl ?_; refine .o rfl ?_; refine WL.nil ?_; refine Kseq.go ?_
  refine W.ret ?_; refine ⟨.inl rfl, [_], h, ⟨.tmp rfl, trivial⟩, (by repeat constructor), ?_⟩
  rfl
/-- harmed -/
theorem harmed6_any {h : Mem} {b : Nat} {v : Value} {r : House} {q : Course} (w : Int) (hv : IsHouse h v r) (hV : ValidH r) (hw : IsWork6 h b v r) (hf : FitC r q) : FnV Try.prog 34 #[.pointer (some ⟨b, 0, none⟩), knownV r q, vi w] h (.bool (harmB r q (lastN r q []) w)) := by
  have hnp := hV.np7
  have htn : r.tn ≤ 6 := hV.touchN
  have hv' := hv
  obtain ⟨wv, pv, kv, tv, bv, sv, trv, rfl, hB, _⟩ := hw
  refine FnR.val ?_
  refine FnR.of_W (n := 41) Try.func34 rfl rfl (Nat.le_of_ble_eq_true rfl) fun c hr hD hF => ?_
  refine W.seq ?_; refine W.region ?_
  refine WL.box rfl rfl rfl rfl (fun b4 => ?_)
  refine .o rfl ?_; refine WL.nil ?_
  refine Kseq.go (W.seq (W.seq ?_))
  refine W.region ?_
  iterate 2 refine .o rfl ?_
  refine .val (.fieldAddrB rfl) rfl rfl rfl ?_; refine .val (.loadPA (vs := [wv, pv, vi r.table.wrong, kv, vi r.others, vi r.last, tv, bv, sv]) rfl hB (by repeat constructor) rfl rfl) rfl rfl rfl ?_; refine .val (.call rfl (fun m hm => pieces6_any (hv'.le (by repeat first | exact hm.1 | replace hm := hm.2)))) rfl rfl rfl ?_; refine .o rfl ?_; refine WL.nil ?_
  refine Kseq.go (W.block ?_)
  refine W.loop (σ := Nat) (fun k => [(0, .pointer (some ⟨b, 0, none⟩)), (2, vi w), (4, .pointer (some ⟨b4, 0, none⟩)), (12, .int .i64 (r.np : Int)), (13, .int .i64 (k : Int))]) (fun _ => [h]) (fun _ => [.blk b4 (knownL r q).toArray 114])
    (fun k => k ≤ r.np ∧ ∀ i, i < k → ((lastN r q []).testBit i && decide (q.owners.getD i 0 = w) && !decide (q.owners.getD i 0 ∈ r.sick)) = false) (fun k => r.np - k) 0 ⟨rfl, rfl, rfl, rfl, rfl, trivial⟩ (by simp) (.refl _) ⟨Nat.zero_le _, fun i hi => absurd hi (Nat.not_lt_zero _)⟩ ?_
  rintro k ⟨hk, hall⟩
  refine W.seq ?_; refine W.region ?_; refine .o rfl ?_; refine WL.nil ?_
  refine Kseq.go (W.seq ?_)
  refine W.condD rfl rfl (fun hlt => ?_) (fun hge => ?_)
  · have hkl : k < r.np := by omega
    obtain ⟨tb, htb⟩ : ∃ tb, (lastN r q []).testBit k = tb := ⟨_, rfl⟩
    have hlast := (known_last hf hnp htn (show k < 10 by omega)).trans (congrArg (fun b => some (Value.bool b)) htb)
    refine W.skip (Kseq.go (W.seq (W.block (W.seq ?_))))
    refine W.region ?_
    iterate 2 refine .o rfl ?_
    refine WL.nil ?_
    refine Kseq.go (W.seq ?_)
    refine W.toS [(0, .pointer (some ⟨b, 0, none⟩)), (2, vi w), (4, .pointer (some ⟨b4, 0, none⟩)), (12, .int .i64 (r.np : Int)), (13, .int .i64 (k : Int)), (39, .bool ((lastN r q []).testBit k && decide (q.owners.getD k 0 = w) && !decide (q.owners.getD k 0 ∈ r.sick)))] ?_ ?_
    · rw [htb]
      refine W.draw 21 (by kernel_rfl) (by kernel_rfl) (by kernel_rfl) rfl ?_; refine .val [] (.opv rfl) rfl rfl rfl rfl ?_; refine .val [] (.fieldAddrB rfl) rfl rfl rfl rfl ?_; refine .val [] (.indexAddrB rfl rfl (show k < 10 by omega)) rfl rfl rfl rfl ?_; refine .val [] (.loadB rfl (.head _) hlast) rfl rfl rfl rfl ?_; refine .val [] (.opv rfl) rfl rfl rfl rfl ?_
      refine DJ.splitB rfl rfl (fun g20 => ?_) (fun g20 => ?_)
      · refine .val [] (.opv rfl) rfl rfl rfl rfl ?_
        refine .val [] (.fieldAddrB rfl) rfl rfl rfl rfl ?_; refine .val [] (.fieldAddrB rfl) rfl rfl rfl rfl ?_; refine .val [] (.indexAddrB rfl rfl (show k < 7 by omega)) rfl rfl rfl rfl ?_; refine .val [] (.loadB rfl (.head _) (known_owner hf hnp hkl)) rfl rfl rfl rfl ?_; refine .val [] (.opv rfl) rfl rfl rfl rfl ?_; refine .val [] (.opv rfl) rfl rfl rfl rfl ?_; refine .val [] (.opv rfl) rfl rfl rfl rfl ?_; refine .val [] (.opv rfl) rfl rfl rfl rfl ?_
        refine DJ.split rfl rfl (fun g29 => ?_) (fun g29 => ?_)
        · refine .val [] (.opv rfl) rfl rfl rfl rfl ?_
          refine .val [] (.opv rfl) rfl rfl rfl rfl ?_; refine .val [] (.fieldAddrB rfl) rfl rfl rfl rfl ?_; refine .val [] (.loadPA (vs := [wv, pv, vi r.table.wrong, kv, vi r.others, vi r.last, tv, bv, sv]) rfl hB (by repeat constructor) rfl rfl) rfl rfl rfl rfl ?_; refine .val [] (.fieldAddrB rfl) rfl rfl rfl rfl ?_; refine .val [] (.loadBA (vs := sceneL q) rfl (.head _) (known_scene hf hnp htn) (sceneL_len hf hnp htn)) rfl rfl rfl rfl ?_; refine .val [] (.opv rfl) rfl rfl rfl rfl ?_; refine DJ.nil ?_; refine .val (.call rfl (fun m hm => sick_any (hv'.le (by repeat first | exact hm.1 | replace hm := hm.2)) hf hnp htn hkl)) rfl rfl rfl ?_
          iterate 2 refine .o rfl ?_
          refine WL.nil ?_
          exact Keff.intro ⟨rfl, rfl, rfl, rfl, rfl, congrArg (fun b => some (Value.bool b)) (by first | (simp [-List.getD_eq_getElem?_getD]; done) | (simp_all [-List.getD_eq_getElem?_getD]; done) | (simp [-List.getD_eq_getElem?_getD]; omega) | (rw [Bool.eq_iff_iff]; simp [-List.getD_eq_getElem?_getD]; omega) | (simp [-List.getD_eq_getElem?_getD] at *; omega)), trivial⟩ (by simp) (by repeat first | exact .refl _ | refine .cons _ ?_)
        · refine DJ.pass rfl rfl rfl rfl ?_
          refine DJ.pass rfl rfl rfl rfl ?_; refine DJ.pass rfl rfl rfl rfl ?_; refine DJ.pass rfl rfl rfl rfl ?_; refine DJ.pass rfl rfl rfl rfl ?_; refine DJ.pass rfl rfl rfl rfl ?_; refine DJ.pass rfl rfl rfl rfl ?_; refine DJ.nil ?_; refine WL.pass rfl rfl rfl ?_; refine WL.pass rfl rfl rfl ?_; refine .o rfl ?_; refine WL.nil ?_
          exact Keff.intro ⟨rfl, rfl, rfl, rfl, rfl, congrArg (fun b => some (Value.bool b)) (by first | (simp [-List.getD_eq_getElem?_getD]; done) | (simp_all [-List.getD_eq_getElem?_getD]; done) | (simp [-List.getD_eq_getElem?_getD]; omega) | (rw [Bool.eq_iff_iff]; simp [-List.getD_eq_getElem?_getD]; omega) | (simp [-List.getD_eq_getElem?_getD] at *; omega)), trivial⟩ (by simp) (by repeat first | exact .refl _ | refine .cons _ ?_)
      · refine DJ.pass rfl rfl rfl rfl ?_
        refine DJ.pass rfl rfl rfl rfl ?_; refine DJ.pass rfl rfl rfl rfl ?_; refine DJ.pass rfl rfl rfl rfl ?_; refine DJ.pass rfl rfl rfl rfl ?_; refine DJ.pass rfl rfl rfl rfl ?_; refine DJ.pass rfl rfl rfl rfl ?_; refine .val [] (.opv rfl) rfl rfl rfl rfl ?_; refine .val [] (.opv rfl) rfl rfl rfl rfl ?_; refine DJ.pass rfl rfl rfl rfl ?_; refine DJ.pass rfl rfl rfl rfl ?_; refine DJ.pass rfl rfl rfl rfl ?_; refine DJ.pass rfl rfl rfl rfl ?_; refine DJ.pass rfl rfl rfl rfl ?_; refine DJ.pass rfl rfl rfl rfl ?_; refine DJ.pass rfl rfl rfl rfl ?_; refine DJ.nil ?_; refine WL.pass rfl rfl rfl ?_; refine WL.pass rfl rfl rfl ?_; refine .o rfl ?_; refine WL.nil ?_
        exact Keff.intro ⟨rfl, rfl, rfl, rfl, rfl, congrArg (fun b => some (Value.bool b)) (by first | (simp [-List.getD_eq_getElem?_getD]; done) | (simp_all [-List.getD_eq_getElem?_getD]; done) | (simp [-List.getD_eq_getElem?_getD]; omega) | (rw [Bool.eq_iff_iff]; simp [-List.getD_eq_getElem?_getD]; omega) | (simp [-List.getD_eq_getElem?_getD] at *; omega)), trivial⟩ (by simp) (by repeat first | exact .refl _ | refine .cons _ ?_)
    refine Kseq.go ?_
    refine W.cond rfl rfl (fun hb => ?_) (fun hb => ?_)
    · refine W.seq ?_
      refine W.region ?_; refine .o rfl ?_; refine WL.nil ?_; refine Kseq.go ?_
      refine W.ret ?_; refine Kblock.ret (Kseq.ret (Kloop.ret (Kblock.ret (Kseq.ret ?_)))); refine ⟨.inl rfl, [_], h, ⟨.tmp rfl, trivial⟩, (by repeat constructor), ?_⟩
      exact congrArg Value.bool (ex_iff.2 ⟨k, hkl, hb⟩).symm
    · refine W.skip (Kblock.normal (Kseq.go ?_))
      refine W.region ?_; refine .val (.incr rfl (by omega)) rfl rfl rfl ?_; refine .o rfl ?_; refine WL.nil ?_
      refine Kloop.next (k + 1) ⟨hkl, fun i hi => ?_⟩ (by omega) ⟨rfl, rfl, rfl, rfl, rfl, trivial⟩ (by simp) (by repeat first | exact .refl _ | refine .cons _ ?_)
      rcases Nat.lt_succ_iff_lt_or_eq.1 hi with h2 | rfl
      · exact hall i h2
      · exact hb
  · have : k = r.np := by omega
    subst this
    refine W.exit (Kseq.exit (Kloop.exit (Kblock.here (Kseq.go (W.seq ?_)))))
    refine W.region ?_; refine .o rfl ?_; refine WL.nil ?_; refine Kseq.go ?_
    refine W.ret ?_; refine ⟨.inl rfl, [_], h, ⟨.tmp rfl, trivial⟩, (by repeat constructor), ?_⟩
    exact congrArg Value.bool (ex_no.2 hall).symm
/-- verdict -/
theorem verdict6_any {h : Mem} {b : Nat} {v : Value} {r : House} {g : FuncId} [TC Try.prog g] {F : Course → Bool} {about : Int} (hV : ValidH r) (hw : IsWork6 h b v r)
    (hg : ∀ i, i < (ask6 r).length → ∀ m, MLe h m → FnV Try.prog g #[.pointer (some ⟨b, 0, none⟩), knownV r ((ask6 r).getD i default), vi about] m (.bool (F ((ask6 r).getD i default)))) :
    FnV Try.prog 33 #[.agg #[.func (.func g) #[] #[]], .pointer (some ⟨b, 0, none⟩), vi about] h (vi (verdictL (ask6 r) F)) := by
  have hnp := hV.np7
  have htn : r.tn ≤ 6 := hV.touchN
  obtain ⟨wv, pv, kv, tv, bv, sv, trv, rfl, hB, hArr⟩ := hw
  have hlb := IsArr.len hArr
  unfold maxLen at hlb
  refine FnR.val ?_
  refine FnR.of_W (n := 38) Try.func33 rfl rfl (Nat.le_of_ble_eq_true rfl) fun c hr hD hF => ?_
  refine W.seq ?_; refine W.region ?_
  refine WL.box rfl rfl rfl rfl (fun b3 => ?_)
  refine .o rfl ?_; refine WL.nil ?_
  refine Kseq.go (W.seq ?_)
  refine W.region ?_; refine .o rfl ?_; refine WL.nil ?_
  refine Kseq.go (W.seq (W.seq ?_))
  refine W.region ?_
  iterate 2 refine .o rfl ?_
  refine .val (.fieldAddrB rfl) rfl rfl rfl ?_; refine .val (.loadP rfl hB (by repeat constructor) rfl) rfl rfl rfl ?_; refine .val (.len rfl hArr) rfl rfl rfl ?_; refine .o rfl ?_; refine WL.nil ?_
  refine Kseq.go (W.block ?_)
  refine W.loop (σ := Nat) (fun k => [(1, .pointer (some ⟨b, 0, none⟩)), (2, vi about), (3, .pointer (some ⟨b3, 0, none⟩)), (7, .int .i64 ((((ask6 r).take k).countP F : Nat) : Int)), (13, trv), (14, .int .i64 ((ask6 r).length : Int)), (15, .int .i64 (k : Int))]) (fun _ => [h]) (fun _ => [.blk b3 #[.func (.func g) #[] #[]] 88])
    (fun k => k ≤ (ask6 r).length) (fun k => (ask6 r).length - k) 0 ⟨rfl, rfl, rfl, rfl, rfl, rfl, rfl, trivial⟩ (by simp) (.refl _) (Nat.zero_le _) ?_
  rintro k hk
  try dsimp only at hk ⊢
  have hcl : ((ask6 r).take k).countP F ≤ k := Nat.le_trans List.countP_le_length (by rw [List.length_take]; omega)
  refine W.seq ?_; refine W.region ?_; refine .o rfl ?_; refine WL.nil ?_
  refine Kseq.go (W.seq ?_)
  refine W.condD rfl rfl (fun hlt => ?_) (fun hge => ?_)
  · have hkl : k < (ask6 r).length := by omega
    have hfit := ask6_fit (getDc hkl)
    have hkn := knownL_len hfit hnp htn
    have htk : ((ask6 r).take (k + 1)).countP F = ((ask6 r).take k).countP F + if F ((ask6 r).getD k default) = true then 1 else 0 := by
      rw [take_succ_getD (d := default) hkl, List.countP_append, List.countP_singleton]
    refine W.skip (Kseq.go (W.seq (W.block (W.seq ?_))))
    refine W.region ?_; refine .val (.indexAddrN rfl rfl hArr hkl) rfl rfl rfl ?_; refine .val (.cast (.loadEA rfl hArr (by repeat constructor) hkl) (show _ = knownV r ((ask6 r).getD k default) from congrArg (fun x : List Value => Value.agg x.toArray) (range_getD hkn))) rfl rfl rfl ?_
    refine WL.alloc rfl rfl rfl (fun b9 => ?_)
    (refine WL.storeAll rfl (.head _) rfl rfl (by rw [List.size_toArray]; exact hkn) (by rfl) (knownL_one r _) ?_)
    refine WL.nil ?_
    refine Kseq.go (W.seq ?_)
    refine W.region ?_; refine .val (.fieldAddrB rfl) rfl rfl rfl ?_; refine .val (.loadB rfl (.tail _ (.head _)) rfl) rfl rfl rfl ?_; refine .o rfl ?_
    refine .val (.loadBW rfl (.head _) (by rw [List.size_toArray]; exact hkn)) rfl rfl rfl ?_
    refine .o rfl ?_; refine .val (.callC (first := #[]) (caps := #[]) (v := .bool (F ((ask6 r).getD k default))) rfl rfl (fun m hm => by simpa [-List.getD_eq_getElem?_getD] using hg k hkl m (by repeat first | exact hm.1 | replace hm := hm.2))) rfl rfl rfl ?_; refine WL.nil ?_; refine Kseq.go ?_
    refine W.cond rfl rfl (fun hb => ?_) (fun hb => ?_)
    · rw [if_pos hb] at htk
      refine W.region ?_; refine .o rfl ?_; refine .val (.incr rfl (by omega)) rfl rfl rfl ?_; refine .o rfl ?_; refine WL.nil ?_
      refine Kblock.normal (Kseq.go ?_)
      refine W.region ?_; refine .val (.incr rfl (by omega)) rfl rfl rfl ?_; refine .o rfl ?_; refine WL.nil ?_
      exact Kloop.next (k + 1) (by omega) (by omega) ⟨rfl, rfl, rfl, congrArg (fun x : Int => some (Value.int .i64 x)) (by rw [htk]), rfl, rfl, rfl, trivial⟩ (by simp) (by repeat first | exact .refl _ | refine .cons _ ?_)
    · rw [if_neg (by simpa using hb)] at htk
      refine W.skip (Kblock.normal (Kseq.go ?_))
      refine W.region ?_; refine .val (.incr rfl (by omega)) rfl rfl rfl ?_; refine .o rfl ?_; refine WL.nil ?_
      exact Kloop.next (k + 1) (by omega) (by omega) ⟨rfl, rfl, rfl, congrArg (fun x : Int => some (Value.int .i64 x)) (by rw [htk]; rfl), rfl, rfl, rfl, trivial⟩ (by simp) (by repeat first | exact .refl _ | refine .cons _ ?_)
  · have : k = (ask6 r).length := by omega
    subst this
    rw [List.take_length] at hcl ⊢
    refine W.exit (Kseq.exit (Kloop.exit (Kblock.here (Kseq.go (W.seq (W.seq ?_))))))
    refine W.region ?_; refine .o rfl ?_; refine WL.nil ?_
    refine Kseq.go (W.block (W.seq ?_))
    refine W.region ?_
    iterate 2 refine .o rfl ?_
    refine .val (.fieldAddrB rfl) rfl rfl rfl ?_; refine .val (.loadP rfl hB (by repeat constructor) rfl) rfl rfl rfl ?_; refine .val (.len rfl hArr) rfl rfl rfl ?_
    iterate 2 refine .o rfl ?_
    refine WL.nil ?_; refine Kseq.go ?_
    refine W.condD rfl rfl (fun he => ?_) (fun hne => ?_)
    · refine W.seq ?_
      refine W.region ?_; refine .o rfl ?_; refine WL.nil ?_; refine Kseq.go ?_
      refine W.ret ?_; refine Kblock.ret (Kseq.ret ?_); refine ⟨.inl rfl, [_], h, ⟨.tmp rfl, trivial⟩, (by repeat constructor), ?_⟩
      unfold verdictL
      rw [if_pos (by omega)]; rfl
    · refine W.seq ?_
      refine W.region ?_
      iterate 2 refine .o rfl ?_
      refine WL.nil ?_; refine Kseq.go ?_
      refine W.condD rfl rfl (fun he => ?_) (fun hne2 => ?_)
      · refine W.seq ?_
        refine W.region ?_; refine .o rfl ?_; refine WL.nil ?_; refine Kseq.go ?_
        refine W.ret ?_; refine Kblock.ret (Kseq.ret ?_); refine ⟨.inl rfl, [_], h, ⟨.tmp rfl, trivial⟩, (by repeat constructor), ?_⟩
        unfold verdictL
        rw [if_neg (by omega), if_pos (by omega)]; rfl
      · refine W.skip (Kblock.normal (Kseq.go (W.seq ?_)))
        refine W.region ?_; refine .o rfl ?_; refine WL.nil ?_; refine Kseq.go ?_
        refine W.ret ?_; refine ⟨.inl rfl, [_], h, ⟨.tmp rfl, trivial⟩, (by repeat constructor), ?_⟩
        unfold verdictL
        rw [if_neg (by omega), if_neg (by omega)]; rfl
/-- Carry -/
theorem carry6_any {h : Mem} {v : Value} {r : House} (hv : IsHouse h v r) (hs : SmH r) : FnR Try.prog 9 #[v] h (fun m q => ∃ lv, q = .tuple #[lv, vi (ask6E r true)] ∧ IsInts m lv (if ask6E r true = 0 then carry6 r else [])) := by
  have hv' := hv
  obtain ⟨wv, pv, kv, tv, bv, sv, f, rfl, hA⟩ := hv
  refine FnR.of_W (n := 30) Try.func9 rfl rfl (Nat.le_of_ble_eq_true rfl) fun c hr hD hF => ?_
  refine W.seq ?_; refine W.region ?_
  refine WL.box rfl rfl rfl rfl (fun b1 => ?_)
  iterate 2 refine .o rfl ?_
  refine WL.nil ?_
  refine Kseq.go (W.seq ?_)
  refine W.region ?_; refine .val (.loadBW rfl (.head _) rfl) rfl rfl rfl ?_; refine WL.abs (OpAbs.call rfl (fun m hm => asked6_any true (hv'.le (by repeat first | exact hm.1 | replace hm := hm.2)) hs)) rfl rfl rfl ?_
  rintro m10 _ (⟨hE, rfl⟩ | ⟨hV, hfine, hne, b, rfl, hwk⟩)
  · refine .o rfl ?_
    iterate 4 refine .o rfl ?_
    refine WL.nil ?_
    refine Kseq.go (W.seq (W.seq ?_))
    refine W.region ?_
    iterate 2 refine .o rfl ?_
    refine WL.nil ?_; refine Kseq.go ?_
    refine W.cond rfl rfl (fun he => ?_) (fun he => absurd he (by simp [hE]))
    refine W.seq ?_; refine W.region ?_
    iterate 3 refine .o rfl ?_
    refine WL.nil ?_; refine Kseq.go ?_
    refine W.ret ?_; refine Kseq.ret ?_; refine ⟨.inl rfl, [_, _], h, ⟨.tmp rfl, .tmp rfl, trivial⟩, (by repeat constructor), ?_⟩
    exact ⟨_, rfl, by rw [if_neg hE]; exact IsArr.nil _ _ _⟩
  · have hE : ask6E r true = 0 := by unfold ask6E; rw [fault6_zero.2 hV]; simp [hne]
    have h10 := hV.th.2.2
    iterate 5 refine .o rfl ?_
    refine WL.nil ?_
    refine Kseq.go (W.seq (W.seq ?_))
    refine W.region ?_
    iterate 2 refine .o rfl ?_
    refine WL.nil ?_; refine Kseq.go ?_
    refine W.cond rfl rfl (fun he => absurd he (by simp)) (fun he => ?_)
    refine W.skip (Kseq.go (W.seq ?_))
    refine W.region ?_; refine .o rfl ?_; refine WL.nil ?_
    refine Kseq.go (W.seq (W.seq ?_))
    refine W.region ?_; refine .val (.loadBW rfl (.head _) rfl) rfl rfl rfl ?_; refine .val (.cast (.call rfl (fun m hm => things6_any (hv'.le (by repeat first | exact hm.1 | replace hm := hm.2)))) (congrArg (Value.int .i64) hV.thW)) rfl rfl rfl ?_; refine .o rfl ?_; refine WL.nil ?_
    refine Kseq.go (W.block ?_)
    refine W.nilRow 3 1 ?_
    let F : Nat → Int := fun i => verdictL (ask6 r) (carryF r i)
    refine W.loop (σ := Nat × Value) (fun s => [(4, .pointer (some ⟨b, 0, none⟩)), (6, s.2), (17, .int .i64 (r.th : Int)), (18, .int .i64 (s.1 : Int))]) (fun _ => [m10, h]) (fun s => [ir 3 s.2 ((List.range s.1).map F)])
      (fun s => s.1 ≤ r.th) (fun s => r.th - s.1) (0, .slice none 0 0) ⟨rfl, rfl, rfl, rfl, trivial⟩ (by simp) (.cons_cons _ (List.nil_sublist _)) (Nat.zero_le _) ?_
    rintro ⟨k, a⟩ hk
    dsimp only at hk ⊢
    have hlen : ((List.range k).map F).length = k := by simp
    refine W.seq ?_; refine W.region ?_; refine .o rfl ?_; refine WL.nil ?_
    refine Kseq.go (W.seq ?_)
    refine W.condD rfl rfl (fun hlt => ?_) (fun hge => ?_)
    · have hkl : k < r.th := by omega
      refine W.skip (Kseq.go (W.seq (W.block (W.seq ?_))))
      refine W.region ?_
      iterate 2 refine .o rfl ?_
      refine WL.nil ?_; refine Kseq.go ?_; refine W.region ?_; refine .o rfl ?_; refine .val (.build1 rfl rfl) rfl rfl rfl ?_
      iterate 2 refine .o rfl ?_
      refine .val (.cast (.call rfl (fun m hm => verdict6_any (F := carryF r k) hV (hwk.le (by repeat first | exact hm.1 | replace hm := hm.2)) (fun i hi m' hm' => carries6_any hV (ask6_fit (getDc hi)) (by omega)))) (show _ = vi (F k) from rfl)) rfl rfl rfl ?_
      refine WL.abs (OpAbs.lit [_] rfl (Nat.le_of_ble_eq_true rfl) rfl rfl (by simp [Value.cells]) (Nat.le_of_ble_eq_true rfl) rfl (by first | (simp [Value.oneCell']; done) | exact List.all_eq_true.1 rfl)) rfl rfl rfl ?_
      rintro m26 _ ⟨hc26, a26, rfl⟩
      refine WL.appInt rfl (fun _ => (.head _)) rfl (by assumption) (by repeat constructor) (by omega) rfl rfl rfl ?_
      intro a27 cp27
      refine .o rfl ?_; refine WL.nil ?_
      refine Kblock.normal (Kseq.go ?_)
      refine W.region ?_; refine .val (.incr rfl (by omega)) rfl rfl rfl ?_; refine .o rfl ?_; refine WL.nil ?_
      refine Kloop.next (k + 1, .slice a27 (((List.range k).map F).length + 1) cp27) (by dsimp only; omega) (by dsimp only; omega) ⟨rfl, rfl, rfl, rfl, trivial⟩ (by simp) ?_
      dsimp only
      rw [List.range_succ, List.map_append]
      exact (by repeat first | exact .refl _ | refine .cons _ ?_)
    · have : k = r.th := by omega
      subst this
      refine W.exit (Kseq.exit (Kloop.exit (Kblock.here (Kseq.go (W.seq ?_)))))
      refine W.freezeInts (.head _) (fun b hb => (hF b hb).elim) fun mr hmr => ?_
      refine W.region ?_
      iterate 3 refine .o rfl ?_
      refine WL.nil ?_; refine Kseq.go ?_
      refine W.ret ?_; refine ⟨.inl rfl, [_, _], mr, ⟨.tmp rfl, .tmp rfl, trivial⟩, (by repeat constructor), ?_⟩
      exact ⟨_, by rw [hE]; rfl, by rw [if_pos hE]; exact hmr⟩
/-- Whose -/
theorem whose6_any {h : Mem} {v : Value} {r : House} (hv : IsHouse h v r) (hs : SmH r) : FnR Try.prog 10 #[v] h (fun m q => ∃ lv, q = .tuple #[lv, vi (ask6E r true)] ∧ IsInts m lv (if ask6E r true = 0 then whose6 r else [])) := by
  have hv' := hv
  obtain ⟨wv, pv, kv, tv, bv, sv, f, rfl, hA⟩ := hv
  have hW := hA.W
  refine FnR.of_W (n := 34) Try.func10 rfl rfl (Nat.le_of_ble_eq_true rfl) fun c hr hD hF => ?_
  refine W.seq ?_; refine W.region ?_
  refine WL.box rfl rfl rfl rfl (fun b1 => ?_)
  iterate 2 refine .o rfl ?_
  refine WL.nil ?_
  refine Kseq.go (W.seq ?_)
  refine W.region ?_; refine .val (.loadBW rfl (.head _) rfl) rfl rfl rfl ?_; refine WL.abs (OpAbs.call rfl (fun m hm => asked6_any true (hv'.le (by repeat first | exact hm.1 | replace hm := hm.2)) hs)) rfl rfl rfl ?_
  rintro m10 _ (⟨hE, rfl⟩ | ⟨hV, hfine, hne, b, rfl, hwk⟩)
  · refine .o rfl ?_
    iterate 4 refine .o rfl ?_
    refine WL.nil ?_
    refine Kseq.go (W.seq (W.seq ?_))
    refine W.region ?_
    iterate 2 refine .o rfl ?_
    refine WL.nil ?_; refine Kseq.go ?_
    refine W.cond rfl rfl (fun he => ?_) (fun he => absurd he (by simp [hE]))
    refine W.seq ?_; refine W.region ?_
    iterate 3 refine .o rfl ?_
    refine WL.nil ?_; refine Kseq.go ?_
    refine W.ret ?_; refine Kseq.ret ?_; refine ⟨.inl rfl, [_, _], h, ⟨.tmp rfl, .tmp rfl, trivial⟩, (by repeat constructor), ?_⟩
    exact ⟨_, rfl, by rw [if_neg hE]; exact IsArr.nil _ _ _⟩
  · have hE : ask6E r true = 0 := by unfold ask6E; rw [fault6_zero.2 hV]; simp [hne]
    have hwn := hV.table.women
    iterate 5 refine .o rfl ?_
    refine WL.nil ?_
    refine Kseq.go (W.seq (W.seq ?_))
    refine W.region ?_
    iterate 2 refine .o rfl ?_
    refine WL.nil ?_; refine Kseq.go ?_
    refine W.cond rfl rfl (fun he => absurd he (by simp)) (fun he => ?_)
    refine W.skip (Kseq.go (W.seq ?_))
    refine W.region ?_; refine .o rfl ?_; refine WL.nil ?_
    refine Kseq.go (W.seq (W.seq ?_))
    refine W.region ?_; refine .val (.fieldAddrB rfl) rfl rfl rfl ?_; refine .val (.fieldAddrB rfl) rfl rfl rfl ?_; refine .val (.loadB rfl (.head _) rfl) rfl rfl rfl ?_; refine .val (.len rfl hW) rfl rfl rfl ?_; refine .o rfl ?_; refine WL.nil ?_
    refine Kseq.go (W.block ?_)
    refine W.nilRow 3 1 ?_
    let G : Nat → Bool := fun w => !decide (verdictL (ask6 r) (harmF r w) = 2)
    refine W.loop (σ := Nat × Value) (fun s => [(4, .pointer (some ⟨b, 0, none⟩)), (6, s.2), (19, .int .i64 (r.table.women.length : Int)), (20, .int .i64 (s.1 : Int))]) (fun _ => [m10, h]) (fun s => [ir 3 s.2 (sel s.1 G)])
      (fun s => s.1 ≤ r.table.women.length) (fun s => r.table.women.length - s.1) (0, .slice none 0 0) ⟨rfl, rfl, rfl, rfl, trivial⟩ (by simp) (.cons_cons _ (List.nil_sublist _)) (Nat.zero_le _) ?_
    rintro ⟨k, a⟩ hk
    dsimp only at hk ⊢
    have hlen := sel_len k G
    refine W.seq ?_; refine W.region ?_; refine .o rfl ?_; refine WL.nil ?_
    refine Kseq.go (W.seq ?_)
    refine W.condD rfl rfl (fun hlt => ?_) (fun hge => ?_)
    · have hkl : k < r.table.women.length := by omega
      refine W.skip (Kseq.go (W.seq (W.block (W.seq ?_))))
      refine W.region ?_
      iterate 2 refine .o rfl ?_
      refine WL.nil ?_
      refine Kseq.go (W.seq ?_)
      refine W.region ?_; refine .val (.build1 rfl rfl) rfl rfl rfl ?_
      iterate 2 refine .o rfl ?_
      refine .val (.call rfl (fun m hm => verdict6_any (F := harmF r k) hV (hwk.le (by repeat first | exact hm.1 | replace hm := hm.2)) (fun i hi m' hm' => harmed6_any (k : Int) ((hv'.le (by repeat first | exact hm.1 | replace hm := hm.2)).le hm') hV ((hwk.le (by repeat first | exact hm.1 | replace hm := hm.2)).le hm') (ask6_fit (getDc hi))))) rfl rfl rfl ?_; refine .val (.cast (.opv rfl) (show _ = Value.bool (G k) from rfl)) rfl rfl rfl ?_; refine WL.nil ?_; refine Kseq.go ?_
      refine W.cond rfl rfl (fun hb => ?_) (fun hb => ?_)
      · skip
        refine W.region ?_
        iterate 2 refine .o rfl ?_
        refine WL.abs (OpAbs.lit [_] rfl (Nat.le_of_ble_eq_true rfl) rfl rfl (by simp [Value.cells]) (Nat.le_of_ble_eq_true rfl) rfl (by first | (simp [Value.oneCell']; done) | exact List.all_eq_true.1 rfl)) rfl rfl rfl ?_
        rintro m30 _ ⟨hc30, a30, rfl⟩
        refine WL.appInt rfl (fun _ => (.head _)) rfl (by assumption) (by repeat constructor) (by omega) rfl rfl rfl ?_
        intro a31 cp31
        refine .o rfl ?_; refine WL.nil ?_
        refine Kblock.normal (Kseq.go ?_)
        refine W.region ?_; refine .val (.incr rfl (by omega)) rfl rfl rfl ?_; refine .o rfl ?_; refine WL.nil ?_
        refine Kloop.next (k + 1, .slice a31 ((sel k G).length + 1) cp31) (by dsimp only; omega) (by dsimp only; omega) ⟨rfl, rfl, rfl, rfl, trivial⟩ (by simp) ?_
        dsimp only; rw [sel_yes (n := k) (p := G) hb]; exact (by repeat first | exact .refl _ | refine .cons _ ?_)
      · refine W.skip (Kblock.normal (Kseq.go ?_))
        refine W.region ?_; refine .val (.incr rfl (by omega)) rfl rfl rfl ?_; refine .o rfl ?_; refine WL.nil ?_
        refine Kloop.next (k + 1, a) (by dsimp only; omega) (by dsimp only; omega) ⟨rfl, rfl, rfl, rfl, trivial⟩ (by simp) ?_
        dsimp only; rw [sel_no (n := k) (p := G) hb]; exact (by repeat first | exact .refl _ | refine .cons _ ?_)
    · have : k = r.table.women.length := by omega
      subst this
      refine W.exit (Kseq.exit (Kloop.exit (Kblock.here (Kseq.go (W.seq ?_)))))
      refine W.freezeInts (.head _) (fun b hb => (hF b hb).elim) fun mr hmr => ?_
      refine W.region ?_
      iterate 3 refine .o rfl ?_
      refine WL.nil ?_; refine Kseq.go ?_
      refine W.ret ?_; refine ⟨.inl rfl, [_, _], mr, ⟨.tmp rfl, .tmp rfl, trivial⟩, (by repeat constructor), ?_⟩
      exact ⟨_, by rw [hE]; rfl, by rw [if_pos hE]; exact hmr⟩
end Go.Proofs.Ytdnbkjgbehakpaa

/- The program's functions of chapter 6: safe, at, row. -/
namespace Go.Proofs.Ytdnbkjgbehakpaa
open Go Go.Eng Go.RowKit

section
variable {P : Program} {n : Nat} {c : Cx P n} {l : List (Nat × Value)} {Ms : List Mem} {μ : List Res} {dst : Option Tmp} {t ty : TypeId} {pos : String} {af : Array Edge} {gd : Option (Nat × Bool)}
/-- An array of zeros. -/
theorem OpVal.buildZ {e : TypeId} {L size bytes k bytes' : Nat} {z z' : Value} [hu : TU P t (.array L e)] [hi : TI P t size bytes z] [he : TI P e k bytes' z'] :
    OpVal c ⟨dst, .build t #[], ty, pos, af, gd⟩ l Ms μ (.agg z.cells) :=
  OpVal.of_runs (by simp) (by simp) fun a w hh => by
    simp [execOp, Instr.build, hi.zero, run_underlying hu.u, he.sizeOf, Instr.fill]
end
def carB (s : Nat) : List Bool := (List.range 10).map s.testBit
theorem carC_vb (s : Nat) : carC s = ((carB s).map vb).toArray := by unfold carC carB; rw [List.map_map]; rfl
theorem carB_zero {r : House} {q : Course} {s : Nat} (h7 : r.np ≤ 7) (h : carB s = List.replicate 10 false) : safeB r q s = true := by
  refine safeB_iff.2 fun i hi hb => ?_
  have h1 : (carB s).getD i false = s.testBit i := by simp [carB, List.getD_eq_getElem?_getD, show i < 10 by omega]
  rw [h, List.getD_eq_getElem?_getD, List.getElem?_replicate, if_pos (by omega), Option.getD_some] at h1
  rw [hb] at h1; cases h1
/-- safe, the function within -/
theorem safeIn_any {h : Mem} {v : Value} {r : House} {q : Course} {more : List Boil} {b b2 b5 bm : Nat} (hv : IsHouse h v r) (hV : ValidH r) (hw : IsWork6 h b v r) (hf : FitC r q)
    (h2 : IsBox h b2 #[.pointer (some ⟨b, 0, none⟩)] 73) (h5 : IsBox h b5 #[.map (some bm)] 69) (hm : IsBm h bm (r.boiled ++ more)) :
    FnV Try.prog 55 #[knownV r q, .pointer (some ⟨b2, 0, none⟩), .pointer (some ⟨b5, 0, none⟩)] h (.bool (safeB r q (lastN r q more))) := by
  have hnp := hV.np7
  have htn : r.tn ≤ 6 := hV.touchN
  have hv' := hv
  obtain ⟨wv, pv, kv, tv, bv, sv, trv, rfl, hB, _⟩ := hw
  refine FnR.val ?_
  refine FnR.of_W (n := 41) Try.func55 rfl rfl (Nat.le_of_ble_eq_true rfl) fun c hr hD hF => ?_
  refine W.seq ?_; refine W.region ?_
  refine WL.box rfl rfl rfl rfl (fun b3 => ?_)
  refine .o rfl ?_; refine WL.nil ?_
  refine Kseq.go (W.seq ?_)
  refine W.draw2g 9 8 5 (fun b : Nat => Value.pointer (some ⟨b, 0, none⟩)) (fun b => [.blk b (Value.agg #[.bool false, .bool false, .bool false, .bool false, .bool false, .bool false, .bool false, .bool false, .bool false, .bool false]).cells 67, .blk b3 (knownL r q).toArray 114]) (by kernel_rfl) (by kernel_rfl) (by kernel_rfl) rfl rfl ?_; refine DJ2.val [] (.inr (OpVal.loadP rfl h2 (by repeat constructor) rfl)) (.inr (fun g => OpVal.loadP rfl h2 (by repeat constructor) rfl)) rfl (fun _ => rfl) rfl rfl rfl (fun _ => rfl) rfl ?_; refine DJ2.val [] (.inr (OpVal.opv rfl)) (.inr (fun g => OpVal.opv rfl)) rfl (fun _ => rfl) rfl rfl rfl (fun _ => rfl) rfl ?_; refine DJ2.val [] (.inr (OpVal.fieldAddrB rfl)) (.inr (fun g => OpVal.fieldAddrB rfl)) rfl (fun _ => rfl) rfl rfl rfl (fun _ => rfl) rfl ?_; refine DJ2.val [] (.inr (OpVal.loadPA (vs := [wv, pv, vi r.table.wrong, kv, vi r.others, vi r.last, tv, bv, sv]) rfl hB (by repeat constructor) rfl rfl)) (.inr (fun g => OpVal.loadPA (vs := [wv, pv, vi r.table.wrong, kv, vi r.others, vi r.last, tv, bv, sv]) rfl hB (by repeat constructor) rfl rfl)) rfl (fun _ => rfl) rfl rfl rfl (fun _ => rfl) rfl ?_
  refine DJ2.val [] (.inr (OpVal.fieldAddrB rfl)) (.inr (fun g => OpVal.fieldAddrB rfl)) rfl (fun _ => rfl) rfl rfl rfl (fun _ => rfl) rfl ?_; refine DJ2.val [] (.inr ((by first | exact OpVal.loadBA (vs := sceneL q) rfl (.head _) (known_scene hf hnp htn) (sceneL_len hf hnp htn) | exact OpVal.loadBA (vs := sceneL q) rfl (.tail _ (.head _)) (known_scene hf hnp htn) (sceneL_len hf hnp htn)))) (.inr (fun g => (by first | exact OpVal.loadBA (vs := sceneL q) rfl (.head _) (known_scene hf hnp htn) (sceneL_len hf hnp htn) | exact OpVal.loadBA (vs := sceneL q) rfl (.tail _ (.head _)) (known_scene hf hnp htn) (sceneL_len hf hnp htn)))) rfl (fun _ => rfl) rfl rfl rfl (fun _ => rfl) rfl ?_; refine DJ2.val [] (.inr (OpVal.loadP rfl h5 (by repeat constructor) rfl)) (.inr (fun g => OpVal.loadP rfl h5 (by repeat constructor) rfl)) rfl (fun _ => rfl) rfl rfl rfl (fun _ => rfl) rfl ?_; refine DJ2.val [] (.inr (OpVal.cast (.call rfl (fun m hm' => play_any (hv'.le (by repeat (first | exact hm'.1 | replace hm' := hm'.2))) hV hf (hm.le (by repeat (first | exact hm'.1 | replace hm' := hm'.2))))) (show _ = carV (lastN r q more) from rfl))) (.inr (fun g => OpVal.cast (.call rfl (fun m hm' => play_any (hv'.le (by repeat (first | exact hm'.1 | replace hm' := hm'.2))) hV hf (hm.le (by repeat (first | exact hm'.1 | replace hm' := hm'.2))))) (show _ = carV (lastN r q more) from rfl))) rfl (fun _ => rfl) rfl rfl rfl (fun _ => rfl) rfl ?_
  refine DJ2.eff [] trivial rfl rfl rfl (fun M2 hM2 => ?_) ?_
  · (refine WL.alloc rfl rfl rfl (fun b5 => ?_); exact WL.nil ⟨b5, Keff.intro (by repeat (first | exact trivial | refine ⟨rfl, ?_⟩)) (fun m hm => hm) (.refl _)⟩)
  refine DJ2.nil (fun g => ?_)
  (refine WL.storeAll rfl (.head _) rfl rfl (carC_size _) (by rfl) (carC_one _) ?_)
  refine WL.nil ?_
  refine Kseq.go (W.seq (W.seq ?_))
  obtain ⟨s, hs⟩ : ∃ s, lastN r q more = s := ⟨_, rfl⟩
  rw [hs]
  refine W.region ?_; refine .val (.cast (.loadBW rfl (.head _) (carC_size _)) (congrArg Value.agg (carC_vb s))) rfl rfl rfl ?_; refine .val (.cast OpVal.buildZ (show _ = Value.agg ((List.replicate 10 false).map vb).toArray from rfl)) rfl rfl rfl ?_; refine .val (.eqQ (N := 10) (enc := vb) rfl rfl (by simp [carB]) (by rfl)) rfl rfl rfl ?_; refine WL.nil ?_; refine Kseq.go ?_
  refine W.cond rfl rfl (fun he => ?_) (fun he => ?_)
  · refine W.seq ?_
    refine W.region ?_; refine .o rfl ?_; refine WL.nil ?_; refine Kseq.go ?_
    refine W.ret ?_; refine Kseq.ret ?_; refine ⟨.inl rfl, [_], h, ⟨.tmp rfl, trivial⟩, (by repeat constructor), ?_⟩
    exact congrArg Value.bool (carB_zero hnp (of_decide_eq_true he)).symm
  refine W.skip (Kseq.go (W.seq (W.seq ?_)))
  refine W.region ?_; refine .val (.loadP rfl h2 (by repeat constructor) rfl) rfl rfl rfl ?_; refine .o rfl ?_; refine .val (.fieldAddrB rfl) rfl rfl rfl ?_; refine .val (.loadPA (vs := [wv, pv, vi r.table.wrong, kv, vi r.others, vi r.last, tv, bv, sv]) rfl hB (by repeat constructor) rfl rfl) rfl rfl rfl ?_; refine .val (.call rfl (fun m hm => pieces6_any (hv'.le (by repeat first | exact hm.1 | replace hm := hm.2)))) rfl rfl rfl ?_; refine .o rfl ?_; refine WL.nil ?_
  refine Kseq.go (W.block ?_)
  refine W.loop (σ := Nat) (fun k => [(1, .pointer (some ⟨b2, 0, none⟩)), (3, .pointer (some ⟨b3, 0, none⟩)), (5, .pointer (some ⟨g, 0, none⟩)), (22, .int .i64 (r.np : Int)), (23, .int .i64 (k : Int))]) (fun _ => [h]) (fun _ => [.blk g (carC s) 67, .blk b3 (knownL r q).toArray 114])
    (fun k => k ≤ r.np ∧ ∀ i, i < k → (s.testBit i && !decide (q.owners.getD i 0 ∈ r.sick)) = false) (fun k => r.np - k) 0 ⟨rfl, rfl, rfl, rfl, rfl, trivial⟩ (by simp) (.refl _) ⟨Nat.zero_le _, fun i hi => absurd hi (Nat.not_lt_zero _)⟩ ?_
  rintro k ⟨hk, hall⟩
  refine W.seq ?_; refine W.region ?_; refine .o rfl ?_; refine WL.nil ?_
  refine Kseq.go (W.seq ?_)
  refine W.condD rfl rfl (fun hlt => ?_) (fun hge => ?_)
  · have hkl : k < r.np := by omega
    obtain ⟨tb, htb⟩ : ∃ tb, s.testBit k = tb := ⟨_, rfl⟩
    have hlast := (carC_get (s := s) (show k < 10 by omega)).trans (congrArg (fun b => some (Value.bool b)) htb)
    refine W.skip (Kseq.go (W.seq (W.block (W.seq ?_))))
    refine W.region ?_
    iterate 2 refine .o rfl ?_
    refine WL.nil ?_
    refine Kseq.go (W.seq ?_)
    refine W.toS [(1, .pointer (some ⟨b2, 0, none⟩)), (3, .pointer (some ⟨b3, 0, none⟩)), (5, .pointer (some ⟨g, 0, none⟩)), (22, .int .i64 (r.np : Int)), (23, .int .i64 (k : Int)), (39, .bool (s.testBit k && !decide (q.owners.getD k 0 ∈ r.sick)))] ?_ ?_
    · rw [htb]
      refine W.draw 11 (by kernel_rfl) (by kernel_rfl) (by kernel_rfl) rfl ?_; refine .val [] (.opv rfl) rfl rfl rfl rfl ?_; refine .val [] (.indexAddrB rfl rfl (show k < 10 by omega)) rfl rfl rfl rfl ?_; refine .val [] (.loadB rfl (.head _) hlast) rfl rfl rfl rfl ?_; refine .val [] (.opv rfl) rfl rfl rfl rfl ?_
      refine DJ.splitB rfl rfl (fun g29 => ?_) (fun g29 => ?_)
      · refine .val [] (.loadP rfl h2 (by repeat constructor) rfl) rfl rfl rfl rfl ?_
        refine .val [] (.opv rfl) rfl rfl rfl rfl ?_; refine .val [] (.fieldAddrB rfl) rfl rfl rfl rfl ?_; refine .val [] (.loadPA (vs := [wv, pv, vi r.table.wrong, kv, vi r.others, vi r.last, tv, bv, sv]) rfl hB (by repeat constructor) rfl rfl) rfl rfl rfl rfl ?_; refine .val [] (.fieldAddrB rfl) rfl rfl rfl rfl ?_; refine .val [] (.loadBA (vs := sceneL q) rfl (.tail _ (.head _)) (known_scene hf hnp htn) (sceneL_len hf hnp htn)) rfl rfl rfl rfl ?_; refine .val [] (.opv rfl) rfl rfl rfl rfl ?_; refine DJ.nil ?_; refine .val (.call rfl (fun m hm => sick_any (hv'.le (by repeat first | exact hm.1 | replace hm := hm.2)) hf hnp htn hkl)) rfl rfl rfl ?_
        iterate 2 refine .o rfl ?_
        refine WL.nil ?_
        exact Keff.intro ⟨rfl, rfl, rfl, rfl, rfl, congrArg (fun b => some (Value.bool b)) (by first | (simp [-List.getD_eq_getElem?_getD]; done) | (simp_all [-List.getD_eq_getElem?_getD]; done) | (simp [-List.getD_eq_getElem?_getD]; omega) | (rw [Bool.eq_iff_iff]; simp [-List.getD_eq_getElem?_getD]; omega) | (simp [-List.getD_eq_getElem?_getD] at *; omega)), trivial⟩ (by simp) (by repeat first | exact .refl _ | refine .cons _ ?_)
      · refine DJ.pass rfl rfl rfl rfl ?_
        refine DJ.pass rfl rfl rfl rfl ?_; refine DJ.pass rfl rfl rfl rfl ?_; refine DJ.pass rfl rfl rfl rfl ?_; refine DJ.pass rfl rfl rfl rfl ?_; refine DJ.pass rfl rfl rfl rfl ?_; refine DJ.pass rfl rfl rfl rfl ?_; refine DJ.nil ?_; refine WL.pass rfl rfl rfl ?_; refine WL.pass rfl rfl rfl ?_; refine .o rfl ?_; refine WL.nil ?_
        exact Keff.intro ⟨rfl, rfl, rfl, rfl, rfl, congrArg (fun b => some (Value.bool b)) (by first | (simp [-List.getD_eq_getElem?_getD]; done) | (simp_all [-List.getD_eq_getElem?_getD]; done) | (simp [-List.getD_eq_getElem?_getD]; omega) | (rw [Bool.eq_iff_iff]; simp [-List.getD_eq_getElem?_getD]; omega) | (simp [-List.getD_eq_getElem?_getD] at *; omega)), trivial⟩ (by simp) (by repeat first | exact .refl _ | refine .cons _ ?_)
    refine Kseq.go ?_
    refine W.cond rfl rfl (fun hb => ?_) (fun hb => ?_)
    · refine W.seq ?_
      refine W.region ?_; refine .o rfl ?_; refine WL.nil ?_; refine Kseq.go ?_
      refine W.ret ?_; refine Kblock.ret (Kseq.ret (Kloop.ret (Kblock.ret (Kseq.ret ?_)))); refine ⟨.inl rfl, [_], h, ⟨.tmp rfl, trivial⟩, (by repeat constructor), ?_⟩
      refine congrArg Value.bool ?_
      unfold safeB
      rw [ex_iff.2 ⟨k, hkl, hb⟩]; rfl
    · refine W.skip (Kblock.normal (Kseq.go ?_))
      refine W.region ?_; refine .val (.incr rfl (by omega)) rfl rfl rfl ?_; refine .o rfl ?_; refine WL.nil ?_
      refine Kloop.next (k + 1) ⟨hkl, fun i hi => ?_⟩ (by omega) ⟨rfl, rfl, rfl, rfl, rfl, trivial⟩ (by simp) (by repeat first | exact .refl _ | refine .cons _ ?_)
      rcases Nat.lt_succ_iff_lt_or_eq.1 hi with h2 | rfl
      · exact hall i h2
      · exact hb
  · have : k = r.np := by omega
    subst this
    refine W.exit (Kseq.exit (Kloop.exit (Kblock.here (Kseq.go (W.seq ?_)))))
    refine W.region ?_; refine .o rfl ?_; refine WL.nil ?_; refine Kseq.go ?_
    refine W.ret ?_; refine ⟨.inl rfl, [_], h, ⟨.tmp rfl, trivial⟩, (by repeat constructor), ?_⟩
    refine congrArg Value.bool ?_
    unfold safeB
    rw [ex_no.2 hall]; rfl
/-- safe -/
theorem safe6_any {h : Mem} {v mv : Value} {r : House} {more : List Boil} {b : Nat} (hv : IsHouse h v r) (hs : SmH r) (hV : ValidH r) (hw : IsWork6 h b v r) (hmo : IsBoils h mv more) (hml : more.length ≤ 1000) :
    FnV Try.prog 25 #[.pointer (some ⟨b, 0, none⟩), mv] h (.bool (safeL r (ask6 r) more)) := by
  have hnp := hV.np7
  have htn : r.tn ≤ 6 := hV.touchN
  have hv' := hv
  have hw' := hw
  obtain ⟨wv, pv, kv, tv, bv, sv, trv, rfl, hB, hArr⟩ := hw
  refine FnR.val ?_
  refine FnR.of_W (n := 18) Try.func25 rfl rfl (Nat.le_of_ble_eq_true rfl) fun c hr hD hF => ?_
  refine W.seq ?_; refine W.region ?_
  refine WL.box rfl rfl rfl rfl (fun b2 => ?_)
  refine .o rfl ?_; refine WL.nil ?_
  refine Kseq.go (W.seq ?_)
  refine W.freezeBox (.head _) (fun b hb => (hF b hb).elim) fun m2 h2 => ?_
  refine W.region ?_; refine .val (.loadP rfl h2 (by repeat constructor) rfl) rfl rfl rfl ?_; refine .o rfl ?_; refine .val (.fieldAddrB rfl) rfl rfl rfl ?_; refine .val (.loadPA (vs := [wv, pv, vi r.table.wrong, kv, vi r.others, vi r.last, tv, bv, sv]) rfl hB (by repeat constructor) rfl rfl) rfl rfl rfl ?_; refine .o rfl ?_
  (refine WL.abs (OpAbs.call rfl (fun m hm => boilings_any (hv'.le (by repeat first | exact hm.1 | replace hm := hm.2)) (hmo.le (by repeat first | exact hm.1 | replace hm := hm.2)) hs hml)) rfl rfl rfl ?_; rintro m11 _ ⟨bm, rfl, hm11⟩)
  refine WL.alloc rfl rfl rfl (fun b5 => ?_)
  refine WL.store [_] rfl (.head _) rfl rfl rfl (Nat.le_of_ble_eq_true rfl) (by first | (simp [Value.cells, Value.oneCell']; done) | exact IsArr.ones hW (by omega) | exact IsArr.ones hP (by omega) | exact IsArr.ones hS (by omega) | exact IsArr.ones hH (by omega) | exact IsArr.ones hL (by omega) | exact IsArr.ones hB (by omega) | exact IsArr.ones hT (by omega) | exact IsArr.ones hm (by omega)) rfl ?_
  refine WL.nil ?_
  refine Kseq.go (W.seq ?_)
  refine W.freezeBox (.head _) (fun b hb => (hF b hb).elim) fun m5 h5 => ?_
  refine W.join fun mj hj => ?_
  have hvj := hv'.le (hj h (by simp))
  have hwj := hw'.le (hj h (by simp))
  have h2j := h2.le (hj m2 (by simp))
  have h5j := h5.le (hj m5 (by simp))
  have hmj := hm11.le (hj m11 (by simp))
  refine W.region ?_; refine .val (.loadP rfl h2j (by repeat constructor) rfl) rfl rfl rfl ?_; refine .o rfl ?_; refine .val (.fieldAddrB rfl) rfl rfl rfl ?_; refine .val (.loadP rfl hB (by repeat constructor) rfl) rfl rfl rfl ?_; refine .o rfl ?_
  refine .val (.cast (.call rfl (fun m hm => all6K_any (fs := #[]) (cs := #[.pointer (some ⟨b2, 0, none⟩), .pointer (some ⟨b5, 0, none⟩)]) (p := fun i => safeB r ((ask6 r).getD i default) (lastN r ((ask6 r).getD i default) more)) (hArr.le (by repeat first | exact hm.1 | replace hm := hm.2)) (fun i hi m' hm' => by rw [range_getD (knownL_len (ask6_fit (getDc hi)) hnp htn)]; exact safeIn_any ((hvj.le (by repeat first | exact hm.1 | replace hm := hm.2)).le hm') hV ((hwj.le (by repeat first | exact hm.1 | replace hm := hm.2)).le hm') (ask6_fit (getDc hi)) ((h2j.le (by repeat first | exact hm.1 | replace hm := hm.2)).le hm') ((h5j.le (by repeat first | exact hm.1 | replace hm := hm.2)).le hm') ((hmj.le (by repeat first | exact hm.1 | replace hm := hm.2)).le hm')))) (show _ = Value.bool (safeL r (ask6 r) more) from rfl)) rfl rfl rfl ?_
  refine .o rfl ?_; refine WL.nil ?_; refine Kseq.go ?_
  refine W.ret ?_; refine ⟨.inl rfl, [_], h, ⟨.tmp rfl, trivial⟩, (by repeat constructor), ?_⟩
  rfl
/-- at -/
theorem at6_any {h : Mem} {lv : Value} {x : List Int} (hour : Int) (hl : IsInts h lv x) (hx : x.length ≤ 1000) : FnR Try.prog 26 #[lv, vi hour] h (fun m q => IsBoils m q (atL x hour)) := by
  refine FnR.of_W (n := 21) Try.func26 rfl rfl (Nat.le_of_ble_eq_true rfl) fun c hr hD hF => ?_
  refine W.seq ?_; refine W.region ?_; refine .o rfl ?_; refine WL.nil ?_
  refine Kseq.go (W.seq (W.seq ?_))
  refine W.region ?_; refine .o rfl ?_; refine .val (.len rfl hl) rfl rfl rfl ?_; refine .o rfl ?_; refine WL.nil ?_
  refine Kseq.go (W.block ?_)
  refine W.nilRow 106 2 ?_
  refine W.loop (σ := Nat × Value) (fun s => [(1, vi hour), (4, s.2), (7, lv), (8, .int .i64 (x.length : Int)), (9, .int .i64 (s.1 : Int))]) (fun _ => [h]) (fun s => [kr 106 2 s.2 ((atL (x.take s.1) hour).map bv2)])
    (fun s => s.1 ≤ x.length) (fun s => x.length - s.1) (0, .slice none 0 0) ⟨rfl, rfl, rfl, rfl, rfl, trivial⟩ (by simp) (.refl _) (Nat.zero_le _) ?_
  rintro ⟨k, a⟩ hk
  dsimp only at hk ⊢
  refine W.seq ?_; refine W.region ?_; refine .o rfl ?_; refine WL.nil ?_
  refine Kseq.go (W.seq ?_)
  refine W.condD rfl rfl (fun hlt => ?_) (fun hge => ?_)
  · have hkl : k < x.length := by omega
    have hln : ((atL (x.take k) hour).map bv2).length = k := by simp [atL]; omega
    have hnx : (atL (x.take (k + 1)) hour).map bv2 = (atL (x.take k) hour).map bv2 ++ [bv2 ⟨x.getD k 0, hour⟩] := by unfold atL; rw [take_succ_getD (d := 0) hkl]; simp
    refine W.skip (Kseq.go (W.seq (W.block (W.seq ?_))))
    refine W.region ?_; refine .val (.indexAddrN rfl rfl hl hkl) rfl rfl rfl ?_; refine .val (.loadE rfl hl (by repeat constructor) hkl (by omega)) rfl rfl rfl ?_; refine .o rfl ?_; refine WL.nil ?_; refine Kseq.go ?_; refine W.region ?_
    iterate 3 refine .o rfl ?_
    refine .val (.build2 rfl rfl) rfl rfl rfl ?_
    refine WL.abs (OpAbs.lit [_, _] rfl (Nat.le_of_ble_eq_true rfl) rfl rfl (by simp [Value.cells]) (Nat.le_of_ble_eq_true rfl) rfl (by first | (simp [Value.oneCell']; done) | exact List.all_eq_true.1 rfl)) rfl rfl rfl ?_
    rintro m17 _ ⟨hc17, a17, rfl⟩
    (refine WL.appK (bv2 ⟨x.getD k 0, hour⟩) rfl (fun _ => .head _) rfl hc17 (.head _) rfl rfl (Nat.le_of_ble_eq_true rfl) (by omega) (Nat.le_of_ble_eq_true rfl) rfl rfl rfl ?_; intro a18 c18)
    refine .o rfl ?_; refine WL.nil ?_
    refine Kblock.normal (Kseq.go ?_)
    refine W.region ?_; refine .val (.incr rfl (by omega)) rfl rfl rfl ?_; refine .o rfl ?_; refine WL.nil ?_
    exact Kloop.next (k + 1, .slice a18 (((atL (x.take k) hour).map bv2).length + 1) c18) (by dsimp only; omega) (by dsimp only; omega) ⟨rfl, rfl, rfl, rfl, rfl, trivial⟩ (by simp) (by dsimp only; rw [hnx]; exact (by repeat first | exact .refl _ | refine .cons _ ?_))
  · have : k = x.length := by omega
    subst this
    rw [List.take_length]
    refine W.exit (Kseq.exit (Kloop.exit (Kblock.here (Kseq.go (W.seq ?_)))))
    refine W.freezeK (.head _) (fun b hb => (hF b hb).elim) (by omega) (by intro u hu; obtain ⟨y, _, rfl⟩ := List.mem_map.1 hu; rfl) (by intro u hu y hy; obtain ⟨z, _, rfl⟩ := List.mem_map.1 hu; simp [bv2, Value.cells] at hy; rcases hy with rfl | rfl <;> rfl) fun mr hmr => ?_
    refine W.region ?_
    iterate 2 refine .o rfl ?_
    refine WL.nil ?_; refine Kseq.go ?_
    refine W.ret ?_; refine ⟨.inl rfl, [_], mr, ⟨.tmp rfl, trivial⟩, (by repeat constructor), ?_⟩
    exact boils_of hmr
/-- row -/
theorem row6_any {h : Mem} {lv : Value} {x : List Int} {hour : Int} (h0 : 0 ≤ hour ∧ hour ≤ 1000) (hl : IsInts h lv x) (hx : x.length ≤ 1000) : FnR Try.prog 30 #[lv, vi hour] h (fun m q => IsBoils m q (rowL x hour)) := by
  refine FnR.of_W (n := 24) Try.func30 rfl rfl (Nat.le_of_ble_eq_true rfl) fun c hr hD hF => ?_
  refine W.seq ?_; refine W.region ?_; refine .o rfl ?_; refine WL.nil ?_
  refine Kseq.go (W.seq (W.seq ?_))
  refine W.region ?_; refine .o rfl ?_; refine .val (.len rfl hl) rfl rfl rfl ?_; refine .o rfl ?_; refine WL.nil ?_
  refine Kseq.go (W.block ?_)
  let F : Nat → Boil := fun i => ⟨x.getD i 0, hour + (i : Int)⟩
  refine W.nilRow 106 2 ?_
  refine W.loop (σ := Nat × Value) (fun s => [(1, vi hour), (4, s.2), (7, lv), (8, .int .i64 (x.length : Int)), (9, .int .i64 (s.1 : Int))]) (fun _ => [h]) (fun s => [kr 106 2 s.2 (((List.range s.1).map F).map bv2)])
    (fun s => s.1 ≤ x.length) (fun s => x.length - s.1) (0, .slice none 0 0) ⟨rfl, rfl, rfl, rfl, rfl, trivial⟩ (by simp) (.refl _) (Nat.zero_le _) ?_
  rintro ⟨k, a⟩ hk
  dsimp only at hk ⊢
  refine W.seq ?_; refine W.region ?_; refine .o rfl ?_; refine WL.nil ?_
  refine Kseq.go (W.seq ?_)
  refine W.condD rfl rfl (fun hlt => ?_) (fun hge => ?_)
  · have hkl : k < x.length := by omega
    have hln : (((List.range k).map F).map bv2).length = k := by simp
    have hnx : ((List.range (k + 1)).map F).map bv2 = ((List.range k).map F).map bv2 ++ [bv2 ⟨x.getD k 0, hour + (k : Int)⟩] := by rw [List.range_succ]; simp [F]
    refine W.skip (Kseq.go (W.seq (W.block (W.seq ?_))))
    refine W.region ?_; refine .o rfl ?_; refine .val (.indexAddrN rfl rfl hl hkl) rfl rfl rfl ?_; refine .val (.loadE rfl hl (by repeat constructor) hkl (by omega)) rfl rfl rfl ?_
    iterate 2 refine .o rfl ?_
    refine WL.nil ?_; refine Kseq.go ?_; refine W.region ?_
    iterate 4 refine .o rfl ?_
    refine .val (.add rfl rfl (by omega) (by omega)) rfl rfl rfl ?_; refine .val (.build2 rfl rfl) rfl rfl rfl ?_
    refine WL.abs (OpAbs.lit [_, _] rfl (Nat.le_of_ble_eq_true rfl) rfl rfl (by simp [Value.cells]) (Nat.le_of_ble_eq_true rfl) rfl (by first | (simp [Value.oneCell']; done) | exact List.all_eq_true.1 rfl)) rfl rfl rfl ?_
    rintro m20 _ ⟨hc20, a20, rfl⟩
    (refine WL.appK (bv2 ⟨x.getD k 0, hour + (k : Int)⟩) rfl (fun _ => .head _) rfl hc20 (.head _) rfl rfl (Nat.le_of_ble_eq_true rfl) (by omega) (Nat.le_of_ble_eq_true rfl) rfl rfl rfl ?_; intro a21 c21)
    refine .o rfl ?_; refine WL.nil ?_
    refine Kblock.normal (Kseq.go ?_)
    refine W.region ?_; refine .val (.incr rfl (by omega)) rfl rfl rfl ?_; refine .o rfl ?_; refine WL.nil ?_
    exact Kloop.next (k + 1, .slice a21 ((((List.range k).map F).map bv2).length + 1) c21) (by dsimp only; omega) (by dsimp only; omega) ⟨rfl, rfl, rfl, rfl, rfl, trivial⟩ (by simp) (by dsimp only; rw [hnx]; exact (by repeat first | exact .refl _ | refine .cons _ ?_))
  · have : k = x.length := by omega
    subst this
    refine W.exit (Kseq.exit (Kloop.exit (Kblock.here (Kseq.go (W.seq ?_)))))
    refine W.freezeK (.head _) (fun b hb => (hF b hb).elim) (by omega) (by intro u hu; obtain ⟨y, _, rfl⟩ := List.mem_map.1 hu; rfl) (by intro u hu y hy; obtain ⟨z, _, rfl⟩ := List.mem_map.1 hu; simp [bv2, Value.cells] at hy; rcases hy with rfl | rfl <;> rfl) fun mr hmr => ?_
    refine W.region ?_
    iterate 2 refine .o rfl ?_
    refine WL.nil ?_; refine Kseq.go ?_
    refine W.ret ?_; refine ⟨.inl rfl, [_], mr, ⟨.tmp rfl, trivial⟩, (by repeat constructor), ?_⟩
    exact boils_of hmr
end Go.Proofs.Ytdnbkjgbehakpaa
