/- The statements' function Found; the statement SickTruth. -/
import Derived.Test.YtdnbkjgbehakpaaGreatT144
import Derived.Test.YtdnbkjgbehakpaaGreatT151
import Derived.Test.YtdnbkjgbehakpaaGreatT126
import Derived.Test.YtdnbkjgbehakpaaGreatPH1
namespace Go.Proofs.YtdnbkjgbehakpaaGreat
open Go Go.Eng Go.RowKit

theorem found_some {r : House} (hV : ValidH r) : 0 < (courses r).length := by
  obtain ⟨c, hc⟩ := List.exists_mem_of_ne_nil _ (scenes_some hV)
  exact List.length_pos_of_mem (hV.mem.2 hc)
theorem in_bits6 {s i W : Nat} (_ : s < 2 ^ W) (_ : W ≤ 60) (hi : i < 60) : decide ((i : Int) ∈ bits s) = s.testBit i := by
  rw [Bool.eq_iff_iff, decide_eq_true_eq, mem_bits]
  exact ⟨fun h => h.2, fun h => ⟨by omega, h⟩⟩
set_option maxHeartbeats 2000000 in
/-- Found -/
theorem found_any {h : Mem} {v wv0 : Value} {r : House} {wh : Nat} {ws : List Nat} (hv : IsHouse h v r) (hV : ValidH r) (hs : SmH r) (hw : wh < 65536) (hws : IsU16s h wv0 ws) : FnR Tryz.prog 69 #[v, .int .u16 wh, wv0] h (fun m q => ∃ xv cv c ss, q = .tuple #[xv, cv] ∧ IsHouse m xv (withSigns r ss) ∧ IsCourseV m cv c ∧ c ∈ scenes r ∧ SignsOf r c ss) := by
  have hv' := hv
  obtain ⟨wv, pv, kv, tv, bv, sv, f, rfl, hA⟩ := hv
  have hthw := hV.thW
  have hth := hV.th
  have hcp := found_some hV
  have hcl := courses_len6 hV
  have hil : wh % (courses r).length < (courses r).length := Nat.mod_lt _ hcp
  have hw6 : wordAt ws 0 % 6 ≤ 5 := by omega
  refine FnR.of_W (n := 59) Tryz.func69 rfl rfl (Nat.le_of_ble_eq_true rfl) fun c hr hD hF => ?_
  refine W.seq ?_; refine W.region ?_
  refine WL.box rfl rfl rfl rfl (fun b3 => ?_)
  refine WL.alloc rfl rfl rfl (fun b6 => ?_)
  refine WL.alloc rfl rfl rfl (fun b7 => ?_)
  refine WL.nil ?_
  refine Kseq.go (W.seq ?_)
  refine W.freezeBox (.tail _ (.tail _ (.head _))) (fun b hb => (hF b hb).elim) fun m3 h3 => ?_
  refine W.region ?_; refine .val (.loadPW rfl h3 (by repeat constructor) rfl) rfl rfl rfl ?_; refine WL.abs (OpAbs.call rfl (fun m hm => coursesR_any (hv'.le (by repeat first | exact hm.1 | replace hm := hm.2)) hV hs)) rfl rfl rfl ?_
  rintro m14 v14 h14
  refine .o rfl ?_; refine WL.nil ?_
  refine Kseq.go (W.seq ?_)
  obtain ⟨vs0, hvs0, hvA⟩ := h14
  have hci := hvs0.2 _ hil
  obtain ⟨c, hce⟩ : ∃ c, (courses r).getD (wh % (courses r).length) default = c := ⟨_, rfl⟩
  have hcm : c ∈ scenes r := hV.mem.1 (by rw [← hce]; exact getDc hil)
  have hfit := scene_fit hcm
  have hcL := lastN_lt hV hfit.owners []
  have hp10 : 2 ^ r.th ≤ 2 ^ 10 := Nat.pow_le_pow_right (by omega) hth.2.2
  rw [hce] at hci
  have hcv := hci
  obtain ⟨ov, hv2, eci, hO, hH⟩ := hci
  refine W.region ?_
  iterate 2 refine .o rfl ?_
  refine .val (.conv rfl (i64_in (by omega) (by omega))) rfl rfl rfl ?_; refine .o rfl ?_; refine .val (.len rfl hvA) rfl rfl rfl ?_; refine .val (.cast (.rem rfl rfl (by omega) (by omega)) (show vi ((wh : Int) % ((courses r).length : Int)) = vi ((wh % (courses r).length : Nat) : Int) from rfl)) rfl rfl rfl ?_; refine .val (.indexAddrN rfl rfl hvA hil) rfl rfl rfl ?_
  refine .val (.cast (.loadEA rfl hvA (by repeat constructor) hil) (show _ = Value.agg #[ov, hv2] from by simp only [eci]; rfl)) rfl rfl rfl ?_
  refine WL.alloc rfl rfl rfl (fun b9 => ?_)
  (refine WL.store [_, _] rfl (.head _) rfl rfl rfl (Nat.le_of_ble_eq_true rfl) (by simp [Value.cells]; exact ⟨IsArr.one hO, IsArr.one hH⟩) rfl ?_)
  refine WL.nil ?_
  refine Kseq.go (W.seq ?_)
  have hcq : IsCourseV m14 (.agg #[ov, hv2]) c := eci ▸ hcv
  refine W.freezeBox (.head _) (fun b hb => (hF b hb).elim) fun m9 h9 => ?_
  refine W.join fun mi hi => ?_
  have hvi := hv'.le (hi h (by simp))
  have hci := hcq.le (hi m14 (by simp))
  have hOi := IsInts.le hO (hi m14 (by simp))
  have hHi := IsInts.le hH (hi m14 (by simp))
  have h3i := h3.le (hi m3 (by simp))
  have h9i := h9.le (hi m9 (by simp))
  have hAi := hA.le (hi h (by simp))
  have hwsi := hws.le (hi h (by simp))
  clear h3 h9 hvA hcv hcq hO hH
  refine W.weaken [(2, wv0), (3, .pointer (some ⟨b3, 0, none⟩)), (6, .pointer (some ⟨b6, 0, none⟩)), (7, .pointer (some ⟨b7, 0, none⟩)), (9, .pointer (some ⟨b9, 0, none⟩))] [mi] [.blk b7 #[.slice none 0 0, .slice none 0 0] 76, .blk b6 #[.slice none 0 0, .slice none 0 0, .int .i64 0, .slice none 0 0, .int .i64 0, .int .i64 0, .slice none 0 0, .slice none 0 0, .slice none 0 0] 31] (by repeat (first | exact trivial | refine ⟨rfl, ?_⟩)) (by simp) (.refl _) ?_; refine W.region ?_; refine .val (.loadPW rfl h3i (by repeat constructor) rfl) rfl rfl rfl ?_
  refine WL.alloc rfl rfl rfl (fun b10 => ?_)
  (refine WL.store [wv, pv, vi r.table.wrong, kv, vi r.others, vi r.last, tv, bv, sv] rfl (.head _) rfl rfl rfl (Nat.le_of_ble_eq_true rfl) (by simp [Value.cells]; exact ⟨IsArr.one hAi.W, IsArr.one hAi.P, rfl, IsArr.one hAi.K, rfl, rfl, IsArr.one hAi.T, IsArr.one hAi.B, IsArr.one hAi.S⟩) rfl ?_)
  refine WL.nil ?_
  refine Kseq.go (W.seq ?_)
  refine W.region ?_; refine .val (.fieldAddrB rfl) rfl rfl rfl ?_
  (refine WL.store [_, _, _, _, _, _, _, _, _] rfl (.head _) rfl rfl rfl (Nat.le_of_ble_eq_true rfl) (by simp [Value.cells, Value.oneCell']) rfl ?_)
  refine WL.nil ?_
  refine Kseq.go (W.seq (W.seq ?_))
  refine W.region ?_; refine .o rfl ?_; refine WL.nil ?_
  refine Kseq.go (W.block ?_)
  refine W.nilRow 88 2 ?_; refine W.loop (σ := Nat × Value × List Sign) (fun s => [(2, wv0), (3, .pointer (some ⟨b3, 0, none⟩)), (6, .pointer (some ⟨b6, 0, none⟩)), (7, .pointer (some ⟨b7, 0, none⟩)), (9, .pointer (some ⟨b9, 0, none⟩)), (10, .pointer (some ⟨b10, 0, none⟩)), (11, vi (s.1 : Int))]) (fun _ => [mi]) (fun s => [kr 88 2 s.2.1 (s.2.2.map sv2), .blk b10 #[wv, pv, vi r.table.wrong, kv, vi r.others, vi r.last, tv, bv, s.2.1] 31, .blk b7 #[.slice none 0 0, .slice none 0 0] 76, .blk b6 #[.slice none 0 0, .slice none 0 0, .int .i64 0, .slice none 0 0, .int .i64 0, .int .i64 0, .slice none 0 0, .slice none 0 0, .slice none 0 0] 31]) (fun s => s.1 ≤ 5 ∧ s.2.2.length = s.1 ∧ ∀ t ∈ s.2.2, 0 ≤ t.thing ∧ t.thing < r.things ∧ t.carries = (lastN r c []).testBit t.thing.toNat) (fun s => 5 - s.1) (0, .slice none 0 0, []) ⟨rfl, rfl, rfl, rfl, rfl, rfl, rfl, trivial⟩ (by simp) (.refl _) ⟨Nat.zero_le _, rfl, fun _ hx => by cases hx⟩ ?_
  rintro ⟨i, a, ss⟩ ⟨hi5, hll, hall⟩
  dsimp only at hi5 hll hall ⊢
  have hN : (ss.map sv2).length = ss.length := by simp
  refine W.seq (W.seq ?_)
  refine W.toS [(2, wv0), (3, .pointer (some ⟨b3, 0, none⟩)), (6, .pointer (some ⟨b6, 0, none⟩)), (7, .pointer (some ⟨b7, 0, none⟩)), (9, .pointer (some ⟨b9, 0, none⟩)), (10, .pointer (some ⟨b10, 0, none⟩)), (11, vi (i : Int)), (34, .bool (decide (i < wordAt ws 0 % 6) && decide (0 < r.th)))] ?_ ?_
  · skip
    refine W.region ?_
    iterate 2 refine .o rfl ?_
    refine .val (.call (vs := [wv0, vi 0]) rfl (fun m hm => word6_any 0 (hwsi.le (by repeat first | exact hm.1 | replace hm := hm.2)))) rfl rfl rfl ?_; refine .val (.cast (.rem rfl rfl (by omega) (by omega)) (show _ = vi ((wordAt ws 0 % 6 : Nat) : Int) from rfl)) rfl rfl rfl ?_; refine .val (.cast (.opv rfl) (congrArg Value.bool (show _ = decide (i < wordAt ws 0 % 6) from decide_eq_decide.2 (by omega)))) rfl rfl rfl ?_; refine .o rfl ?_
    refine WL.split rfl rfl (fun g30 => ?_) (fun g30 => ?_)
    · refine .val (.loadPW rfl h3i (by repeat constructor) rfl) rfl rfl rfl ?_
      refine .val (.cast (.call rfl (fun m hm => thingsR_any (hvi.le (by repeat first | exact hm.1 | replace hm := hm.2)))) (congrArg (Value.int .i64) hthw)) rfl rfl rfl ?_; refine .val (.cast (.opv rfl) (congrArg Value.bool (show _ = decide (0 < r.th) from decide_eq_decide.2 (by omega)))) rfl rfl rfl ?_; refine .o rfl ?_; refine WL.nil ?_
      exact Keff.intro ⟨rfl, rfl, rfl, rfl, rfl, rfl, rfl, congrArg (fun b => some (Value.bool b)) (by first | exact (by first | (simp [-List.getD_eq_getElem?_getD]; done) | (simp_all [-List.getD_eq_getElem?_getD]; done) | (simp [-List.getD_eq_getElem?_getD]; omega) | (rw [Bool.eq_iff_iff]; simp [-List.getD_eq_getElem?_getD]; omega) | (simp [-List.getD_eq_getElem?_getD] at *; omega)) | (simp [*]; done) | (simp_all; done)), trivial⟩ (by simp) (by repeat first | exact .refl _ | refine .cons _ ?_)
    · refine WL.pass rfl rfl rfl ?_
      refine WL.pass rfl rfl rfl ?_; refine WL.pass rfl rfl rfl ?_; refine .o rfl ?_; refine WL.nil ?_
      exact Keff.intro ⟨rfl, rfl, rfl, rfl, rfl, rfl, rfl, congrArg (fun b => some (Value.bool b)) (by first | exact (by first | (simp [-List.getD_eq_getElem?_getD]; done) | (simp_all [-List.getD_eq_getElem?_getD]; done) | (simp [-List.getD_eq_getElem?_getD]; omega) | (rw [Bool.eq_iff_iff]; simp [-List.getD_eq_getElem?_getD]; omega) | (simp [-List.getD_eq_getElem?_getD] at *; omega)) | (simp [*]; done) | (simp_all; done)), trivial⟩ (by simp) (by repeat first | exact .refl _ | refine .cons _ ?_)
  refine Kseq.go ?_
  refine W.cond rfl rfl (fun hb => ?_) (fun hb => ?_)
  · simp only [Bool.and_eq_true, decide_eq_true_eq] at hb
    obtain ⟨hb1, hb3⟩ := hb
    have hxm : wordAt ws (i + 1) % r.th < r.th := Nat.mod_lt _ hb3
    have hbit := in_bits6 (i := wordAt ws (i + 1) % r.th) hcL (by omega) (by omega)
    refine W.skip (Kseq.go (W.seq (W.block (W.seq ?_))))
    refine W.draw 5 (by kernel_rfl) (by kernel_rfl) (by kernel_rfl) rfl ?_; refine .val [] (.opv rfl) rfl rfl rfl rfl ?_; refine .val [] (.opv rfl) rfl rfl rfl rfl ?_; refine .val [] (.incr rfl (by omega)) rfl rfl rfl rfl ?_; refine .val [] (.call rfl (fun m hm => word6_any (i + 1) (hwsi.le (by repeat first | exact hm.1 | replace hm := hm.2)))) rfl rfl rfl rfl ?_; refine .val [] (.loadPW rfl h3i (by repeat constructor) rfl) rfl rfl rfl rfl ?_; refine DJ.nil ?_; refine .val (.cast (.call rfl (fun m hm => thingsR_any (hvi.le (by repeat first | exact hm.1 | replace hm := hm.2)))) (congrArg (Value.int .i64) hthw)) rfl rfl rfl ?_; refine .val (.cast (.rem rfl rfl (by omega) (by omega)) (show _ = vi ((wordAt ws (i + 1) % r.th : Nat) : Int) from rfl)) rfl rfl rfl ?_; refine .o rfl ?_; refine WL.nil ?_; refine Kseq.go ?_
    generalize wordAt ws (i + 1) % r.th = n at *
    obtain ⟨tb, htb⟩ : ∃ tb, (lastN r c []).testBit n = tb := ⟨_, rfl⟩
    rw [htb] at hbit
    refine W.draw 11 (by kernel_rfl) (by kernel_rfl) (by kernel_rfl) rfl ?_; refine .val [] (.fieldAddrB rfl) rfl rfl rfl rfl ?_; refine .val [] (.loadB rfl (.tail _ (.head _)) rfl) rfl rfl rfl rfl ?_; refine .val [] (.opv rfl) rfl rfl rfl rfl ?_; refine .val [] (.loadPW rfl h3i (by repeat constructor) rfl) rfl rfl rfl rfl ?_; refine .val [] (.loadPW rfl h9i (by repeat constructor) rfl) rfl rfl rfl rfl ?_; refine .val [] (.call rfl (fun m hm => lastR_any (hvi.le (by repeat first | exact hm.1 | replace hm := hm.2)) hV (hci.le (by repeat first | exact hm.1 | replace hm := hm.2)) hfit.owners hfit.hours (IsBoils.nil m) (by simp))) rfl rfl rfl rfl ?_; refine DJ.abs (A := fun m q => IsInts m q (bits (lastN r c []))) [] (OpAbs.call rfl (fun m hm => bits_any (by omega))) rfl rfl rfl rfl ?_; refine .val [] (.opv rfl) rfl rfl rfl rfl ?_
    refine DJ.val [(50, fun m q => IsInts m q (bits (lastN r c [])))] (fun m50 v50 h50 => OpVal.cast (.call rfl (fun m hm => has_any _ (h50.le (by repeat first | exact hm.1 | replace hm := hm.2)))) (congrArg Value.bool hbit)) rfl rfl rfl rfl ?_ (hG := ⟨(by repeat constructor), rfl, trivial⟩)
    refine .val [] (.build2 rfl rfl) rfl rfl rfl rfl ?_; refine DJ.abs (A := fun m q => IsCells m 2 q 1 [vi (n : Int), .bool tb]) [] (OpAbs.mono (OpAbs.lit [vi (n : Int), .bool tb] rfl (Nat.le_of_ble_eq_true rfl) rfl rfl (by simp [Value.cells]) (Nat.le_of_ble_eq_true rfl) rfl (by simp [Value.oneCell'])) (fun m' v' h' => h'.1)) rfl rfl rfl rfl ?_; refine DJ.nil ?_
    rintro m54 v54 h54
    rintro m50 v50 h50
    (refine WL.appK (sv2 ⟨n, tb⟩) rfl (fun _ => .head _) rfl h54 (by repeat constructor) rfl rfl (by omega) (by omega) (Nat.le_of_ble_eq_true rfl) rfl rfl rfl ?_; intro a55 c55)
    refine .val (.fieldAddrB rfl) rfl rfl rfl ?_
    (refine WL.store [_, _, _, _, _, _, _, _, _] rfl (.tail _ (.head _)) rfl rfl rfl (Nat.le_of_ble_eq_true rfl) (by simp [Value.cells, Value.oneCell']) rfl ?_)
    refine WL.nil ?_
    refine Kblock.normal (Kseq.go ?_)
    refine W.region ?_; refine .o rfl ?_; refine .val (.incr rfl (by omega)) rfl rfl rfl ?_; refine .o rfl ?_; refine WL.nil ?_
    refine Kloop.next (i + 1, .slice a55 ((ss.map sv2).length + 1) c55, ss ++ [⟨n, tb⟩]) ⟨by dsimp only; omega, by dsimp only; rw [List.length_append]; simp; omega, fun t ht => ?_⟩ (by dsimp only; omega) ⟨rfl, rfl, rfl, rfl, rfl, rfl, rfl, trivial⟩ (by simp) ?_
    · rcases List.mem_append.1 ht with h1 | h1
      · exact hall t h1
      · rw [List.mem_singleton] at h1
        subst h1
        exact ⟨by dsimp only; omega, by dsimp only; omega, htb.symm⟩
    · dsimp only
      rw [List.map_append]
      exact (by repeat first | exact .refl _ | refine .cons _ ?_)
  refine W.exit (Kseq.exit (Kloop.exit (Kblock.here (Kseq.go (W.seq ?_)))))
  refine W.freezeK (.head _) (fun b hb => (hF b hb).elim) (by simp) (by simp [sv2, Value.cells]) (by simp [sv2, Value.cells, Value.oneCell']) fun ms hms => ?_
  have hss := signs_of hms
  clear hms
  obtain ⟨sa, sc, rfl⟩ := IsArr.form hss
  refine W.freezeBox (.head _) (fun b hb => (hF b hb).elim) fun m10 h10 => ?_
  refine W.join fun mj hj => ?_
  have hAj := hAi.le (hj mi (by simp))
  have hX : IsHouse mj (.agg #[wv, pv, vi r.table.wrong, kv, vi r.others, vi r.last, tv, bv, .slice sa ss.length sc]) (withSigns r ss) := ⟨wv, pv, kv, tv, bv, _, f, rfl, ⟨hAj.W, hAj.P, hAj.M, hAj.K, hAj.T, hAj.B, hss.le (hj ms (by simp))⟩⟩
  have hcj := hci.le (hj mi (by simp))
  have hOj := IsInts.le hOi (hj mi (by simp))
  have hHj := IsInts.le hHi (hj mi (by simp))
  have h9j := h9i.le (hj mi (by simp))
  have h10j := h10.le (hj m10 (by simp))
  have hsone := IsArr.one (hss.le (hj ms (by simp)))
  let l0 : List (Nat × Value) := [(6, .pointer (some ⟨b6, 0, none⟩)), (7, .pointer (some ⟨b7, 0, none⟩)), (9, .pointer (some ⟨b9, 0, none⟩)), (10, .pointer (some ⟨b10, 0, none⟩))]
  refine W.weaken l0 [mj] [.blk b7 #[.slice none 0 0, .slice none 0 0] 76, .blk b6 #[.slice none 0 0, .slice none 0 0, .int .i64 0, .slice none 0 0, .int .i64 0, .int .i64 0, .slice none 0 0, .slice none 0 0, .slice none 0 0] 31] (by repeat (first | exact trivial | refine ⟨rfl, ?_⟩)) (by simp) (.refl _) ?_; refine W.drawN (γ := Ph1 Unit) .a 3 [2] (Ph1.sel l0 (fun _ => l0)) (Ph1.sel [.blk b7 #[.slice none 0 0, .slice none 0 0] 76, .blk b6 #[.slice none 0 0, .slice none 0 0, .int .i64 0, .slice none 0 0, .int .i64 0, .int .i64 0, .slice none 0 0, .slice none 0 0, .slice none 0 0] 31] (fun _ => [.blk b7 #[.slice none 0 0, .slice none 0 0] 76, .blk b6 #[wv, pv, vi r.table.wrong, kv, vi r.others, vi r.last, tv, bv, .slice sa ss.length sc] 31])) Ph1.num (by kernel_rfl) (by kernel_rfl) (by kernel_rfl) rfl Ph1.le (Ph1.all rfl (fun _ => rfl)) rfl rfl ?_; refine DJN.val [] (Ph1.all (fun hg => OpVal.loadPW rfl h10j (by repeat constructor) rfl) (fun x1 hg => Bool.noConfusion (show false = true from hg))) (Ph1.all (fun hg => rfl) (fun x1 hg => Bool.noConfusion (show false = true from hg))) rfl rfl (Ph1.all rfl (fun _ => rfl)) rfl ?_
  refine DJN.val [] (Ph1.all (fun hg => OpVal.loadPW rfl h9j (by repeat constructor) rfl) (fun x1 hg => OpVal.loadPW rfl h9j (by repeat constructor) rfl)) (Ph1.all (fun hg => rfl) (fun x1 hg => rfl)) rfl rfl (Ph1.all rfl (fun _ => rfl)) rfl ?_; refine DJN.eff 0 [(57, _)] ⟨rfl, trivial⟩ rfl rfl [] trivial (Ph1.all (fun hg => ⟨rfl, fun M2 hM2 => ?_⟩) (fun x1 hg => absurd hg (by simp [Ph1.num]))) ?_
  · (refine WL.store [wv, pv, vi r.table.wrong, kv, vi r.others, vi r.last, tv, bv, .slice sa ss.length sc] rfl (.tail _ (.head _)) rfl rfl rfl (Nat.le_of_ble_eq_true rfl) (by simp [Value.cells]; exact ⟨IsArr.one hAj.W, IsArr.one hAj.P, rfl, IsArr.one hAj.K, rfl, rfl, IsArr.one hAj.T, IsArr.one hAj.B, rfl⟩) rfl ?_; exact WL.nil ⟨.b (), rfl, Keff.intro (by repeat (first | exact trivial | refine ⟨rfl, ?_⟩)) (fun x hx => hx) (.refl _)⟩)
  refine DJN.nil (Ph1.all (fun hg => absurd hg (by simp [Ph1.num])) (fun x1 hg => ?_))
  (refine WL.store [ov, hv2] rfl (.head _) rfl rfl rfl (Nat.le_of_ble_eq_true rfl) (by simp [Value.cells]; exact ⟨IsArr.one hOj, IsArr.one hHj⟩) rfl ?_)
  refine WL.nil ?_; refine Kseq.go ?_
  refine W.ret ?_; skip
  refine ⟨.inl rfl, [_, _], mj, ⟨.agg inferInstance inferInstance rfl (.tail _ (.head _)) rfl, .agg inferInstance inferInstance rfl (.head _) rfl, trivial⟩, .head _, ?_⟩
  exact ⟨_, _, c, ss, rfl, hX, hcj, hcm, by omega, hall⟩
set_option maxHeartbeats 4000000 in
/-- SickTruth -/
theorem sickTruth_any {h : Mem} {v wv0 : Value} {r : House} {wh n : Nat} {ws : List Nat} (hv : IsHouse h v r) (hw : wh < 65536) (hws : IsU16s h wv0 ws) (hn : n < 256) : FnV Tryz.prog 16 #[v, .int .u16 wh, wv0, .int .u8 n] h (.bool true) := by
  have hv' := hv
  obtain ⟨wv, pv, kv, tv, bv, sv, f, rfl, hA⟩ := hv
  have hK := hA.K
  refine FnR.val ?_
  refine FnR.of_W (n := 239) Tryz.func16 rfl rfl (Nat.le_of_ble_eq_true rfl) fun c hr hD hF => ?_
  refine W.seq ?_; refine W.region ?_
  refine WL.box rfl rfl rfl rfl (fun b4 => ?_)
  refine .o rfl ?_; refine WL.nil ?_
  refine Kseq.go (W.seq (W.seq ?_))
  refine W.freezeBox (.head _) (fun b hb => (hF b hb).elim) fun m4 h4 => ?_
  cases hR : ready6 r with
  | false =>
    refine W.region ?_; refine .val (.loadPW rfl h4 (by repeat constructor) rfl) rfl rfl rfl ?_; refine .val (.cast (.call rfl (fun m hm => ready6_any (hv'.le (by repeat first | exact hm.1 | replace hm := hm.2)))) (congrArg Value.bool hR)) rfl rfl rfl ?_; refine .o rfl ?_; refine WL.nil ?_; refine Kseq.go ?_; refine W.condT rfl rfl ?_; refine W.seq ?_; refine W.region ?_; refine .val (.call rfl (fun m hm => awake6_any)) rfl rfl rfl ?_; refine .o rfl ?_; refine WL.nil ?_; refine Kseq.go ?_
    refine W.ret ?_; refine Kseq.ret ?_; refine ⟨.inl rfl, [_], h, ⟨.tmp rfl, trivial⟩, (by repeat constructor), ?_⟩
    rfl
  | true =>
  obtain ⟨hV, hs, hf0, _⟩ := ready6_iff hR
  have hla := hV.last
  obtain ⟨L, hL⟩ : ∃ L : Nat, r.last = (L : Int) := ⟨r.last.toNat, by omega⟩
  have hk : n % (L + 1) < L + 1 := Nat.mod_lt _ (by omega)
  refine W.region ?_; refine .val (.loadPW rfl h4 (by repeat constructor) rfl) rfl rfl rfl ?_; refine .val (.cast (.call rfl (fun m hm => ready6_any (hv'.le (by repeat first | exact hm.1 | replace hm := hm.2)))) (congrArg Value.bool hR)) rfl rfl rfl ?_; refine .o rfl ?_; refine WL.nil ?_; refine Kseq.go ?_; refine W.condF rfl rfl ?_
  refine W.skip (Kseq.go (W.seq ?_))
  refine W.region ?_; refine .val (.loadPW rfl h4 (by repeat constructor) rfl) rfl rfl rfl ?_
  iterate 2 refine .o rfl ?_
  refine WL.abs (OpAbs.call rfl (fun m hm => found_any (hv'.le (by repeat first | exact hm.1 | replace hm := hm.2)) hV hs hw (hws.le (by repeat first | exact hm.1 | replace hm := hm.2)))) rfl rfl rfl ?_
  rintro m36 _ ⟨xv, cv, c, ss, rfl, hX, hC, hcm, hS⟩
  have hX' := hX
  have hC' := hC
  obtain ⟨xw, xp, xk, xt, xb, xs, xf, rfl, hXA⟩ := hX'
  obtain ⟨ov, hv2, rfl, hO, hH⟩ := hC'
  iterate 3 refine .o rfl ?_
  refine WL.alloc rfl rfl rfl (fun b9 => ?_)
  refine WL.alloc rfl rfl rfl (fun b10 => ?_)
  (refine WL.store [xw, xp, vi (withSigns r ss).table.wrong, xk, vi (withSigns r ss).others, vi (withSigns r ss).last, xt, xb, xs] rfl (.tail _ (.head _)) rfl rfl rfl (Nat.le_of_ble_eq_true rfl) (by simp [Value.cells]; exact ⟨IsArr.one hXA.W, IsArr.one hXA.P, rfl, IsArr.one hXA.K, rfl, rfl, IsArr.one hXA.T, IsArr.one hXA.B, IsArr.one hXA.S⟩) rfl ?_)
  (refine WL.store [ov, hv2] rfl (.head _) rfl rfl rfl (Nat.le_of_ble_eq_true rfl) (by simp [Value.cells]; exact ⟨IsArr.one hO, IsArr.one hH⟩) rfl ?_)
  refine WL.nil ?_
  refine Kseq.go (W.seq ?_)
  refine W.freezeBox (.head _) (fun b hb => (hF b hb).elim) fun m10 h10 => ?_
  refine W.freezeBox (.head _) (fun b hb => (hF b hb).elim) fun m9 h9 => ?_
  refine W.join fun mi hi => ?_
  have hvi := hv'.le (hi h (by simp))
  have hxi := hX.le (hi m36 (by simp))
  have hci := hC.le (hi m36 (by simp))
  have hOi := IsInts.le hO (hi m36 (by simp))
  have hKi := IsInts.le hK (hi h (by simp))
  have h4i := h4.le (hi m4 (by simp))
  have h9i := h9.le (hi m9 (by simp))
  have h10i := h10.le (hi m10 (by simp))
  clear h4 h9 h10 hX hC hO hH hXA
  refine W.weaken [(3, .int .u8 (n : Int)), (4, .pointer (some ⟨b4, 0, none⟩)), (9, .pointer (some ⟨b9, 0, none⟩)), (10, .pointer (some ⟨b10, 0, none⟩))] [mi] [] (by repeat (first | exact trivial | refine ⟨rfl, ?_⟩)) (by simp) (List.nil_sublist _) ?_; refine W.region ?_; refine .o rfl ?_; refine .val (.conv rfl (i64_in (by omega) (by omega))) rfl rfl rfl ?_; refine .val (.fieldAddrB rfl) rfl rfl rfl ?_; refine .val (.cast (.loadP rfl h4i (by repeat constructor) rfl) (congrArg (Value.int .i64) hL)) rfl rfl rfl ?_; refine .val (.cast (.add rfl rfl (by omega) (by omega)) (show _ = vi ((L + 1 : Nat) : Int) from rfl)) rfl rfl rfl ?_; refine .val (.cast (.rem rfl rfl (by omega) (by omega)) (show vi ((n : Int) % ((L + 1 : Nat) : Int)) = vi ((n % (L + 1) : Nat) : Int) from rfl)) rfl rfl rfl ?_; refine .o rfl ?_; refine WL.nil ?_
  refine Kseq.go (W.seq ?_)
  generalize n % (L + 1) = k at *
  have hkl : (k : Int) ≤ r.last := by omega
  have hVx := found_valid hV hS
  have hsx : SmH (withSigns r ss) := ⟨hs.table, hs.sick, hs.touches, hs.boiled, Nat.le_trans hS.1 (by omega)⟩
  have hfx : fault6 (withSigns r ss) = 0 := fault6_zero.2 hVx
  have hEx := found_E hV hcm hS
  have hne := (ask6E_iff.1 hEx).2.2
  have hih : isHour (withSigns r ss) (k : Int) = true := isHour_iff.2 ⟨Int.natCast_nonneg _, hkl⟩
  have hlv := found_leave hV hcm hS
  have hfi := found_first hV hcm hS
  have hpl := found_play hV hcm hS
  have hfit := scene_fit hcm
  have hol : c.owners.length = r.np := hfit.owners
  have hhl : c.hours.length = r.touches.length := hfit.hours
  have htn := hV.touchN
  have hnp := hV.table.pieces
  have hthw := hV.thW
  have hth := hV.th
  have htruth : truth6B (withSigns r ss) c = true := by
    unfold truth6B rightC
    rw [decide_eq_true hfx, courseB_iff.2 (mem_scenes.1 (show c ∈ scenes (withSigns r ss) from hcm)), show rightBut6 (withSigns r ss).signs (lastN (withSigns r ss) c []) [] = true from found_right (h := r) hS ss fun _ h => h]
    rfl
  obtain ⟨x, hx1, hx2⟩ := boil6_least hVx (hour := k) hkl
  have hxl : x.length ≤ r.th := inc_zero_len hx2.inc
  have hrise : risingB x r.things = true := inc_rising hx2.inc hth.1.symm
  have hsafe1 := found_safe hcm hS hx2.is
  have hO := ordE_eq hVx (hour := k) hkl
  rw [if_neg hne] at hO
  have hcar := fun t (ht : t < r.th) => found_verdict hcm hS ht
  have hwho := fun t (ht : t < r.np) hb hsk => found_whose hcm hS ht hb hsk
  have hcL := lastN_lt hV hol []
  have hUl : (carry6 (withSigns r ss)).length = r.th := carry6_len _
  refine W.region ?_; refine .val (.loadPW rfl h9i (by repeat constructor) rfl) rfl rfl rfl ?_; refine WL.abs (OpAbs.call rfl (fun m hm => houseL_any (hxi.le (by repeat first | exact hm.1 | replace hm := hm.2)) hsx)) rfl rfl rfl ?_
  rintro m47 v47 h47
  refine WL.abs (OpAbs.call rfl (fun m hm => carry6_any (h47.le (by repeat first | exact hm.1 | replace hm := hm.2)) hsx)) rfl rfl rfl ?_
  rintro m48 _ ⟨lv1, rfl, hl1⟩
  rw [hEx, if_pos rfl] at hl1
  rw [hEx]
  iterate 5 refine .o rfl ?_
  refine WL.nil ?_
  refine Kseq.go (W.seq ?_)
  refine W.region ?_; refine .val (.loadPW rfl h9i (by repeat constructor) rfl) rfl rfl rfl ?_; refine WL.abs (OpAbs.call rfl (fun m hm => houseL_any (hxi.le (by repeat first | exact hm.1 | replace hm := hm.2)) hsx)) rfl rfl rfl ?_
  rintro m53 v53 h53
  refine WL.abs (OpAbs.call rfl (fun m hm => whose6_any (h53.le (by repeat first | exact hm.1 | replace hm := hm.2)) hsx)) rfl rfl rfl ?_
  rintro m54 _ ⟨lv2, rfl, hl2⟩
  rw [hEx, if_pos rfl] at hl2
  rw [hEx]
  iterate 5 refine .o rfl ?_
  refine WL.nil ?_
  refine Kseq.go (W.seq ?_)
  refine W.join fun mj hj => ?_
  have g1 := hl1.le (hj _ (by simp))
  have g2 := hl2.le (hj _ (by simp))
  have hvj := hvi.le (hj mi (by simp))
  have hxj := hxi.le (hj mi (by simp))
  have hcj := hci.le (hj mi (by simp))
  have hOj := IsInts.le hOi (hj mi (by simp))
  have hKj := IsInts.le hKi (hj mi (by simp))
  have h4j := h4i.le (hj mi (by simp))
  have h9j := h9i.le (hj mi (by simp))
  have h10j := h10i.le (hj mi (by simp))
  clear hl1 hl2 h47 h53
  refine W.weaken [(4, .pointer (some ⟨b4, 0, none⟩)), (9, .pointer (some ⟨b9, 0, none⟩)), (10, .pointer (some ⟨b10, 0, none⟩)), (11, vi (k : Int)), (12, lv1), (13, vi 0), (14, lv2), (15, vi 0)] [mj] [] (by repeat (first | exact trivial | refine ⟨rfl, ?_⟩)) (by simp) (List.nil_sublist _) ?_; refine W.draw 9 (by kernel_rfl) (by kernel_rfl) (by kernel_rfl) rfl ?_; refine .val [] (.loadPW rfl h9j (by repeat constructor) rfl) rfl rfl rfl rfl ?_; refine DJ.abs (A := fun m x => IsHouse m x (withSigns r ss)) [] (OpAbs.call rfl (fun m hm => houseL_any (hxj.le (by repeat first | exact hm.1 | replace hm := hm.2)) hsx)) rfl rfl rfl rfl ?_; refine .val [] (.loadPW rfl h10j (by repeat constructor) rfl) rfl rfl rfl rfl ?_; refine DJ.abs (A := fun m x => IsCourseV m x c) [] (OpAbs.call rfl (fun m hm => courseL_any (hcj.le (by repeat first | exact hm.1 | replace hm := hm.2)) (by omega) (by omega))) rfl rfl rfl rfl ?_
  refine DJ.abs (A := fun m x => ∃ lv, x = .tuple #[lv, vi 0] ∧ IsInts m lv (bits (lastN r c []))) [(61, fun m x => IsCourseV m x c), (59, fun m x => IsHouse m x (withSigns r ss))] (fun m61 v61 h61 => fun m59 v59 h59 => OpAbs.mono (OpAbs.call rfl (fun m hm => play6_any (h59.le (by repeat first | exact hm.1 | replace hm := hm.2)) hsx (h61.le (by repeat first | exact hm.1 | replace hm := hm.2)))) (fun m x hx => by obtain ⟨lv, e, hl⟩ := hx; exact ⟨lv, by rw [e, hpl], by rwa [hpl, if_pos rfl] at hl⟩)) rfl rfl rfl rfl ?_ (hG := ⟨(by repeat constructor), rfl, (by repeat constructor), rfl, trivial⟩)
  refine DJ.abs (A := fun m x => ∃ lv, x = .tuple #[lv, vi 0] ∧ IsInts m lv (bits (lastN r c []))) [(62, fun m x => ∃ lv, x = .tuple #[lv, vi 0] ∧ IsInts m lv (bits (lastN r c [])))] (fun m62 v62 h62 => OpAbs.ofVal (OpVal.opv rfl) (.head _) h62) rfl rfl rfl rfl ?_ (hG := ⟨(by repeat constructor), rfl, trivial⟩)
  refine DJ.abs (A := fun m x => IsInts m x (bits (lastN r c []))) [(57, fun m x => ∃ lv, x = .tuple #[lv, vi 0] ∧ IsInts m lv (bits (lastN r c [])))] (fun m57 v57 h57 => by obtain ⟨lv, rfl, hl⟩ := h57; exact OpAbs.ofVal (OpVal.opv rfl) (.head _) hl) rfl rfl rfl rfl ?_ (hG := ⟨(by repeat constructor), rfl, trivial⟩)
  refine DJ.val [(57, fun m x => ∃ lv, x = .tuple #[lv, vi 0] ∧ IsInts m lv (bits (lastN r c [])))] (fun m57 v57 h57 => (by obtain ⟨lv, rfl, hl⟩ := h57; exact OpVal.cast (.opv rfl) (show _ = vi 0 from rfl))) rfl rfl rfl rfl ?_ (hG := ⟨(by repeat constructor), rfl, trivial⟩)
  refine DJ.abs (A := fun m x => IsInts m x (bits (lastN r c []))) [(63, fun m x => IsInts m x (bits (lastN r c [])))] (fun m63 v63 h63 => OpAbs.ofVal (A := fun m x => IsInts m x (bits (lastN r c []))) (OpVal.opv rfl) (.head _) h63) rfl rfl rfl rfl ?_ (hG := ⟨(by repeat constructor), rfl, trivial⟩)
  refine DJ.nil ?_
  rintro m16 v16 h16
  rintro m63 v63 h63
  rintro m57 v57 h57
  rintro m62 v62 h62
  rintro m61 v61 h61
  rintro m59 v59 h59
  refine .o rfl ?_; refine WL.nil ?_
  refine Kseq.go (W.seq ?_)
  refine W.region ?_; refine .val (.loadPW rfl h9j (by repeat constructor) rfl) rfl rfl rfl ?_; refine WL.abs (OpAbs.call rfl (fun m hm => houseL_any (hxj.le (by repeat first | exact hm.1 | replace hm := hm.2)) hsx)) rfl rfl rfl ?_
  rintro m67 v67 h67
  refine .o rfl ?_; refine WL.abs (OpAbs.call rfl (fun m hm => boil6_any (k : Int) (h67.le (by repeat first | exact hm.1 | replace hm := hm.2)) hsx)) rfl rfl rfl ?_
  rintro m69 _ ⟨lv3, rfl, _, hl3⟩
  rw [hih] at hl3
  rw [hih, hEx]
  replace hl3 := hl3 hEx _ hx1
  iterate 5 refine .o rfl ?_
  refine WL.nil ?_
  refine Kseq.go (W.seq ?_)
  refine W.region ?_; refine .val (.loadPW rfl h9j (by repeat constructor) rfl) rfl rfl rfl ?_; refine WL.abs (OpAbs.call rfl (fun m hm => houseL_any (hxj.le (by repeat first | exact hm.1 | replace hm := hm.2)) hsx)) rfl rfl rfl ?_
  rintro m74 v74 h74
  refine .o rfl ?_; refine WL.abs (OpAbs.call rfl (fun m hm => order6_any (k : Int) (h74.le (by repeat first | exact hm.1 | replace hm := hm.2)) hsx)) rfl rfl rfl ?_
  rintro m76 _ ⟨lv4, rfl, _, hl4⟩
  obtain ⟨O, hOe⟩ : ∃ O, ordE (withSigns r ss) (k : Int) = O := ⟨_, rfl⟩
  rw [hOe] at hl4 hO
  rw [hOe]
  iterate 5 refine .o rfl ?_
  refine WL.nil ?_
  refine Kseq.go (W.seq ?_)
  refine W.region ?_; refine .val (.loadPW rfl h9j (by repeat constructor) rfl) rfl rfl rfl ?_; refine WL.abs (OpAbs.call rfl (fun m hm => houseL_any (hxj.le (by repeat first | exact hm.1 | replace hm := hm.2)) hsx)) rfl rfl rfl ?_
  rintro m81 v81 h81
  refine WL.abs (OpAbs.call rfl (fun m hm => leave6_any (h81.le (by repeat first | exact hm.1 | replace hm := hm.2)) hsx)) rfl rfl rfl ?_
  rintro m82 _ ⟨lv5, rfl, _, hl5⟩
  replace hl5 := hl5 hfx _ hlv
  rw [hfx]
  iterate 5 refine .o rfl ?_
  refine WL.nil ?_
  refine Kseq.go (W.seq ?_)
  refine W.region ?_; refine .val (.loadPW rfl h9j (by repeat constructor) rfl) rfl rfl rfl ?_; refine WL.abs (OpAbs.call rfl (fun m hm => houseL_any (hxj.le (by repeat first | exact hm.1 | replace hm := hm.2)) hsx)) rfl rfl rfl ?_
  rintro m87 v87 h87
  refine .val (.cast (.call rfl (fun m hm => first6_any (h87.le (by repeat first | exact hm.1 | replace hm := hm.2)) hsx)) (by rw [hfi])) rfl rfl rfl ?_
  iterate 5 refine .o rfl ?_
  refine WL.nil ?_
  refine Kseq.go (W.seq (W.seq ?_))
  refine W.join fun mk hk2 => ?_
  have q1 := IsInts.le g1 (hk2 mj (by simp))
  have q2 := IsInts.le g2 (hk2 mj (by simp))
  have qp := IsInts.le h16 (hk2 _ (by simp))
  have q3 := IsInts.le hl3 (hk2 _ (by simp))
  have q4 := fun e c hc => IsInts.le (hl4 e c hc) (hk2 m76 (by simp))
  have q5 := IsInts.le hl5 (hk2 _ (by simp))
  have hvk := hvj.le (hk2 mj (by simp))
  have hxk := hxj.le (hk2 mj (by simp))
  have hck := hcj.le (hk2 mj (by simp))
  have hOk := IsInts.le hOj (hk2 mj (by simp))
  have hKk := IsInts.le hKj (hk2 mj (by simp))
  have h4k := h4j.le (hk2 mj (by simp))
  have h9k := h9j.le (hk2 mj (by simp))
  have h10k := h10j.le (hk2 mj (by simp))
  clear h16 hl3 hl4 hl5 h59 h61 h62 h57 h63 h67 h74 h81 h87 g1 g2
  have hq1b := q1.bd
  refine W.weaken [(4, .pointer (some ⟨b4, 0, none⟩)), (9, .pointer (some ⟨b9, 0, none⟩)), (10, .pointer (some ⟨b10, 0, none⟩)), (11, vi (k : Int)), (12, lv1), (13, vi 0), (14, lv2), (15, vi 0), (16, v16), (17, vi 0), (18, lv3), (19, vi 0), (20, lv4), (21, vi O), (22, lv5), (23, vi 0), (24, vi 0), (25, vi 7)] [mk] [] (by repeat (first | exact trivial | refine ⟨rfl, ?_⟩)) (by simp) (List.nil_sublist _) ?_
  generalize hUe : carry6 (withSigns r ss) = U at *
  generalize hWe : whose6 (withSigns r ss) = WH at *
  refine W.toS [(4, .pointer (some ⟨b4, 0, none⟩)), (9, .pointer (some ⟨b9, 0, none⟩)), (10, .pointer (some ⟨b10, 0, none⟩)), (11, vi (k : Int)), (12, lv1), (14, lv2), (16, v16), (18, lv3), (20, lv4), (21, vi O), (140, .bool false)] ?_ ?_
  · cases ho : order6 (withSigns r ss) k with
    | none =>
      rw [if_pos ho] at hO
      subst hO
      refine W.draw 46 (by kernel_rfl) (by kernel_rfl) (by kernel_rfl) rfl ?_; refine .val [] (.opv rfl) rfl rfl rfl rfl ?_; refine .val [] (OpVal.neqF6 rfl rfl) rfl rfl rfl rfl ?_; refine .val [] (.opv rfl) rfl rfl rfl rfl ?_; refine .val [] (.opv rfl) rfl rfl rfl rfl ?_; refine .val [] (OpVal.neqF6 rfl rfl) rfl rfl rfl rfl ?_; refine .val [] (.opv rfl) rfl rfl rfl rfl ?_; refine .val [] (.opv rfl) rfl rfl rfl rfl ?_; refine .val [] (.opv rfl) rfl rfl rfl rfl ?_; refine .val [] (OpVal.neqF6 rfl rfl) rfl rfl rfl rfl ?_; refine .val [] (.opv rfl) rfl rfl rfl rfl ?_; refine .val [] (.opv rfl) rfl rfl rfl rfl ?_; refine .val [] (.opv rfl) rfl rfl rfl rfl ?_; refine .val [] (OpVal.neqF6 rfl rfl) rfl rfl rfl rfl ?_; refine .val [] (.opv rfl) rfl rfl rfl rfl ?_; refine .val [] (.opv rfl) rfl rfl rfl rfl ?_; refine .val [] (.opv rfl) rfl rfl rfl rfl ?_; refine .val [] (.cast (.opv rfl) (show _ = Value.bool true from rfl)) rfl rfl rfl rfl ?_
      refine .val [] (.opv rfl) rfl rfl rfl rfl ?_; refine .val [] (.opv rfl) rfl rfl rfl rfl ?_; refine .val [] (OpVal.neqF6 rfl rfl) rfl rfl rfl rfl ?_; refine .val [] (.opv rfl) rfl rfl rfl rfl ?_; refine .val [] (.opv rfl) rfl rfl rfl rfl ?_; refine .val [] (.opv rfl) rfl rfl rfl rfl ?_; refine .val [] (.opv rfl) rfl rfl rfl rfl ?_; refine .val [] (OpVal.neqF6 rfl rfl) rfl rfl rfl rfl ?_; refine .val [] (.opv rfl) rfl rfl rfl rfl ?_; refine .val [] (.opv rfl) rfl rfl rfl rfl ?_; refine .val [] (.opv rfl) rfl rfl rfl rfl ?_; refine .val [] (.cast (.len rfl q5) (show _ = vi 0 from rfl)) rfl rfl rfl rfl ?_; refine .val [] (OpVal.neqF6 rfl rfl) rfl rfl rfl rfl ?_; refine .val [] (.opv rfl) rfl rfl rfl rfl ?_; refine .val [] (.opv rfl) rfl rfl rfl rfl ?_; refine .val [] (.opv rfl) rfl rfl rfl rfl ?_; refine .val [] (OpVal.neqF6 rfl rfl) rfl rfl rfl rfl ?_; refine .val [] (.opv rfl) rfl rfl rfl rfl ?_
      refine .val [] (.opv rfl) rfl rfl rfl rfl ?_; refine .val [] (.opv rfl) rfl rfl rfl rfl ?_; refine .val [] (.len rfl q1) rfl rfl rfl rfl ?_; refine .val [] (.loadPW rfl h4k (by repeat constructor) rfl) rfl rfl rfl rfl ?_; refine .val [] (.cast (.call rfl (fun m hm => thingsR_any (hvk.le (by repeat first | exact hm.1 | replace hm := hm.2)))) (congrArg (Value.int .i64) hthw)) rfl rfl rfl rfl ?_; refine .val [] (.cast (.opv rfl) (show _ = Value.bool false from congrArg (fun b => Value.bool (!b)) (decide_eq_true (by omega)))) rfl rfl rfl rfl ?_; refine .val [] (.opv rfl) rfl rfl rfl rfl ?_; refine .val [] (.opv rfl) rfl rfl rfl rfl ?_; refine .val [] (.loadPW rfl h9k (by repeat constructor) rfl) rfl rfl rfl rfl ?_; refine DJ.abs (A := fun m y => IsHouse m y (withSigns r ss)) [] (OpAbs.call rfl (fun m hm => houseL_any (hxk.le (by repeat first | exact hm.1 | replace hm := hm.2)) hsx)) rfl rfl rfl rfl ?_
      refine .val [] (.loadPW rfl h10k (by repeat constructor) rfl) rfl rfl rfl rfl ?_; refine DJ.nil ?_
      rintro m135 v135 h135
      refine WL.abs (OpAbs.call rfl (fun m hm => courseL_any (hck.le (by repeat first | exact hm.1 | replace hm := hm.2)) (by omega) (by omega))) rfl rfl rfl ?_
      rintro m137 v137 h137
      refine .val (.cast (.call rfl (fun m hm => proveTruth6_any (h135.le (by repeat first | exact hm.1 | replace hm := hm.2)) hsx (h137.le (by repeat first | exact hm.1 | replace hm := hm.2)))) (congrArg Value.bool htruth)) rfl rfl rfl ?_
      iterate 2 refine .o rfl ?_
      refine WL.nil ?_
      exact Keff.intro (by repeat (first | exact trivial | refine ⟨rfl, ?_⟩)) (by intro y hy; repeat (first | exact hy | refine .tail _ ?_)) (by repeat first | exact .refl _ | refine .cons _ ?_)
    | some y =>
      rw [if_neg (by rw [ho]; simp)] at hO
      subst hO
      refine W.draw 46 (by kernel_rfl) (by kernel_rfl) (by kernel_rfl) rfl ?_; refine .val [] (.opv rfl) rfl rfl rfl rfl ?_; refine .val [] (OpVal.neqF6 rfl rfl) rfl rfl rfl rfl ?_; refine .val [] (.opv rfl) rfl rfl rfl rfl ?_; refine .val [] (.opv rfl) rfl rfl rfl rfl ?_; refine .val [] (OpVal.neqF6 rfl rfl) rfl rfl rfl rfl ?_; refine .val [] (.opv rfl) rfl rfl rfl rfl ?_; refine .val [] (.opv rfl) rfl rfl rfl rfl ?_; refine .val [] (.opv rfl) rfl rfl rfl rfl ?_; refine .val [] (OpVal.neqF6 rfl rfl) rfl rfl rfl rfl ?_; refine .val [] (.opv rfl) rfl rfl rfl rfl ?_; refine .val [] (.opv rfl) rfl rfl rfl rfl ?_; refine .val [] (.opv rfl) rfl rfl rfl rfl ?_; refine .val [] (OpVal.neqF6 rfl rfl) rfl rfl rfl rfl ?_; refine .val [] (.opv rfl) rfl rfl rfl rfl ?_; refine .val [] (.opv rfl) rfl rfl rfl rfl ?_; refine .val [] (.opv rfl) rfl rfl rfl rfl ?_; refine .val [] (OpVal.neqF6 rfl rfl) rfl rfl rfl rfl ?_
      refine .val [] (.opv rfl) rfl rfl rfl rfl ?_; refine DJ.pass rfl rfl rfl rfl ?_; refine DJ.pass rfl rfl rfl rfl ?_; refine .val [] (.opv rfl) rfl rfl rfl rfl ?_; refine .val [] (.opv rfl) rfl rfl rfl rfl ?_; refine .val [] (.opv rfl) rfl rfl rfl rfl ?_; refine .val [] (.opv rfl) rfl rfl rfl rfl ?_; refine .val [] (OpVal.neqF6 rfl rfl) rfl rfl rfl rfl ?_; refine .val [] (.opv rfl) rfl rfl rfl rfl ?_; refine .val [] (.opv rfl) rfl rfl rfl rfl ?_; refine .val [] (.opv rfl) rfl rfl rfl rfl ?_; refine .val [] (.cast (.len rfl q5) (show _ = vi 0 from rfl)) rfl rfl rfl rfl ?_; refine .val [] (OpVal.neqF6 rfl rfl) rfl rfl rfl rfl ?_; refine .val [] (.opv rfl) rfl rfl rfl rfl ?_; refine .val [] (.opv rfl) rfl rfl rfl rfl ?_; refine .val [] (.opv rfl) rfl rfl rfl rfl ?_; refine .val [] (OpVal.neqF6 rfl rfl) rfl rfl rfl rfl ?_; refine .val [] (.opv rfl) rfl rfl rfl rfl ?_; refine .val [] (.opv rfl) rfl rfl rfl rfl ?_
      refine .val [] (.opv rfl) rfl rfl rfl rfl ?_; refine .val [] (.len rfl q1) rfl rfl rfl rfl ?_; refine .val [] (.loadPW rfl h4k (by repeat constructor) rfl) rfl rfl rfl rfl ?_; refine .val [] (.cast (.call rfl (fun m hm => thingsR_any (hvk.le (by repeat first | exact hm.1 | replace hm := hm.2)))) (congrArg (Value.int .i64) hthw)) rfl rfl rfl rfl ?_; refine .val [] (.cast (.opv rfl) (show _ = Value.bool false from congrArg (fun b => Value.bool (!b)) (decide_eq_true (by omega)))) rfl rfl rfl rfl ?_; refine .val [] (.opv rfl) rfl rfl rfl rfl ?_; refine .val [] (.opv rfl) rfl rfl rfl rfl ?_; refine .val [] (.loadPW rfl h9k (by repeat constructor) rfl) rfl rfl rfl rfl ?_; refine DJ.abs (A := fun m y => IsHouse m y (withSigns r ss)) [] (OpAbs.call rfl (fun m hm => houseL_any (hxk.le (by repeat first | exact hm.1 | replace hm := hm.2)) hsx)) rfl rfl rfl rfl ?_; refine .val [] (.loadPW rfl h10k (by repeat constructor) rfl) rfl rfl rfl rfl ?_
      refine DJ.nil ?_
      rintro m135 v135 h135
      refine WL.abs (OpAbs.call rfl (fun m hm => courseL_any (hck.le (by repeat first | exact hm.1 | replace hm := hm.2)) (by omega) (by omega))) rfl rfl rfl ?_
      rintro m137 v137 h137
      refine .val (.cast (.call rfl (fun m hm => proveTruth6_any (h135.le (by repeat first | exact hm.1 | replace hm := hm.2)) hsx (h137.le (by repeat first | exact hm.1 | replace hm := hm.2)))) (congrArg Value.bool htruth)) rfl rfl rfl ?_
      iterate 2 refine .o rfl ?_
      refine WL.nil ?_
      exact Keff.intro (by repeat (first | exact trivial | refine ⟨rfl, ?_⟩)) (by intro y hy; repeat (first | exact hy | refine .tail _ ?_)) (by repeat first | exact .refl _ | refine .cons _ ?_)
  refine Kseq.go ?_; refine W.condF rfl rfl ?_
  refine W.skip (Kseq.go (W.seq (W.seq ?_)))
  refine W.region ?_; refine .o rfl ?_; refine WL.nil ?_
  refine Kseq.go (W.block ?_)
  refine W.loop (σ := Nat) (fun t => [(4, .pointer (some ⟨b4, 0, none⟩)), (9, .pointer (some ⟨b9, 0, none⟩)), (10, .pointer (some ⟨b10, 0, none⟩)), (11, vi (k : Int)), (12, lv1), (14, lv2), (16, v16), (18, lv3), (20, lv4), (21, vi O), (26, vi (t : Int))]) (fun _ => [mk]) (fun _ => []) (fun t => t ≤ r.th) (fun t => r.th - t) 0 ⟨rfl, rfl, rfl, rfl, rfl, rfl, rfl, rfl, rfl, rfl, rfl, trivial⟩ (by intro y hy; simp at hy; subst hy; repeat (first | exact .head _ | refine .tail _ ?_)) (List.nil_sublist _) (Nat.zero_le _) ?_
  intro t ht
  refine W.seq (W.seq ?_)
  refine W.region ?_
  iterate 2 refine .o rfl ?_
  refine .val (.len rfl q1) rfl rfl rfl ?_; refine .o rfl ?_; refine WL.nil ?_; refine Kseq.go ?_
  refine W.condD rfl rfl (fun hlt => ?_) (fun hge => ?_)
  · have htl : t < r.th := by omega
    have htU : t < U.length := by omega
    obtain ⟨c1, c2, c3⟩ := hcar t htl
    have hbit := in_bits6 (i := t) hcL (by omega) (by omega)
    have hwt := hwho t
    obtain ⟨y, hy⟩ : ∃ y, (lastN r c []).testBit t = y := ⟨_, rfl⟩
    obtain ⟨u, hu⟩ : ∃ u, U.getD t 0 = u := ⟨_, rfl⟩
    rw [hy] at c2 c3 hbit hwt
    rw [hu] at c1 c2 c3
    refine W.skip (Kseq.go (W.seq (W.block (W.seq ?_))))
    refine W.region ?_
    iterate 2 refine .o rfl ?_
    refine .val (.cast (.call rfl (fun m hm => has_any _ (qp.le (by repeat first | exact hm.1 | replace hm := hm.2)))) (congrArg Value.bool hbit)) rfl rfl rfl ?_; refine .o rfl ?_; refine WL.nil ?_
    refine Kseq.go (W.seq (W.seq ?_))
    refine W.toS [(4, .pointer (some ⟨b4, 0, none⟩)), (9, .pointer (some ⟨b9, 0, none⟩)), (10, .pointer (some ⟨b10, 0, none⟩)), (11, vi (k : Int)), (12, lv1), (14, lv2), (16, v16), (18, lv3), (20, lv4), (21, vi O), (26, vi (t : Int)), (27, .bool y), (176, .bool false)] ?_ ?_
    · skip
      refine W.region ?_
      iterate 2 refine .o rfl ?_
      refine .val (.indexAddrN rfl rfl q1 htU) rfl rfl rfl ?_; refine .val (.cast (.loadE rfl q1 (by repeat constructor) htU (by omega)) (congrArg vi hu)) rfl rfl rfl ?_; refine .val (.cast (.call rfl (fun m hm => in_any _ _ _)) (congrArg Value.bool (decide_eq_true c1))) rfl rfl rfl ?_
      iterate 2 refine .o rfl ?_
      refine WL.splitB rfl rfl (fun g156 => ?_) (fun g156 => ?_)
      · refine WL.pass rfl rfl rfl ?_
        refine WL.pass rfl rfl rfl ?_; refine WL.pass rfl rfl rfl ?_; refine WL.pass rfl rfl rfl ?_; refine WL.pass rfl rfl rfl ?_; refine WL.pass rfl rfl rfl ?_; refine WL.pass rfl rfl rfl ?_; refine WL.pass rfl rfl rfl ?_; refine WL.pass rfl rfl rfl ?_
        iterate 2 refine .o rfl ?_
        refine WL.pass rfl rfl rfl ?_; refine WL.pass rfl rfl rfl ?_; refine WL.pass rfl rfl rfl ?_; refine WL.pass rfl rfl rfl ?_; refine WL.pass rfl rfl rfl ?_; refine WL.pass rfl rfl rfl ?_; refine WL.pass rfl rfl rfl ?_; refine WL.pass rfl rfl rfl ?_; refine .o rfl ?_; refine WL.nil ?_
        exact Keff.intro ⟨rfl, rfl, rfl, rfl, rfl, rfl, rfl, rfl, rfl, rfl, rfl, rfl, congrArg (fun b => some (Value.bool b)) (by first | (simp_all; done) | (simp_all; omega) | (exfalso; simp_all; omega)), trivial⟩ (by simp) (by repeat first | exact .refl _ | refine .cons _ ?_)
      · refine .o rfl ?_
        refine .o rfl ?_; refine .val (.indexAddrN rfl rfl q1 htU) rfl rfl rfl ?_; refine .val (.cast (.loadE rfl q1 (by repeat constructor) htU (by omega)) (congrArg vi hu)) rfl rfl rfl ?_
        iterate 2 refine .o rfl ?_
        refine WL.split rfl rfl (fun g162 => ?_) (fun g162 => ?_)
        · refine .o rfl ?_
          iterate 4 refine .o rfl ?_
          refine WL.splitB rfl rfl (fun g167 => ?_) (fun g167 => ?_)
          · refine WL.pass rfl rfl rfl ?_
            refine WL.pass rfl rfl rfl ?_; refine WL.pass rfl rfl rfl ?_; refine WL.pass rfl rfl rfl ?_; refine WL.pass rfl rfl rfl ?_; refine WL.pass rfl rfl rfl ?_; refine WL.pass rfl rfl rfl ?_; refine WL.pass rfl rfl rfl ?_; refine .o rfl ?_; refine WL.nil ?_
            exact Keff.intro ⟨rfl, rfl, rfl, rfl, rfl, rfl, rfl, rfl, rfl, rfl, rfl, rfl, congrArg (fun b => some (Value.bool b)) (by first | (simp_all; done) | (simp_all; omega) | (exfalso; simp_all; omega)), trivial⟩ (by simp) (by repeat first | exact .refl _ | refine .cons _ ?_)
          · refine .o rfl ?_
            refine .o rfl ?_; refine .val (.indexAddrN rfl rfl q1 htU) rfl rfl rfl ?_; refine .val (.cast (.loadE rfl q1 (by repeat constructor) htU (by omega)) (congrArg vi hu)) rfl rfl rfl ?_
            iterate 2 refine .o rfl ?_
            refine WL.split rfl rfl (fun g173 => ?_) (fun g173 => ?_)
            · refine .o rfl ?_
              iterate 2 refine .o rfl ?_
              refine WL.nil ?_
              exact Keff.intro ⟨rfl, rfl, rfl, rfl, rfl, rfl, rfl, rfl, rfl, rfl, rfl, rfl, congrArg (fun b => some (Value.bool b)) (by first | (simp_all; done) | (simp_all; omega) | (exfalso; simp_all; omega)), trivial⟩ (by simp) (by repeat first | exact .refl _ | refine .cons _ ?_)
            · refine WL.pass rfl rfl rfl ?_
              iterate 2 refine .o rfl ?_
              refine WL.nil ?_
              exact Keff.intro ⟨rfl, rfl, rfl, rfl, rfl, rfl, rfl, rfl, rfl, rfl, rfl, rfl, congrArg (fun b => some (Value.bool b)) (by first | (simp_all; done) | (simp_all; omega) | (exfalso; simp_all; omega)), trivial⟩ (by simp) (by repeat first | exact .refl _ | refine .cons _ ?_)
        · refine WL.pass rfl rfl rfl ?_
          refine WL.pass rfl rfl rfl ?_
          iterate 5 refine .o rfl ?_
          refine .val (.indexAddrN rfl rfl q1 htU) rfl rfl rfl ?_; refine .val (.cast (.loadE rfl q1 (by repeat constructor) htU (by omega)) (congrArg vi hu)) rfl rfl rfl ?_
          iterate 2 refine .o rfl ?_
          refine WL.split rfl rfl (fun g173 => ?_) (fun g173 => ?_)
          · refine .o rfl ?_
            iterate 2 refine .o rfl ?_
            refine WL.nil ?_
            exact Keff.intro ⟨rfl, rfl, rfl, rfl, rfl, rfl, rfl, rfl, rfl, rfl, rfl, rfl, congrArg (fun b => some (Value.bool b)) (by first | (simp_all; done) | (simp_all; omega) | (exfalso; simp_all; omega)), trivial⟩ (by simp) (by repeat first | exact .refl _ | refine .cons _ ?_)
          · refine WL.pass rfl rfl rfl ?_
            iterate 2 refine .o rfl ?_
            refine WL.nil ?_
            exact Keff.intro ⟨rfl, rfl, rfl, rfl, rfl, rfl, rfl, rfl, rfl, rfl, rfl, rfl, congrArg (fun b => some (Value.bool b)) (by first | (simp_all; done) | (simp_all; omega) | (exfalso; simp_all; omega)), trivial⟩ (by simp) (by repeat first | exact .refl _ | refine .cons _ ?_)
    refine Kseq.go ?_; refine W.condF rfl rfl ?_
    refine W.skip (Kseq.go (W.seq ?_))
    refine W.toS [(4, .pointer (some ⟨b4, 0, none⟩)), (9, .pointer (some ⟨b9, 0, none⟩)), (10, .pointer (some ⟨b10, 0, none⟩)), (11, vi (k : Int)), (12, lv1), (14, lv2), (16, v16), (18, lv3), (20, lv4), (21, vi O), (26, vi (t : Int)), (205, .bool false)] ?_ ?_
    · cases y with
      | false =>
        refine W.draw 26 (by kernel_rfl) (by kernel_rfl) (by kernel_rfl) rfl ?_; refine .val [] (.opv rfl) rfl rfl rfl rfl ?_; refine .val [] (.opv rfl) rfl rfl rfl rfl ?_; refine DJ.pass rfl rfl rfl rfl ?_; refine DJ.pass rfl rfl rfl rfl ?_; refine DJ.pass rfl rfl rfl rfl ?_; refine DJ.pass rfl rfl rfl rfl ?_; refine DJ.pass rfl rfl rfl rfl ?_; refine .val [] (.opv rfl) rfl rfl rfl rfl ?_; refine .val [] (.opv rfl) rfl rfl rfl rfl ?_; refine DJ.pass rfl rfl rfl rfl ?_; refine DJ.pass rfl rfl rfl rfl ?_; refine DJ.pass rfl rfl rfl rfl ?_; refine DJ.pass rfl rfl rfl rfl ?_; refine DJ.pass rfl rfl rfl rfl ?_; refine DJ.pass rfl rfl rfl rfl ?_; refine DJ.pass rfl rfl rfl rfl ?_; refine DJ.pass rfl rfl rfl rfl ?_; refine DJ.pass rfl rfl rfl rfl ?_; refine .val [] (.opv rfl) rfl rfl rfl rfl ?_; refine .val [] (.opv rfl) rfl rfl rfl rfl ?_; refine DJ.pass rfl rfl rfl rfl ?_; refine DJ.pass rfl rfl rfl rfl ?_
        refine DJ.pass rfl rfl rfl rfl ?_; refine DJ.pass rfl rfl rfl rfl ?_; refine DJ.pass rfl rfl rfl rfl ?_; refine DJ.pass rfl rfl rfl rfl ?_; refine DJ.nil ?_; refine WL.pass rfl rfl rfl ?_; refine WL.pass rfl rfl rfl ?_; refine .o rfl ?_; refine WL.nil ?_
        exact Keff.intro (by repeat (first | exact trivial | refine ⟨rfl, ?_⟩)) (by simp) (by repeat first | exact .refl _ | refine .cons _ ?_)
      | true =>
        by_cases htp : t < r.np
        · have hto : t < c.owners.length := by omega
          cases hsk : decide (c.owners.getD t 0 ∈ r.sick) with
          | true =>
            refine W.draw 26 (by kernel_rfl) (by kernel_rfl) (by kernel_rfl) rfl ?_; refine .val [] (.opv rfl) rfl rfl rfl rfl ?_; refine .val [] (.opv rfl) rfl rfl rfl rfl ?_; refine .val [] (.opv rfl) rfl rfl rfl rfl ?_; refine .val [] (.fieldAddrB rfl) rfl rfl rfl rfl ?_; refine .val [] (.loadP rfl h10k (by repeat constructor) rfl) rfl rfl rfl rfl ?_; refine .val [] (.len rfl hOk) rfl rfl rfl rfl ?_; refine .val [] (.cast (.opv rfl) (congrArg Value.bool (decide_eq_true (by omega)))) rfl rfl rfl rfl ?_; refine .val [] (.opv rfl) rfl rfl rfl rfl ?_; refine .val [] (.opv rfl) rfl rfl rfl rfl ?_; refine .val [] (.fieldAddrB rfl) rfl rfl rfl rfl ?_; refine .val [] (.loadP rfl h4k (by repeat constructor) rfl) rfl rfl rfl rfl ?_; refine .val [] (.fieldAddrB rfl) rfl rfl rfl rfl ?_; refine .val [] (.loadP rfl h10k (by repeat constructor) rfl) rfl rfl rfl rfl ?_; refine .val [] (.opv rfl) rfl rfl rfl rfl ?_
            refine .val [] (.indexAddrN rfl rfl hOk hto) rfl rfl rfl rfl ?_; refine .val [] (.loadE rfl hOk (by repeat constructor) hto (by omega)) rfl rfl rfl rfl ?_; refine .val [] (.cast (.call rfl (fun m hm => has_any _ (hKk.le (by repeat first | exact hm.1 | replace hm := hm.2)))) (congrArg Value.bool hsk)) rfl rfl rfl rfl ?_; refine .val [] (.opv rfl) rfl rfl rfl rfl ?_; refine .val [] (.opv rfl) rfl rfl rfl rfl ?_; refine .val [] (.opv rfl) rfl rfl rfl rfl ?_; refine DJ.pass rfl rfl rfl rfl ?_; refine DJ.pass rfl rfl rfl rfl ?_; refine DJ.pass rfl rfl rfl rfl ?_; refine DJ.pass rfl rfl rfl rfl ?_; refine DJ.pass rfl rfl rfl rfl ?_; refine DJ.pass rfl rfl rfl rfl ?_; refine DJ.nil ?_; refine WL.pass rfl rfl rfl ?_; refine WL.pass rfl rfl rfl ?_; refine .o rfl ?_; refine WL.nil ?_
            exact Keff.intro (by repeat (first | exact trivial | refine ⟨rfl, ?_⟩)) (by simp) (by repeat first | exact .refl _ | refine .cons _ ?_)
          | false =>
            have hin := hwt htp rfl (of_decide_eq_false hsk)
            refine W.draw 26 (by kernel_rfl) (by kernel_rfl) (by kernel_rfl) rfl ?_; refine .val [] (.opv rfl) rfl rfl rfl rfl ?_; refine .val [] (.opv rfl) rfl rfl rfl rfl ?_; refine .val [] (.opv rfl) rfl rfl rfl rfl ?_; refine .val [] (.fieldAddrB rfl) rfl rfl rfl rfl ?_; refine .val [] (.loadP rfl h10k (by repeat constructor) rfl) rfl rfl rfl rfl ?_; refine .val [] (.len rfl hOk) rfl rfl rfl rfl ?_; refine .val [] (.cast (.opv rfl) (congrArg Value.bool (decide_eq_true (by omega)))) rfl rfl rfl rfl ?_; refine .val [] (.opv rfl) rfl rfl rfl rfl ?_; refine .val [] (.opv rfl) rfl rfl rfl rfl ?_; refine .val [] (.fieldAddrB rfl) rfl rfl rfl rfl ?_; refine .val [] (.loadP rfl h4k (by repeat constructor) rfl) rfl rfl rfl rfl ?_; refine .val [] (.fieldAddrB rfl) rfl rfl rfl rfl ?_; refine .val [] (.loadP rfl h10k (by repeat constructor) rfl) rfl rfl rfl rfl ?_; refine .val [] (.opv rfl) rfl rfl rfl rfl ?_
            refine .val [] (.indexAddrN rfl rfl hOk hto) rfl rfl rfl rfl ?_; refine .val [] (.loadE rfl hOk (by repeat constructor) hto (by omega)) rfl rfl rfl rfl ?_; refine .val [] (.cast (.call rfl (fun m hm => has_any _ (hKk.le (by repeat first | exact hm.1 | replace hm := hm.2)))) (congrArg Value.bool hsk)) rfl rfl rfl rfl ?_; refine .val [] (.opv rfl) rfl rfl rfl rfl ?_; refine .val [] (.opv rfl) rfl rfl rfl rfl ?_; refine .val [] (.opv rfl) rfl rfl rfl rfl ?_; refine .val [] (.opv rfl) rfl rfl rfl rfl ?_; refine .val [] (.fieldAddrB rfl) rfl rfl rfl rfl ?_; refine .val [] (.loadP rfl h10k (by repeat constructor) rfl) rfl rfl rfl rfl ?_; refine .val [] (.opv rfl) rfl rfl rfl rfl ?_; refine .val [] (.indexAddrN rfl rfl hOk hto) rfl rfl rfl rfl ?_; refine .val [] (.loadE rfl hOk (by repeat constructor) hto (by omega)) rfl rfl rfl rfl ?_; refine DJ.nil ?_; refine .val (.cast (.call rfl (fun m hm => has_any _ (q2.le (by repeat first | exact hm.1 | replace hm := hm.2)))) (congrArg Value.bool (decide_eq_true hin))) rfl rfl rfl ?_
            iterate 2 refine .o rfl ?_
            refine WL.nil ?_
            exact Keff.intro (by repeat (first | exact trivial | refine ⟨rfl, ?_⟩)) (by simp) (by repeat first | exact .refl _ | refine .cons _ ?_)
        · skip
          refine W.draw 26 (by kernel_rfl) (by kernel_rfl) (by kernel_rfl) rfl ?_; refine .val [] (.opv rfl) rfl rfl rfl rfl ?_; refine .val [] (.opv rfl) rfl rfl rfl rfl ?_; refine .val [] (.opv rfl) rfl rfl rfl rfl ?_; refine .val [] (.fieldAddrB rfl) rfl rfl rfl rfl ?_; refine .val [] (.loadP rfl h10k (by repeat constructor) rfl) rfl rfl rfl rfl ?_; refine .val [] (.len rfl hOk) rfl rfl rfl rfl ?_; refine .val [] (.cast (.opv rfl) (congrArg Value.bool (decide_eq_false (by omega)))) rfl rfl rfl rfl ?_; refine .val [] (.opv rfl) rfl rfl rfl rfl ?_; refine .val [] (.opv rfl) rfl rfl rfl rfl ?_; refine DJ.pass rfl rfl rfl rfl ?_; refine DJ.pass rfl rfl rfl rfl ?_; refine DJ.pass rfl rfl rfl rfl ?_; refine DJ.pass rfl rfl rfl rfl ?_; refine DJ.pass rfl rfl rfl rfl ?_; refine DJ.pass rfl rfl rfl rfl ?_; refine DJ.pass rfl rfl rfl rfl ?_; refine DJ.pass rfl rfl rfl rfl ?_; refine DJ.pass rfl rfl rfl rfl ?_
          refine .val [] (.opv rfl) rfl rfl rfl rfl ?_; refine .val [] (.opv rfl) rfl rfl rfl rfl ?_; refine DJ.pass rfl rfl rfl rfl ?_; refine DJ.pass rfl rfl rfl rfl ?_; refine DJ.pass rfl rfl rfl rfl ?_; refine DJ.pass rfl rfl rfl rfl ?_; refine DJ.pass rfl rfl rfl rfl ?_; refine DJ.pass rfl rfl rfl rfl ?_; refine DJ.nil ?_; refine WL.pass rfl rfl rfl ?_; refine WL.pass rfl rfl rfl ?_; refine .o rfl ?_; refine WL.nil ?_
          exact Keff.intro (by repeat (first | exact trivial | refine ⟨rfl, ?_⟩)) (by simp) (by repeat first | exact .refl _ | refine .cons _ ?_)
    refine Kseq.go ?_; refine W.condF rfl rfl ?_
    refine W.skip (Kblock.normal (Kseq.go ?_))
    refine W.region ?_; refine .o rfl ?_; refine .val (.incr rfl (by omega)) rfl rfl rfl ?_; refine .o rfl ?_; refine WL.nil ?_
    exact Kloop.next (t + 1) (by omega) (by omega) ⟨rfl, rfl, rfl, rfl, rfl, rfl, rfl, rfl, rfl, rfl, rfl, trivial⟩ (by simp) (by repeat first | exact .refl _ | refine .cons _ ?_)
  refine W.exit (Kseq.exit (Kloop.exit (Kblock.here (Kseq.go (W.seq ?_)))))
  cases ho : order6 (withSigns r ss) k with
  | none =>
    rw [if_pos ho] at hO
    subst hO
    refine W.draw 26 (by kernel_rfl) (by kernel_rfl) (by kernel_rfl) rfl ?_; refine .val [] (.opv rfl) rfl rfl rfl rfl ?_; refine .val [] (.loadPW rfl h4k (by repeat constructor) rfl) rfl rfl rfl rfl ?_; refine .val [] (.cast (.call rfl (fun m hm => thingsR_any (hvk.le (by repeat first | exact hm.1 | replace hm := hm.2)))) (congrArg (Value.int .i64) (hthw.trans hth.1))) rfl rfl rfl rfl ?_; refine .val [] (.cast (.call rfl (fun m hm => areRising_any (by omega) (q3.le (by repeat first | exact hm.1 | replace hm := hm.2)))) (congrArg Value.bool hrise)) rfl rfl rfl rfl ?_; refine .val [] (.opv rfl) rfl rfl rfl rfl ?_; refine .val [] (.loadPW rfl h9k (by repeat constructor) rfl) rfl rfl rfl rfl ?_; refine .val [] (.loadPW rfl h10k (by repeat constructor) rfl) rfl rfl rfl rfl ?_; refine .val [] (.opv rfl) rfl rfl rfl rfl ?_; refine .val [] (.opv rfl) rfl rfl rfl rfl ?_; refine DJ.abs (A := fun m y => IsBoils m y (atL x (k : Int))) [] (OpAbs.call rfl (fun m hm => atR_any (k : Int) (q3.le (by repeat first | exact hm.1 | replace hm := hm.2)) (by omega))) rfl rfl rfl rfl ?_
    refine DJ.val [(215, fun m y => IsBoils m y (atL x (k : Int)))] (fun m215 v215 h215 => OpVal.cast (.call rfl (fun m hm => isSafeR_any (hxk.le (by repeat first | exact hm.1 | replace hm := hm.2)) hVx (hck.le (by repeat first | exact hm.1 | replace hm := hm.2)) hol hhl (h215.le (by repeat first | exact hm.1 | replace hm := hm.2)) (by simp [atL]; omega))) (congrArg Value.bool hsafe1)) rfl rfl rfl rfl ?_ (hG := ⟨(by repeat constructor), rfl, trivial⟩)
    refine .val [] (.opv rfl) rfl rfl rfl rfl ?_; refine .val [] (.opv rfl) rfl rfl rfl rfl ?_; refine .val [] (.opv rfl) rfl rfl rfl rfl ?_; refine .val [] (.cast (.opv rfl) (show _ = Value.bool true from rfl)) rfl rfl rfl rfl ?_; refine .val [] (.opv rfl) rfl rfl rfl rfl ?_; refine DJ.pass rfl rfl rfl rfl ?_; refine DJ.pass rfl rfl rfl rfl ?_; refine DJ.pass rfl rfl rfl rfl ?_; refine DJ.pass rfl rfl rfl rfl ?_; refine DJ.pass rfl rfl rfl rfl ?_; refine DJ.pass rfl rfl rfl rfl ?_; refine DJ.pass rfl rfl rfl rfl ?_; refine DJ.pass rfl rfl rfl rfl ?_; refine DJ.pass rfl rfl rfl rfl ?_; refine DJ.pass rfl rfl rfl rfl ?_; refine DJ.nil ?_
    rintro m215 v215 h215
    refine WL.pass rfl rfl rfl ?_; refine WL.pass rfl rfl rfl ?_
    iterate 3 refine .o rfl ?_
    refine .val (.call rfl (fun m hm => awake6_any)) rfl rfl rfl ?_
    iterate 2 refine .o rfl ?_
    refine WL.nil ?_; refine Kseq.go ?_
    refine W.ret ?_; refine ⟨.inl rfl, [_], mk, ⟨.tmp rfl, trivial⟩, (by repeat constructor), ?_⟩
    rfl
  | some y =>
    rw [if_neg (by rw [ho]; simp)] at hO
    subst hO
    have hyI := q4 rfl y ho
    have hyS := order6_least ho
    have hyl : y.length ≤ 3 := by have h1 := hyS.len; have h2 := longest_le hVx hkl; omega
    have hyr := (okR_iff hVx hkl hyS.below).2 ⟨hyS.len, hyS.is⟩
    have hord : isOrdB (withSigns r ss) k y = true := by have := hyr.2; unfold okR at this; rw [Bool.and_eq_true] at this; exact this.1
    have hsafe2 := found_safe hcm hS (more := rowL y (k : Int)) hyS.is
    refine W.draw 26 (by kernel_rfl) (by kernel_rfl) (by kernel_rfl) rfl ?_; refine .val [] (.opv rfl) rfl rfl rfl rfl ?_; refine .val [] (.loadPW rfl h4k (by repeat constructor) rfl) rfl rfl rfl rfl ?_; refine .val [] (.cast (.call rfl (fun m hm => thingsR_any (hvk.le (by repeat first | exact hm.1 | replace hm := hm.2)))) (congrArg (Value.int .i64) (hthw.trans hth.1))) rfl rfl rfl rfl ?_; refine .val [] (.cast (.call rfl (fun m hm => areRising_any (by omega) (q3.le (by repeat first | exact hm.1 | replace hm := hm.2)))) (congrArg Value.bool hrise)) rfl rfl rfl rfl ?_; refine .val [] (.opv rfl) rfl rfl rfl rfl ?_; refine .val [] (.loadPW rfl h9k (by repeat constructor) rfl) rfl rfl rfl rfl ?_; refine .val [] (.loadPW rfl h10k (by repeat constructor) rfl) rfl rfl rfl rfl ?_; refine .val [] (.opv rfl) rfl rfl rfl rfl ?_; refine .val [] (.opv rfl) rfl rfl rfl rfl ?_; refine DJ.abs (A := fun m y => IsBoils m y (atL x (k : Int))) [] (OpAbs.call rfl (fun m hm => atR_any (k : Int) (q3.le (by repeat first | exact hm.1 | replace hm := hm.2)) (by omega))) rfl rfl rfl rfl ?_
    refine DJ.val [(215, fun m y => IsBoils m y (atL x (k : Int)))] (fun m215 v215 h215 => OpVal.cast (.call rfl (fun m hm => isSafeR_any (hxk.le (by repeat first | exact hm.1 | replace hm := hm.2)) hVx (hck.le (by repeat first | exact hm.1 | replace hm := hm.2)) hol hhl (h215.le (by repeat first | exact hm.1 | replace hm := hm.2)) (by simp [atL]; omega))) (congrArg Value.bool hsafe1)) rfl rfl rfl rfl ?_ (hG := ⟨(by repeat constructor), rfl, trivial⟩)
    refine .val [] (.opv rfl) rfl rfl rfl rfl ?_; refine .val [] (.opv rfl) rfl rfl rfl rfl ?_; refine .val [] (.opv rfl) rfl rfl rfl rfl ?_; refine .val [] (OpVal.neqF6 rfl rfl) rfl rfl rfl rfl ?_; refine .val [] (.opv rfl) rfl rfl rfl rfl ?_; refine .val [] (.loadPW rfl h9k (by repeat constructor) rfl) rfl rfl rfl rfl ?_; refine .val [] (.opv rfl) rfl rfl rfl rfl ?_; refine .val [] (.opv rfl) rfl rfl rfl rfl ?_; refine .val [] (.cast (.call rfl (fun m hm => isOrder_any (hxk.le (by repeat first | exact hm.1 | replace hm := hm.2)) hVx (hyI.le (by repeat first | exact hm.1 | replace hm := hm.2)) (by omega) (by omega))) (congrArg Value.bool hord)) rfl rfl rfl rfl ?_; refine .val [] (.opv rfl) rfl rfl rfl rfl ?_; refine .val [] (.loadPW rfl h9k (by repeat constructor) rfl) rfl rfl rfl rfl ?_; refine .val [] (.loadPW rfl h10k (by repeat constructor) rfl) rfl rfl rfl rfl ?_; refine .val [] (.opv rfl) rfl rfl rfl rfl ?_
    refine .val [] (.opv rfl) rfl rfl rfl rfl ?_; refine DJ.abs (A := fun m z => IsBoils m z (rowL y (k : Int))) [] (OpAbs.call rfl (fun m hm => rowR_any (by omega) (hyI.le (by repeat first | exact hm.1 | replace hm := hm.2)) (by omega))) rfl rfl rfl rfl ?_; refine DJ.nil ?_
    rintro m231 v231 h231
    rintro m215 v215 h215
    refine .val (.cast (.call rfl (fun m hm => isSafeR_any (hxk.le (by repeat first | exact hm.1 | replace hm := hm.2)) hVx (hck.le (by repeat first | exact hm.1 | replace hm := hm.2)) hol hhl (h231.le (by repeat first | exact hm.1 | replace hm := hm.2)) (by simp [rowL]; omega))) (congrArg Value.bool hsafe2)) rfl rfl rfl ?_
    iterate 4 refine .o rfl ?_
    refine .val (.call rfl (fun m hm => awake6_any)) rfl rfl rfl ?_
    iterate 2 refine .o rfl ?_
    refine WL.nil ?_; refine Kseq.go ?_
    refine W.ret ?_; refine ⟨.inl rfl, [_], mk, ⟨.tmp rfl, trivial⟩, (by repeat constructor), ?_⟩
    rfl
end Go.Proofs.YtdnbkjgbehakpaaGreat
