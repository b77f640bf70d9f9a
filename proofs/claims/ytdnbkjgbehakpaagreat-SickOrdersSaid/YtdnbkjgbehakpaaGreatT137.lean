/- The reference's functions of chapter 6: IsBoiled, Carriers. -/
import Derived.Test.YtdnbkjgbehakpaaGreatT128
namespace Go.Proofs.YtdnbkjgbehakpaaGreat
open Go Go.Eng Go.RowKit

/-- IsBoiled -/
theorem isBoiledR_any {h : Mem} {v : Value} {bs : List Boil} (x y : Int) (hv : IsBoils h v bs) : FnV Tryz.prog 150 #[v, vi x, vi y] h (.bool (isBoiled bs x y)) := by
  have hb := hv.bd
  refine FnR.val ?_
  refine FnR.of_W (n := 30) Tryz.func150 rfl rfl (Nat.le_of_ble_eq_true rfl) fun c hr hD hF => ?_
  refine W.seq ?_; refine W.region ?_; refine .o rfl ?_; refine WL.nil ?_
  refine Kseq.go (W.seq (W.seq ?_))
  refine W.region ?_; refine .o rfl ?_; refine WL.nil ?_
  refine Kseq.go (W.block ?_)
  refine W.loop (σ := Nat) (fun k => [(0, v), (1, vi x), (2, vi y), (7, vi (k : Int))]) (fun _ => [h]) (fun _ => []) (fun k => k ≤ bs.length ∧ ∀ i, i < k → (decide ((bs.getD i default).thing = x) && decide ((bs.getD i default).hour = y)) = false) (fun k => bs.length - k) 0 ⟨rfl, rfl, rfl, rfl, trivial⟩ (by simp) (List.nil_sublist _) ⟨Nat.zero_le _, fun i hi => absurd hi (Nat.not_lt_zero _)⟩ ?_
  rintro k ⟨hk, hall⟩
  refine W.seq (W.seq ?_)
  refine W.region ?_
  iterate 2 refine .o rfl ?_
  refine .val (.len rfl hv) rfl rfl rfl ?_; refine .o rfl ?_; refine WL.nil ?_; refine Kseq.go ?_
  refine W.condD rfl rfl (fun hlt => ?_) (fun hge => ?_)
  · have hkl : k < bs.length := by omega
    obtain ⟨t, ht⟩ : ∃ t, bs.getD k default = t := ⟨_, rfl⟩
    refine W.skip (Kseq.go (W.seq (W.block (W.seq ?_))))
    refine W.toS [(0, v), (1, vi x), (2, vi y), (7, vi (k : Int)), (29, .bool (decide (t.thing = x) && decide (t.hour = y)))] ?_ ?_
    · skip
      refine W.region ?_
      iterate 2 refine .o rfl ?_
      refine .val (.indexAddrN rfl rfl hv hkl) rfl rfl rfl ?_; refine .val (.fieldAddrN rfl hv hkl) rfl rfl rfl ?_
      refine .val (.cast (.loadE rfl hv (by repeat constructor) hkl (by omega)) (show _ = vi t.thing from by rw [← ht]; rfl)) rfl rfl rfl ?_
      iterate 3 refine .o rfl ?_
      refine WL.split rfl rfl (fun g21 => ?_) (fun g21 => ?_)
      · refine .o rfl ?_
        refine .o rfl ?_; refine .val (.indexAddrN rfl rfl hv hkl) rfl rfl rfl ?_; refine .val (.fieldAddrN rfl hv hkl) rfl rfl rfl ?_
        refine .val (.cast (.loadE rfl hv (by repeat constructor) hkl (by omega)) (show _ = vi t.hour from by rw [← ht]; rfl)) rfl rfl rfl ?_
        iterate 3 refine .o rfl ?_
        refine WL.nil ?_
        exact Keff.intro ⟨rfl, rfl, rfl, rfl, congrArg (fun b => some (Value.bool b)) (by first | (simp [-List.getD_eq_getElem?_getD]; done) | (simp_all [-List.getD_eq_getElem?_getD]; done) | (simp [-List.getD_eq_getElem?_getD]; omega) | (rw [Bool.eq_iff_iff]; simp [-List.getD_eq_getElem?_getD]; omega) | (simp [-List.getD_eq_getElem?_getD] at *; omega)), trivial⟩ (by simp) (by repeat first | exact .refl _ | refine .cons _ ?_)
      · refine WL.pass rfl rfl rfl ?_
        refine WL.pass rfl rfl rfl ?_; refine WL.pass rfl rfl rfl ?_; refine WL.pass rfl rfl rfl ?_; refine WL.pass rfl rfl rfl ?_; refine WL.pass rfl rfl rfl ?_; refine WL.pass rfl rfl rfl ?_; refine .o rfl ?_; refine WL.nil ?_
        exact Keff.intro ⟨rfl, rfl, rfl, rfl, congrArg (fun b => some (Value.bool b)) (by first | (simp [-List.getD_eq_getElem?_getD]; done) | (simp_all [-List.getD_eq_getElem?_getD]; done) | (simp [-List.getD_eq_getElem?_getD]; omega) | (rw [Bool.eq_iff_iff]; simp [-List.getD_eq_getElem?_getD]; omega) | (simp [-List.getD_eq_getElem?_getD] at *; omega)), trivial⟩ (by simp) (by repeat first | exact .refl _ | refine .cons _ ?_)
    refine Kseq.go ?_
    refine W.cond rfl rfl (fun hb2 => ?_) (fun hb2 => ?_)
    · refine W.seq ?_
      refine W.region ?_; refine .o rfl ?_; refine WL.nil ?_; refine Kseq.go ?_
      refine W.ret ?_; refine Kblock.ret (Kseq.ret (Kloop.ret (Kblock.ret (Kseq.ret ?_)))); refine ⟨.inl rfl, [_], h, ⟨.tmp rfl, trivial⟩, (by repeat constructor), ?_⟩
      exact congrArg Value.bool (ex_iff.2 ⟨k, hkl, by rw [ht]; exact hb2⟩).symm
    · refine W.skip (Kblock.normal (Kseq.go ?_))
      refine W.region ?_; refine .o rfl ?_; refine .val (.incr rfl (by omega)) rfl rfl rfl ?_; refine .o rfl ?_; refine WL.nil ?_
      refine Kloop.next (k + 1) ⟨hkl, fun i hi => ?_⟩ (by omega) ⟨rfl, rfl, rfl, rfl, trivial⟩ (by simp) (by repeat first | exact .refl _ | refine .cons _ ?_)
      rcases Nat.lt_succ_iff_lt_or_eq.1 hi with h2 | rfl
      · exact hall i h2
      · rw [ht]; exact hb2
  · have hkk : k = bs.length := by omega
    subst hkk
    refine W.exit (Kseq.exit (Kloop.exit (Kblock.here (Kseq.go (W.seq ?_)))))
    refine W.region ?_; refine .o rfl ?_; refine WL.nil ?_; refine Kseq.go ?_
    refine W.ret ?_; refine ⟨.inl rfl, [_], h, ⟨.tmp rfl, trivial⟩, (by repeat constructor), ?_⟩
    exact congrArg Value.bool (ex_no.2 hall).symm
theorem pow_cast (n : Nat) : (1 : Int) * 2 ^ n = ((2 ^ n : Nat) : Int) := by rw [Int.one_mul]; exact (Int.natCast_pow 2 n).symm
theorem and_pair {s A B : Nat} : (s &&& (2 ^ A ||| 2 ^ B) ≠ 0) ↔ s.testBit A = true ∨ s.testBit B = true := by
  constructor
  · intro h
    refine Classical.byContradiction fun hn => h ?_
    rw [not_or] at hn
    apply Nat.eq_of_testBit_eq
    intro i
    rw [Nat.testBit_and, Nat.testBit_or, Nat.testBit_two_pow, Nat.testBit_two_pow, Nat.zero_testBit]
    by_cases hA : A = i
    · subst hA
      rw [show s.testBit A = false by simpa using hn.1]; rfl
    · by_cases hB : B = i
      · subst hB
        rw [show s.testBit B = false by simpa using hn.2]; rfl
      · rw [decide_eq_false hA, decide_eq_false hB]; simp
  · intro h e
    rcases h with h | h
    · have : (s &&& (2 ^ A ||| 2 ^ B)).testBit A = true := by rw [Nat.testBit_and, h, Nat.testBit_or, Nat.testBit_two_pow_self]; rfl
      rw [e, Nat.zero_testBit] at this; cases this
    · have : (s &&& (2 ^ A ||| 2 ^ B)).testBit B = true := by rw [Nat.testBit_and, h, Nat.testBit_or, Nat.testBit_two_pow_self]; simp
      rw [e, Nat.zero_testBit] at this; cases this
/-- Carriers -/
theorem carriersR_any {r : House} (hV : ValidH r) {q : Course} (hq1 : q.owners.length = r.np) (hq2 : q.hours.length = r.tn) {bs : List Boil} : ∀ (k : Nat) {h : Mem} {v cv bv2 : Value}, k ≤ 1000 → IsHouse h v r → IsCourseV h cv q → IsBoils h bv2 bs →
    FnV Tryz.prog 122 #[v, cv, bv2, vi ((k : Int) - 1)] h (vi (carN r.sick r.touches r.th q bs k : Nat)) := by
  have h10 := hV.th
  have htn : r.tn ≤ 6 := hV.touchN
  have hlt : ∀ k, carN r.sick r.touches r.th q bs k < 2 ^ r.th := fun k => carN_lt (by omega) hV.touchLt (by omega) k
  have hp10 : 2 ^ r.th ≤ 2 ^ 10 := Nat.pow_le_pow_right (by omega) h10.2.2
  intro k
  induction k with
  | zero =>
    intro h v cv bv2 _ hv hc hb
    obtain ⟨wv, pv, kv, tv, bv, sv, f, rfl, hA⟩ := hv
    obtain ⟨ov, hv2, rfl, hO, hH⟩ := hc
    have hK := hA.K
    refine FnR.val ?_
    refine FnR.of_W (n := 99) Tryz.func122 rfl rfl (Nat.le_of_ble_eq_true rfl) fun c hr hD hF => ?_
    refine W.seq ?_; refine W.region ?_
    refine WL.box rfl rfl rfl rfl (fun b4 => ?_)
    refine WL.box rfl rfl rfl rfl (fun b5 => ?_)
    refine .o rfl ?_; refine WL.nil ?_
    refine Kseq.go (W.seq ?_)
    refine W.region ?_; refine .o rfl ?_; refine WL.nil ?_
    refine Kseq.go (W.seq (W.seq ?_))
    refine W.region ?_
    iterate 2 refine .o rfl ?_
    refine WL.nil ?_; refine Kseq.go ?_; refine W.condT rfl rfl ?_
    refine W.seq (W.seq ?_)
    refine W.region ?_; refine .o rfl ?_; refine WL.nil ?_
    refine Kseq.go (W.block ?_)
    let p : Nat → Bool := fun i => decide (q.owners.getD i 0 ∈ r.sick)
    refine W.loop (σ := Nat) (fun i => [(4, .pointer (some ⟨b4, 0, none⟩)), (5, .pointer (some ⟨b5, 0, none⟩)), (9, vi (bset i p : Nat)), (10, vi (i : Int))]) (fun _ => [h]) (fun _ => [.blk b5 #[ov, hv2] 76, .blk b4 (hcs wv pv kv tv bv sv r) 31]) (fun i => i ≤ q.owners.length) (fun i => q.owners.length - i) 0 ⟨rfl, rfl, rfl, rfl, trivial⟩ (by simp) (.refl _) (Nat.zero_le _) ?_
    rintro i hi
    try dsimp only at hi ⊢
    have hbl := bset_lt p i
    have hpi : 2 ^ i ≤ 2 ^ 10 := Nat.pow_le_pow_right (by omega) (by omega)
    have hpo : 0 < 2 ^ i := Nat.pow_pos (by omega)
    refine W.seq (W.seq ?_)
    refine W.region ?_; refine .o rfl ?_; refine .val (.fieldAddrB rfl) rfl rfl rfl ?_; refine .val (.loadB rfl (.head _) rfl) rfl rfl rfl ?_; refine .val (.len rfl hO) rfl rfl rfl ?_; refine .o rfl ?_; refine WL.nil ?_; refine Kseq.go ?_
    refine W.condD rfl rfl (fun hlt2 => ?_) (fun hge => ?_)
    · have hil : i < q.owners.length := by omega
      refine W.skip (Kseq.go (W.seq (W.block (W.seq ?_))))
      refine W.draw 7 (by kernel_rfl) (by kernel_rfl) (by kernel_rfl) rfl ?_; refine .val [] (.fieldAddrB rfl) rfl rfl rfl rfl ?_; refine .val [] (.loadB rfl (.tail _ (.head _)) rfl) rfl rfl rfl rfl ?_; refine .val [] (.fieldAddrB rfl) rfl rfl rfl rfl ?_; refine .val [] (.loadB rfl (.head _) rfl) rfl rfl rfl rfl ?_; refine .val [] (.opv rfl) rfl rfl rfl rfl ?_; refine .val [] (.indexAddrN rfl rfl hO hil) rfl rfl rfl rfl ?_; refine .val [] (.loadE rfl hO (by repeat constructor) hil (by omega)) rfl rfl rfl rfl ?_; refine DJ.nil ?_; refine .val (.cast (.call rfl (fun m hm => has_any _ (hK.le (by repeat first | exact hm.1 | replace hm := hm.2)))) (show _ = Value.bool (p i) from rfl)) rfl rfl rfl ?_; refine WL.nil ?_; refine Kseq.go ?_
      refine W.cond rfl rfl (fun hb2 => ?_) (fun hb2 => ?_)
      · have e : bset (i + 1) p = bset i p ||| 2 ^ i := by simp only [bset]; rw [if_pos hb2]
        refine W.region ?_
        iterate 2 refine .o rfl ?_
        refine .val (.conv rfl (wrap_u64 (by omega) (by omega))) rfl rfl rfl ?_
        refine .val ((OpVal.shl rfl rfl (by omega) (by rw [pow_cast]; omega) (by rw [pow_cast]; omega)).cast (congrArg (Value.int .i64) (pow_cast i))) rfl rfl rfl ?_
        refine .val (.bor rfl rfl (by omega) (by omega)) rfl rfl rfl ?_; refine .o rfl ?_; refine WL.nil ?_
        refine Kblock.normal (Kseq.go ?_)
        refine W.region ?_; refine .o rfl ?_; refine .val (.incr rfl (by omega)) rfl rfl rfl ?_; refine .o rfl ?_; refine WL.nil ?_
        exact Kloop.next (i + 1) (by omega) (by omega) ⟨rfl, rfl, congrArg (fun x : Nat => some (Value.int .i64 (x : Int))) e.symm, rfl, trivial⟩ (by simp) (by repeat first | exact .refl _ | refine .cons _ ?_)
      · have e : bset (i + 1) p = bset i p := by simp only [bset]; rw [if_neg (by rw [hb2]; exact Bool.false_ne_true)]
        refine W.skip (Kblock.normal (Kseq.go ?_))
        refine W.region ?_; refine .o rfl ?_; refine .val (.incr rfl (by omega)) rfl rfl rfl ?_; refine .o rfl ?_; refine WL.nil ?_
        exact Kloop.next (i + 1) (by omega) (by omega) ⟨rfl, rfl, congrArg (fun x : Nat => some (Value.int .i64 (x : Int))) e.symm, rfl, trivial⟩ (by simp) (by repeat first | exact .refl _ | refine .cons _ ?_)
    · have hii : i = q.owners.length := by omega
      subst hii
      refine W.exit (Kseq.exit (Kloop.exit (Kblock.here (Kseq.go (W.seq ?_)))))
      refine W.region ?_
      iterate 2 refine .o rfl ?_
      refine WL.nil ?_; refine Kseq.go ?_
      refine W.ret ?_; refine Kseq.ret ?_; refine ⟨.inl rfl, [_], h, ⟨.tmp rfl, trivial⟩, (by repeat constructor), ?_⟩
      rfl
  | succ k ih =>
    intro h v cv bv2 hk1 hv hc hb
    have hv' := hv
    have hc' := hc
    obtain ⟨wv, pv, kv, tv, bv, sv, f, rfl, hA⟩ := hv
    obtain ⟨ov, hv2, rfl, hO, hH⟩ := hc
    have hT := hA.T
    have hth := hV.thW
    refine FnR.val ?_
    refine FnR.of_W (n := 99) Tryz.func122 rfl rfl (Nat.le_of_ble_eq_true rfl) fun c hr hD hF => ?_
    refine W.seq ?_; refine W.region ?_
    refine WL.box rfl rfl rfl rfl (fun b4 => ?_)
    refine WL.box rfl rfl rfl rfl (fun b5 => ?_)
    refine .o rfl ?_; refine WL.nil ?_
    refine Kseq.go (W.seq ?_)
    refine W.region ?_; refine .o rfl ?_; refine WL.nil ?_
    refine Kseq.go (W.seq (W.seq ?_))
    refine W.region ?_
    iterate 2 refine .o rfl ?_
    refine WL.nil ?_; refine Kseq.go ?_
    refine W.condD rfl rfl (fun he => absurd he (by omega)) (fun hne => ?_)
    have hL := hlt k
    obtain ⟨s0, hs0⟩ : ∃ s, carN r.sick r.touches r.th q bs k = s := ⟨_, rfl⟩
    rw [hs0] at hL
    have hL64 : s0 < 2 ^ 64 := Nat.lt_of_lt_of_le hL (Nat.le_trans hp10 (Nat.pow_le_pow_right (by omega) (by omega)))
    refine W.skip (Kseq.go (W.seq ?_))
    refine W.region ?_; refine .val (.loadBW rfl (.tail _ (.head _)) rfl) rfl rfl rfl ?_; refine .val (.loadBW rfl (.head _) rfl) rfl rfl rfl ?_
    iterate 2 refine .o rfl ?_
    refine .val (.cast (.sub rfl rfl (by omega) (by omega)) (show _ = vi ((k : Int) - 1) from congrArg (Value.int .i64) (by omega))) rfl rfl rfl ?_; refine .val (.cast (.call rfl (fun m hm => ih (by omega) (hv'.le (by repeat first | exact hm.1 | replace hm := hm.2)) (hc'.le (by repeat first | exact hm.1 | replace hm := hm.2)) (hb.le (by repeat first | exact hm.1 | replace hm := hm.2)))) (show _ = vi (s0 : Nat) from by rw [hs0])) rfl rfl rfl ?_; refine .o rfl ?_; refine WL.nil ?_
    refine Kseq.go (W.seq (W.seq ?_))
    refine W.region ?_; refine .o rfl ?_; refine WL.nil ?_
    refine Kseq.go (W.block ?_)
    have hbl : ∀ n, n ≤ r.th → boilN bs k s0 n ≤ s0 := fun n hn => (boilN_spec hL64 n (by omega)).1
    refine W.loop (σ := Nat) (fun i => [(2, bv2), (3, vi (((k + 1 : Nat) : Int) - 1)), (4, .pointer (some ⟨b4, 0, none⟩)), (5, .pointer (some ⟨b5, 0, none⟩)), (9, vi (boilN bs k s0 i : Nat)), (11, vi (i : Int))]) (fun _ => [h]) (fun _ => [.blk b5 #[ov, hv2] 76, .blk b4 (hcs wv pv kv tv bv sv r) 31]) (fun i => i ≤ r.th) (fun i => r.th - i) 0 ⟨rfl, rfl, rfl, rfl, rfl, rfl, trivial⟩ (by simp) (.refl _) (Nat.zero_le _) ?_
    rintro i hi
    try dsimp only at hi ⊢
    have hbi := hbl i hi
    have hpi : 2 ^ i ≤ 2 ^ 10 := Nat.pow_le_pow_right (by omega) (by omega)
    have hpo : 0 < 2 ^ i := Nat.pow_pos (by omega)
    refine W.seq (W.seq ?_)
    refine W.region ?_; refine .o rfl ?_; refine .val (.loadBW rfl (.tail _ (.head _)) rfl) rfl rfl rfl ?_; refine .val (.cast (.call rfl (fun m hm => thingsR_any (hv'.le (by repeat first | exact hm.1 | replace hm := hm.2)))) (congrArg (Value.int .i64) hth)) rfl rfl rfl ?_; refine .o rfl ?_; refine WL.nil ?_; refine Kseq.go ?_
    refine W.condD rfl rfl (fun hlt2 => ?_) (fun hge => ?_)
    · have hil : i < r.th := by omega
      refine W.skip (Kseq.go (W.seq (W.block (W.seq ?_))))
      refine W.region ?_
      iterate 3 refine .o rfl ?_
      refine .val (.cast (.call rfl (fun m hm => isBoiledR_any _ _ (hb.le (by repeat first | exact hm.1 | replace hm := hm.2)))) (show _ = Value.bool (isBoiled bs (i : Int) (k : Int)) from by rw [show ((k + 1 : Nat) : Int) - 1 = (k : Int) by omega])) rfl rfl rfl ?_; refine WL.nil ?_; refine Kseq.go ?_
      refine W.cond rfl rfl (fun hb2 => ?_) (fun hb2 => ?_)
      · have e : boilN bs k s0 (i + 1) = without (boilN bs k s0 i) (2 ^ i) := by simp only [boilN]; rw [if_pos hb2]
        refine W.region ?_
        iterate 2 refine .o rfl ?_
        refine .val (.conv rfl (wrap_u64 (by omega) (by omega))) rfl rfl rfl ?_
        refine .val ((OpVal.shl rfl rfl (by omega) (by rw [pow_cast]; omega) (by rw [pow_cast]; omega)).cast (congrArg (Value.int .i64) (pow_cast i))) rfl rfl rfl ?_
        refine .val (.bandNot rfl rfl (by omega) (by omega)) rfl rfl rfl ?_; refine .o rfl ?_; refine WL.nil ?_
        refine Kblock.normal (Kseq.go ?_)
        refine W.region ?_; refine .o rfl ?_; refine .val (.incr rfl (by omega)) rfl rfl rfl ?_; refine .o rfl ?_; refine WL.nil ?_
        exact Kloop.next (i + 1) (by omega) (by omega) ⟨rfl, rfl, rfl, rfl, congrArg (fun x : Nat => some (Value.int .i64 (x : Int))) e.symm, rfl, trivial⟩ (by simp) (by repeat first | exact .refl _ | refine .cons _ ?_)
      · have e : boilN bs k s0 (i + 1) = boilN bs k s0 i := by simp only [boilN]; rw [if_neg (by rw [hb2]; exact Bool.false_ne_true)]
        refine W.skip (Kblock.normal (Kseq.go ?_))
        refine W.region ?_; refine .o rfl ?_; refine .val (.incr rfl (by omega)) rfl rfl rfl ?_; refine .o rfl ?_; refine WL.nil ?_
        exact Kloop.next (i + 1) (by omega) (by omega) ⟨rfl, rfl, rfl, rfl, congrArg (fun x : Nat => some (Value.int .i64 (x : Int))) e.symm, rfl, trivial⟩ (by simp) (by repeat first | exact .refl _ | refine .cons _ ?_)
    have hii : i = r.th := by omega
    subst hii
    obtain ⟨s1, hs1⟩ : ∃ s, boilN bs k s0 r.th = s := ⟨_, rfl⟩
    rw [hs1] at hbi ⊢
    have hL1 : s1 < 2 ^ r.th := by omega
    have htl : ∀ n, n ≤ r.touches.length → touchN r.touches q k s1 n < 2 ^ r.th := fun n hn => touchN_lt hV.touchLt hL1 n hn
    refine W.exit (Kseq.exit (Kloop.exit (Kblock.here (Kseq.go (W.seq (W.seq ?_))))))
    refine W.region ?_; refine .o rfl ?_; refine WL.nil ?_
    refine Kseq.go (W.block ?_)
    refine W.loop (σ := Nat) (fun i => [(3, vi (((k + 1 : Nat) : Int) - 1)), (4, .pointer (some ⟨b4, 0, none⟩)), (5, .pointer (some ⟨b5, 0, none⟩)), (9, vi (touchN r.touches q k s1 i : Nat)), (12, vi (i : Int))]) (fun _ => [h]) (fun _ => [.blk b5 #[ov, hv2] 76, .blk b4 (hcs wv pv kv tv bv sv r) 31]) (fun i => i ≤ r.touches.length) (fun i => r.touches.length - i) 0 ⟨rfl, rfl, rfl, rfl, rfl, trivial⟩ (by simp) (.refl _) (Nat.zero_le _) ?_
    rintro i hi
    try dsimp only at hi ⊢
    have hti := htl i hi
    refine W.seq (W.seq ?_)
    refine W.region ?_; refine .o rfl ?_; refine .val (.fieldAddrB rfl) rfl rfl rfl ?_; refine .val (.loadB rfl (.tail _ (.head _)) rfl) rfl rfl rfl ?_; refine .val (.len rfl hT) rfl rfl rfl ?_; refine .o rfl ?_; refine WL.nil ?_; refine Kseq.go ?_
    refine W.condD rfl rfl (fun hlt2 => ?_) (fun hge => ?_)
    · have hil : i < r.touches.length := by omega
      have hih : i < q.hours.length := by rw [hq2]; exact hil
      have hok := touchOk_iff.1 (hV.touch i hil)
      have hot := hV.others
      obtain ⟨A, hA1⟩ : ∃ A : Nat, (r.touches.getD i default).a = A := ⟨(r.touches.getD i default).a.toNat, by omega⟩
      obtain ⟨B, hB1⟩ : ∃ B : Nat, (r.touches.getD i default).b = B := ⟨(r.touches.getD i default).b.toNat, by omega⟩
      have hA10 : A < 10 := by omega
      have hB10 : B < 10 := by omega
      have hpA : 2 ^ A ≤ 2 ^ 10 := Nat.pow_le_pow_right (by omega) (by omega)
      have hpB : 2 ^ B ≤ 2 ^ 10 := Nat.pow_le_pow_right (by omega) (by omega)
      have hpoA : 0 < 2 ^ A := Nat.pow_pos (by omega)
      have hpoB : 0 < 2 ^ B := Nat.pow_pos (by omega)
      have hpair : 2 ^ A ||| 2 ^ B < 2 ^ 10 := Nat.or_lt_two_pow (Nat.pow_lt_pow_right (by omega) hA10) (Nat.pow_lt_pow_right (by omega) hB10)
      obtain ⟨s2, hs2⟩ : ∃ s, touchN r.touches q k s1 i = s := ⟨_, rfl⟩
      have hstep : touchN r.touches q k s1 (i + 1) = if touchB r.touches q k s2 i = true then s2 ||| (2 ^ A ||| 2 ^ B) else s2 := by simp only [touchN]; rw [hs2, hA1, hB1]; rfl
      have htb : touchB r.touches q k s2 i = (decide (q.hours.getD i 0 = (k : Int)) && decide (s2 &&& (2 ^ A ||| 2 ^ B) ≠ 0)) := by
        unfold touchB
        rw [hA1, hB1]
        congr 1
        rw [Bool.eq_iff_iff, decide_eq_true_eq, and_pair, Bool.or_eq_true]
        exact Iff.rfl
      rw [hs2] at hti ⊢
      obtain ⟨pr, hpr⟩ : ∃ pr, 2 ^ A ||| 2 ^ B = pr := ⟨_, rfl⟩
      rw [hpr] at hstep htb hpair
      refine W.skip (Kseq.go (W.seq (W.block (W.seq ?_))))
      refine W.draw 16 (by kernel_rfl) (by kernel_rfl) (by kernel_rfl) rfl ?_; refine .val [] (.fieldAddrB rfl) rfl rfl rfl rfl ?_; refine .val [] (.loadB rfl (.tail _ (.head _)) rfl) rfl rfl rfl rfl ?_; refine .val [] (.opv rfl) rfl rfl rfl rfl ?_; refine .val [] (.indexAddrN rfl rfl hT hil) rfl rfl rfl rfl ?_; refine .val [] (.fieldAddrN rfl hT hil) rfl rfl rfl rfl ?_; refine .val [] (.cast (.loadE rfl hT (by repeat constructor) hil (by omega)) (congrArg (Value.int .i64) hA1)) rfl rfl rfl rfl ?_; refine .val [] (.conv rfl (wrap_u64 (by omega) (by omega))) rfl rfl rfl rfl ?_
      refine .val [] ((OpVal.shl rfl rfl (by omega) (by rw [pow_cast]; omega) (by rw [pow_cast]; omega)).cast (congrArg (Value.int .i64) (pow_cast A))) rfl rfl rfl rfl ?_
      refine .val [] (.fieldAddrB rfl) rfl rfl rfl rfl ?_; refine .val [] (.loadB rfl (.tail _ (.head _)) rfl) rfl rfl rfl rfl ?_; refine .val [] (.opv rfl) rfl rfl rfl rfl ?_; refine .val [] (.indexAddrN rfl rfl hT hil) rfl rfl rfl rfl ?_; refine .val [] (.fieldAddrN rfl hT hil) rfl rfl rfl rfl ?_; refine .val [] (.cast (.loadE rfl hT (by repeat constructor) hil (by omega)) (congrArg (Value.int .i64) hB1)) rfl rfl rfl rfl ?_; refine .val [] (.conv rfl (wrap_u64 (by omega) (by omega))) rfl rfl rfl rfl ?_
      refine .val [] ((OpVal.shl rfl rfl (by omega) (by rw [pow_cast]; omega) (by rw [pow_cast]; omega)).cast (congrArg (Value.int .i64) (pow_cast B))) rfl rfl rfl rfl ?_
      refine DJ.nil ?_; refine .val (.cast (.bor rfl rfl (by omega) (by omega)) (congrArg (fun x : Nat => vi (x : Int)) hpr)) rfl rfl rfl ?_; refine .o rfl ?_; refine WL.nil ?_
      refine Kseq.go (W.seq ?_)
      refine W.toS [(3, vi (((k + 1 : Nat) : Int) - 1)), (4, .pointer (some ⟨b4, 0, none⟩)), (5, .pointer (some ⟨b5, 0, none⟩)), (9, vi (s2 : Nat)), (12, vi (i : Int)), (13, vi (pr : Nat)), (94, .bool (touchB r.touches q k s2 i))] ?_ ?_
      · skip
        refine W.region ?_; refine .val (.fieldAddrB rfl) rfl rfl rfl ?_; refine .val (.loadB rfl (.head _) rfl) rfl rfl rfl ?_; refine .o rfl ?_; refine .val (.indexAddrN rfl rfl hH hih) rfl rfl rfl ?_; refine .val (.loadE rfl hH (by repeat constructor) hih (by omega)) rfl rfl rfl ?_; refine .o rfl ?_; refine .val (.cast (.opv rfl) (show _ = Value.bool (decide (q.hours.getD i 0 = (k : Int))) from congrArg Value.bool (decide_eq_decide.2 (by omega)))) rfl rfl rfl ?_; refine .o rfl ?_
        refine WL.split rfl rfl (fun g89 => ?_) (fun g89 => ?_)
        · refine .o rfl ?_
          refine .o rfl ?_; refine .val (.band rfl rfl (by omega) (by omega)) rfl rfl rfl ?_
          refine .val (.cast (.opv rfl) (show _ = Value.bool (decide (s2 &&& pr ≠ 0)) from congrArg Value.bool (by rw [← decide_not]; exact decide_eq_decide.2 (by omega)))) rfl rfl rfl ?_
          refine .o rfl ?_; refine WL.nil ?_
          exact Keff.intro ⟨rfl, rfl, rfl, rfl, rfl, rfl, congrArg (fun b => some (Value.bool b)) (by rw [htb]; exact (by first | (simp [-List.getD_eq_getElem?_getD]; done) | (simp_all [-List.getD_eq_getElem?_getD]; done) | (simp [-List.getD_eq_getElem?_getD]; omega) | (rw [Bool.eq_iff_iff]; simp [-List.getD_eq_getElem?_getD]; omega) | (simp [-List.getD_eq_getElem?_getD] at *; omega))), trivial⟩ (by simp) (by repeat first | exact .refl _ | refine .cons _ ?_)
        · refine WL.pass rfl rfl rfl ?_
          refine WL.pass rfl rfl rfl ?_; refine WL.pass rfl rfl rfl ?_; refine WL.pass rfl rfl rfl ?_; refine .o rfl ?_; refine WL.nil ?_
          exact Keff.intro ⟨rfl, rfl, rfl, rfl, rfl, rfl, congrArg (fun b => some (Value.bool b)) (by rw [htb]; exact (by first | (simp [-List.getD_eq_getElem?_getD]; done) | (simp_all [-List.getD_eq_getElem?_getD]; done) | (simp [-List.getD_eq_getElem?_getD]; omega) | (rw [Bool.eq_iff_iff]; simp [-List.getD_eq_getElem?_getD]; omega) | (simp [-List.getD_eq_getElem?_getD] at *; omega))), trivial⟩ (by simp) (by repeat first | exact .refl _ | refine .cons _ ?_)
      refine Kseq.go ?_
      refine W.cond rfl rfl (fun hb2 => ?_) (fun hb2 => ?_)
      · rw [if_pos hb2] at hstep
        refine W.region ?_
        iterate 2 refine .o rfl ?_
        refine .val (.bor rfl rfl (by omega) (by omega)) rfl rfl rfl ?_; refine .o rfl ?_; refine WL.nil ?_
        refine Kblock.normal (Kseq.go ?_)
        refine W.region ?_; refine .o rfl ?_; refine .val (.incr rfl (by omega)) rfl rfl rfl ?_; refine .o rfl ?_; refine WL.nil ?_
        exact Kloop.next (i + 1) (by omega) (by omega) ⟨rfl, rfl, rfl, congrArg (fun x : Nat => some (Value.int .i64 (x : Int))) hstep.symm, rfl, trivial⟩ (by simp) (by repeat first | exact .refl _ | refine .cons _ ?_)
      · rw [if_neg (by rw [hb2]; exact Bool.false_ne_true)] at hstep
        refine W.skip (Kblock.normal (Kseq.go ?_))
        refine W.region ?_; refine .o rfl ?_; refine .val (.incr rfl (by omega)) rfl rfl rfl ?_; refine .o rfl ?_; refine WL.nil ?_
        exact Kloop.next (i + 1) (by omega) (by omega) ⟨rfl, rfl, rfl, congrArg (fun x : Nat => some (Value.int .i64 (x : Int))) hstep.symm, rfl, trivial⟩ (by simp) (by repeat first | exact .refl _ | refine .cons _ ?_)
    have hii : i = r.touches.length := by omega
    subst hii
    have hfin : carN r.sick r.touches r.th q bs (k + 1) = touchN r.touches q k s1 r.touches.length := by simp only [carN]; rw [hs0, hs1]
    refine W.exit (Kseq.exit (Kloop.exit (Kblock.here (Kseq.go (W.seq ?_)))))
    refine W.region ?_
    iterate 2 refine .o rfl ?_
    refine WL.nil ?_; refine Kseq.go ?_
    refine W.ret ?_; refine ⟨.inl rfl, [_], h, ⟨.tmp rfl, trivial⟩, (by repeat constructor), ?_⟩
    rw [hfin]; rfl
end Go.Proofs.YtdnbkjgbehakpaaGreat

/- The reference's functions of chapter 6: Last. -/
namespace Go.Proofs.YtdnbkjgbehakpaaGreat
open Go Go.Eng Go.RowKit

theorem bcells_at {bs : List Boil} {i j : Nat} (hi : i < bs.length) (hj : j < 2) : (flatv (bs.map bv2)).getD (i * 2 + j) undef = (match j with | 0 => vi (bs.getD i default).thing | _ => vi (bs.getD i default).hour) := by
  have h := flat_at (vs := bs.map bv2) (k := 2) (by omega) (fun u hu => by obtain ⟨y, _, rfl⟩ := List.mem_map.1 hu; rfl) (i := i) (j := j) (by simpa using hi) hj
  have e : (bs.map bv2).getD i undef = bv2 (bs.getD i default) := by simp [List.getD_eq_getElem?_getD, List.getElem?_eq_getElem hi]
  rw [h, e]
  match j, hj with
  | 0, _ => rfl
  | 1, _ => rfl
theorem bcells_len (bs : List Boil) : (flatv (bs.map bv2)).length = bs.length * 2 := by
  unfold flatv
  rw [List.flatMap_map]
  exact flat_len _ _ 2 fun _ _ => rfl
theorem IsBoils.toCells {m : Mem} {v : Value} {bs : List Boil} (h : IsBoils m v bs) : IsCells m 2 v bs.length (flatv (bs.map bv2)) :=
  ⟨bcells_len bs, IsArr.congr h fun i j hi hj => by
    have e := bcells_at hi hj
    match j, hj, e with
    | 0, _, e => exact e.symm
    | 1, _, e => exact e.symm⟩
theorem boils_cells {m : Mem} {v : Value} {bs : List Boil} {n : Nat} (hn : n = bs.length) (h : IsArr m 2 v n (fun i j => (flatv (bs.map bv2)).getD (i * 2 + j) undef)) : IsBoils m v bs := by
  subst hn
  refine h.congr fun i j hi hj => ?_
  have e := bcells_at hi hj
  match j, hj, e with
  | 0, _, e => exact e
  | 1, _, e => exact e
theorem bcells_one (bs : List Boil) : ∀ u ∈ flatv (bs.map bv2), u.oneCell' = true := by
  intro u hu
  unfold flatv at hu
  obtain ⟨x, hx, hu⟩ := List.mem_flatMap.1 hu
  obtain ⟨y, _, rfl⟩ := List.mem_map.1 hx
  simp [bv2, Value.cells] at hu
  rcases hu with rfl | rfl <;> rfl
/-- Last -/
theorem lastR_any {h : Mem} {v cv mv : Value} {r : House} {q : Course} {more : List Boil} (hv : IsHouse h v r) (hV : ValidH r) (hc : IsCourseV h cv q) (hq1 : q.owners.length = r.np) (hq2 : q.hours.length = r.tn) (hmo : IsBoils h mv more) (hml : more.length ≤ 1000) :
    FnV Tryz.prog 68 #[v, cv, mv] h (vi (lastN r q more : Nat)) := by
  have hv' := hv
  have hc' := hc
  obtain ⟨wv, pv, kv, tv, bv, sv, f, rfl, hA⟩ := hv
  obtain ⟨ov, hv2, rfl, hO, hH⟩ := hc
  have hB := hA.B
  have hBc := hB.toCells
  have hMc := hmo.toCells
  have hbn := hV.boilN
  have hla := hV.last
  obtain ⟨L, hL⟩ : ∃ L : Nat, (r.last + 1).toNat = L := ⟨_, rfl⟩
  have hL2 : r.last = (L : Int) - 1 := by omega
  refine FnR.val ?_
  refine FnR.of_W (n := 18) Tryz.func68 rfl rfl (Nat.le_of_ble_eq_true rfl) fun c hr hD hF => ?_
  refine W.seq ?_; refine W.region ?_
  refine WL.box rfl rfl rfl rfl (fun b3 => ?_)
  refine WL.box rfl rfl rfl rfl (fun b4 => ?_)
  refine .o rfl ?_; refine WL.nil ?_
  refine Kseq.go (W.seq ?_)
  let l0 : List (Nat × Value) := [(2, mv), (3, .pointer (some ⟨b3, 0, none⟩)), (4, .pointer (some ⟨b4, 0, none⟩))]
  let μ0 : List Res := [.blk b4 #[ov, hv2] 76, .blk b3 (hcs wv pv kv tv bv sv r) 31]
  refine W.weaken l0 [h] μ0 (by repeat (first | exact trivial | refine ⟨rfl, ?_⟩)) (by simp) (.refl _) ?_; refine W.drawN (γ := Ph3 Nat (Option Addr × Nat) (Option Addr × Nat)) .a 10 [2, 5, 7] (Ph3.sel l0 (fun b => (9, .slice (some ⟨b, 0, none⟩) 0 0) :: l0) (fun b g => (12, .slice g.1 (0 + r.boiled.length) g.2) :: (9, .slice (some ⟨b, 0, none⟩) 0 0) :: l0) (fun b g g2 => (14, .slice g2.1 (0 + r.boiled.length + more.length) g2.2) :: (12, .slice g.1 (0 + r.boiled.length) g.2) :: (9, .slice (some ⟨b, 0, none⟩) 0 0) :: l0)) (Ph3.sel μ0 (fun b => .row 81 2 (.slice (some ⟨b, 0, none⟩) 0 0) 0 [] :: μ0) (fun b g => .row 81 2 (.slice g.1 (0 + r.boiled.length) g.2) (0 + r.boiled.length) ([] ++ flatv (r.boiled.map bv2)) :: μ0) (fun b g g2 => .row 81 2 (.slice g2.1 (0 + r.boiled.length + more.length) g2.2) (0 + r.boiled.length + more.length) ([] ++ flatv (r.boiled.map bv2) ++ flatv (more.map bv2)) :: μ0)) Ph3.num (by kernel_rfl) (by kernel_rfl) (by kernel_rfl) rfl Ph3.le (Ph3.all rfl (fun _ => rfl) (fun _ _ => rfl) (fun _ _ _ => rfl)) rfl rfl ?_
  refine DJN.val [] (Ph3.all (fun hg => (by first | exact OpVal.loadBW rfl (.tail _ (.head _)) rfl | exact OpVal.loadBW rfl (.tail _ (.tail _ (.head _))) rfl)) (fun x1 hg => (by first | exact OpVal.loadBW rfl (.tail _ (.head _)) rfl | exact OpVal.loadBW rfl (.tail _ (.tail _ (.head _))) rfl)) (fun x1 x2 hg => (by first | exact OpVal.loadBW rfl (.tail _ (.head _)) rfl | exact OpVal.loadBW rfl (.tail _ (.tail _ (.head _))) rfl)) (fun x1 x2 x3 hg => (by first | exact OpVal.loadBW rfl (.tail _ (.head _)) rfl | exact OpVal.loadBW rfl (.tail _ (.tail _ (.head _))) rfl))) (Ph3.all (fun hg => rfl) (fun x1 hg => rfl) (fun x1 x2 hg => rfl) (fun x1 x2 x3 hg => rfl)) rfl rfl (Ph3.all rfl (fun _ => rfl) (fun _ _ => rfl) (fun _ _ _ => rfl)) rfl ?_; refine DJN.val [] (Ph3.all (fun hg => (by first | exact OpVal.loadBW rfl (.head _) rfl | exact OpVal.loadBW rfl (.tail _ (.head _)) rfl)) (fun x1 hg => (by first | exact OpVal.loadBW rfl (.head _) rfl | exact OpVal.loadBW rfl (.tail _ (.head _)) rfl)) (fun x1 x2 hg => (by first | exact OpVal.loadBW rfl (.head _) rfl | exact OpVal.loadBW rfl (.tail _ (.head _)) rfl)) (fun x1 x2 x3 hg => (by first | exact OpVal.loadBW rfl (.head _) rfl | exact OpVal.loadBW rfl (.tail _ (.head _)) rfl))) (Ph3.all (fun hg => rfl) (fun x1 hg => rfl) (fun x1 x2 hg => rfl) (fun x1 x2 x3 hg => rfl)) rfl rfl (Ph3.all rfl (fun _ => rfl) (fun _ _ => rfl) (fun _ _ _ => rfl)) rfl ?_
  refine DJN.eff 0 [] trivial rfl rfl [] trivial (Ph3.all (fun hg => ⟨rfl, fun M2 hM2 => ?_⟩) (fun x1 hg => absurd hg (by simp [Ph3.num])) (fun x1 x2 hg => absurd hg (by simp [Ph3.num])) (fun x1 x2 x3 hg => absurd hg (by simp [Ph3.num]))) ?_
  · (refine WL.lit (vs := []) [] rfl (Nat.le_of_ble_eq_true rfl) rfl rfl (by simp) (Nat.le_of_ble_eq_true rfl) rfl rfl rfl rfl (fun b9 => ?_); exact WL.nil ⟨.b b9, rfl, Keff.intro (by repeat (first | exact trivial | refine ⟨rfl, ?_⟩)) (fun x hx => hx) (.refl _)⟩)
  refine DJN.val [] (Ph3.all (fun hg => OpVal.fieldAddrB rfl) (fun x1 hg => OpVal.fieldAddrB rfl) (fun x1 x2 hg => OpVal.fieldAddrB rfl) (fun x1 x2 x3 hg => OpVal.fieldAddrB rfl)) (Ph3.all (fun hg => rfl) (fun x1 hg => rfl) (fun x1 x2 hg => rfl) (fun x1 x2 x3 hg => rfl)) rfl rfl (Ph3.all rfl (fun _ => rfl) (fun _ _ => rfl) (fun _ _ _ => rfl)) rfl ?_; refine DJN.val [] (Ph3.all (fun hg => (by first | exact OpVal.loadB rfl (.tail _ (.head _)) rfl | exact OpVal.loadB rfl (.tail _ (.tail _ (.head _))) rfl)) (fun x1 hg => (by first | exact OpVal.loadB rfl (.tail _ (.head _)) rfl | exact OpVal.loadB rfl (.tail _ (.tail _ (.head _))) rfl)) (fun x1 x2 hg => Bool.noConfusion (show false = true from hg)) (fun x1 x2 x3 hg => Bool.noConfusion (show false = true from hg))) (Ph3.all (fun hg => rfl) (fun x1 hg => rfl) (fun x1 x2 hg => Bool.noConfusion (show false = true from hg)) (fun x1 x2 x3 hg => Bool.noConfusion (show false = true from hg))) rfl rfl (Ph3.all rfl (fun _ => rfl) (fun _ _ => rfl) (fun _ _ _ => rfl)) rfl ?_
  refine DJN.eff 1 [(11, _)] ⟨rfl, trivial⟩ rfl rfl [] trivial (Ph3.all (fun hg => absurd hg (by simp [Ph3.num])) (fun x1 hg => ⟨rfl, fun M2 hM2 => ?_⟩) (fun x1 x2 hg => absurd hg (by simp [Ph3.num])) (fun x1 x2 x3 hg => absurd hg (by simp [Ph3.num]))) ?_
  · (refine WL.append (e := 81) (k := 2) (bytes := 16) (xs := []) (ys := flatv (r.boiled.map bv2)) (N := 0) (m2 := r.boiled.length) (μ' := fun v' => .row 81 2 v' (0 + r.boiled.length) ([] ++ flatv (r.boiled.map bv2)) :: μ0) rfl (fun v' => .head _) rfl hBc (hM2 h (by simp)) rfl (by omega) (by unfold maxLen; omega) (by omega) rfl rfl rfl ?_; intro a12 c12; exact WL.nil ⟨.c x1 (a12, c12), rfl, Keff.intro (by repeat (first | exact trivial | refine ⟨rfl, ?_⟩)) (fun x hx => hx) (.refl _)⟩)
  refine DJN.val [] (Ph3.all (fun hg => OpVal.opv rfl) (fun x1 hg => OpVal.opv rfl) (fun x1 x2 hg => OpVal.opv rfl) (fun x1 x2 x3 hg => Bool.noConfusion (show false = true from hg))) (Ph3.all (fun hg => rfl) (fun x1 hg => rfl) (fun x1 x2 hg => rfl) (fun x1 x2 x3 hg => Bool.noConfusion (show false = true from hg))) rfl rfl (Ph3.all rfl (fun _ => rfl) (fun _ _ => rfl) (fun _ _ _ => rfl)) rfl ?_; refine DJN.eff 2 [(13, _)] ⟨rfl, trivial⟩ rfl rfl [] trivial (Ph3.all (fun hg => absurd hg (by simp [Ph3.num])) (fun x1 hg => absurd hg (by simp [Ph3.num])) (fun x1 x2 hg => ⟨rfl, fun M2 hM2 => ?_⟩) (fun x1 x2 x3 hg => absurd hg (by simp [Ph3.num]))) ?_
  · (refine WL.append (e := 81) (k := 2) (bytes := 16) (xs := [] ++ flatv (r.boiled.map bv2)) (ys := flatv (more.map bv2)) (N := 0 + r.boiled.length) (m2 := more.length) (μ' := fun v' => .row 81 2 v' (0 + r.boiled.length + more.length) ([] ++ flatv (r.boiled.map bv2) ++ flatv (more.map bv2)) :: μ0) rfl (fun v' => .head _) rfl hMc (hM2 h (by simp)) rfl (by omega) (by unfold maxLen; omega) (by omega) rfl rfl rfl ?_; intro a14 c14; exact WL.nil ⟨.d x1 x2 (a14, c14), rfl, Keff.intro (by repeat (first | exact trivial | refine ⟨rfl, ?_⟩)) (fun x hx => hx) (.refl _)⟩)
  refine DJN.val [] (Ph3.all (fun hg => OpVal.fieldAddrB rfl) (fun x1 hg => OpVal.fieldAddrB rfl) (fun x1 x2 hg => OpVal.fieldAddrB rfl) (fun x1 x2 x3 hg => OpVal.fieldAddrB rfl)) (Ph3.all (fun hg => rfl) (fun x1 hg => rfl) (fun x1 x2 hg => rfl) (fun x1 x2 x3 hg => rfl)) rfl rfl (Ph3.all rfl (fun _ => rfl) (fun _ _ => rfl) (fun _ _ _ => rfl)) rfl ?_; refine DJN.val [] (Ph3.all (fun hg => OpVal.cast (by first | exact OpVal.loadB rfl (.tail _ (.head _)) rfl | exact OpVal.loadB rfl (.tail _ (.tail _ (.head _))) rfl) (show Value.int .i64 r.last = vi ((L : Int) - 1) from congrArg (Value.int .i64) hL2)) (fun x1 hg => OpVal.cast (by first | exact OpVal.loadB rfl (.tail _ (.head _)) rfl | exact OpVal.loadB rfl (.tail _ (.tail _ (.head _))) rfl) (show Value.int .i64 r.last = vi ((L : Int) - 1) from congrArg (Value.int .i64) hL2)) (fun x1 x2 hg => OpVal.cast (by first | exact OpVal.loadB rfl (.tail _ (.head _)) rfl | exact OpVal.loadB rfl (.tail _ (.tail _ (.head _))) rfl) (show Value.int .i64 r.last = vi ((L : Int) - 1) from congrArg (Value.int .i64) hL2)) (fun x1 x2 x3 hg => OpVal.cast (by first | exact OpVal.loadB rfl (.tail _ (.head _)) rfl | exact OpVal.loadB rfl (.tail _ (.tail _ (.head _))) rfl) (show Value.int .i64 r.last = vi ((L : Int) - 1) from congrArg (Value.int .i64) hL2))) (Ph3.all (fun hg => rfl) (fun x1 hg => rfl) (fun x1 x2 hg => rfl) (fun x1 x2 x3 hg => rfl)) rfl rfl (Ph3.all rfl (fun _ => rfl) (fun _ _ => rfl) (fun _ _ _ => rfl)) rfl ?_
  refine DJN.nil (Ph3.all (fun hg => absurd hg (by simp [Ph3.num])) (fun x1 hg => absurd hg (by simp [Ph3.num])) (fun x1 x2 hg => absurd hg (by simp [Ph3.num])) (fun x1 x2 x3 hg => ?_))
  (refine WL.freezeCells (.head _) (fun b hb => (hF b hb).elim) (by intro u hu; simp only [List.nil_append, List.mem_append] at hu; rcases hu with hu | hu; exact bcells_one _ u hu; exact bcells_one _ u hu) fun mo hmo => ?_; have hbo : IsBoils mo _ (r.boiled ++ more) := boils_cells (by rw [List.length_append]; omega) (hmo.2.congr fun i j _ _ => by rw [List.nil_append, List.map_append]; unfold flatv; rw [List.flatMap_append]); refine .val (.cast (.call rfl (fun m hm => carriersR_any hV hq1 hq2 L (by omega) (hv'.le (by repeat first | exact hm.1 | replace hm := hm.2)) (hc'.le (by repeat first | exact hm.1 | replace hm := hm.2)) (hbo.le (by repeat first | exact hm.1 | replace hm := hm.2)))) (show _ = vi (lastN r q more : Nat) from by unfold lastN; rw [hL])) rfl rfl rfl ?_)
  refine .o rfl ?_; refine WL.nil ?_; refine Kseq.go ?_
  refine W.ret ?_; refine ⟨.inl rfl, [_], h, ⟨.tmp rfl, trivial⟩, (by repeat constructor), ?_⟩
  rfl
end Go.Proofs.YtdnbkjgbehakpaaGreat
