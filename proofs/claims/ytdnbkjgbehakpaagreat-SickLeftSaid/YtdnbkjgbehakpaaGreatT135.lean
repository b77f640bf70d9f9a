/- The statement SickLeft: its contract. -/
import Derived.Test.YtdnbkjgbehakpaaGreatT134
namespace Go.Proofs.YtdnbkjgbehakpaaGreat
open Go Go.Eng Go.RowKit

/-- The set of a list's numbers. -/
def bmTo (l : List Int) : Nat → Nat
  | 0 => 0
  | k + 1 => bmTo l k ||| 2 ^ (l.getD k 0).toNat
theorem bm_bit (l : List Int) (w : Nat) : ∀ k, (bmTo l k).testBit w = true ↔ ∃ i, i < k ∧ (l.getD i 0).toNat = w
  | 0 => by simp [bmTo]
  | k + 1 => by
    simp only [bmTo, Nat.testBit_or, Bool.or_eq_true, bm_bit l w k, Nat.testBit_two_pow, decide_eq_true_eq]
    constructor
    · rintro (⟨i, h1, h2⟩ | h)
      · exact ⟨i, by omega, h2⟩
      · exact ⟨k, by omega, h⟩
    · rintro ⟨i, h1, h2⟩
      rcases Nat.lt_succ_iff_lt_or_eq.1 h1 with h | rfl
      · exact .inl ⟨i, h, h2⟩
      · exact .inr h2
theorem bm_lt {l : List Int} (h : ∀ i, i < l.length → (l.getD i 0).toNat < 5) : ∀ k, k ≤ l.length → bmTo l k < 2 ^ 5
  | 0, _ => by simp [bmTo]
  | k + 1, hk => Nat.or_lt_two_pow (bm_lt h k (by omega)) (Nat.pow_lt_pow_right (by omega) (h k (by omega)))
/-- Some signs are right in some course. -/
theorem some_poss {r : House} {w : Nat} {out : List Int} (hw : ∀ i : Nat, i < r.signs.length → (w.testBit i = true ↔ (i : Int) ∉ out)) : ask6 (withSigns r (someL r.signs w)) ≠ [] ↔ possible6 r out = true := by
  rw [← poss_ask, possible_iff6, possible_iff6]
  have key : ∀ c, rightBut6 (someL r.signs w) (lastN r c []) [] = true ↔ rightBut6 r.signs (lastN r c []) out = true := fun c => by
    rw [right_all, rightBut_iff6]
    constructor
    · intro h i hi hf
      refine Classical.byContradiction fun hno => ?_
      have := h _ (mem_someTo6.2 ⟨i, hi, (hw i hi).2 hno, rfl⟩)
      unfold signS at hf
      unfold sgn at this
      rw [this] at hf; cases hf
    · intro h t ht
      obtain ⟨i, hi, hb, rfl⟩ := mem_someTo6.1 ht
      cases hs : sgn (r.signs.getD i default) (lastN r c []) with
      | true => rfl
      | false => exact absurd (h i hi hs) ((hw i hi).1 hb)
  exact ⟨fun ⟨c, h1, h2⟩ => ⟨c, h1, (key c).1 h2⟩, fun ⟨c, h1, h2⟩ => ⟨c, h1, (key c).2 h2⟩⟩
theorem ask6E_without {r : House} (hV : ValidH r) {b : Nat} {out : List Int} (hb : b < 2 ^ 60) (ho : ∀ i : Nat, i < r.signs.length → ((i : Int) ∈ out ↔ b.testBit i = true)) :
    ask6E (withSigns r (someL r.signs (without (full6 r) b))) true = if possible6 r out = true then 0 else 11 := by
  have h5 := hV.signN
  rw [ask6E_with (withSigns_someV hV _)]
  have key := some_poss (r := r) (w := without (full6 r) b) (out := out) fun i hi => by
    rw [without_bit (by omega) (by omega), ho i hi]
    unfold full6
    rw [testBit_full]
    simp [hi]
  by_cases hp : possible6 r out = true
  · rw [if_neg (key.2 hp), if_pos hp]
  · rw [if_neg hp, if_pos (Classical.byContradiction fun hc => hp (key.1 hc))]
/-- Full -/
theorem full6R_any {h : Mem} {v : Value} {r : House} (hv : IsHouse h v r) (h5 : r.signs.length ≤ 20) : FnV Tryz.prog 49 #[v] h (vi (full6 r : Nat)) := by
  obtain ⟨wv, pv, kv, tv, bv, sv, f, rfl, hA⟩ := hv
  have hS := hA.S
  have hpp : 2 ^ r.signs.length ≤ 2 ^ 20 := Nat.pow_le_pow_right (by omega) h5
  have hpos : 0 < 2 ^ r.signs.length := Nat.pow_pos (by omega)
  have e1 : (1 : Int) * 2 ^ r.signs.length = ((2 ^ r.signs.length : Nat) : Int) := by rw [Int.one_mul]; exact (Int.natCast_pow 2 _).symm
  refine FnR.val ?_
  refine FnR.of_W (n := 9) Tryz.func49 rfl rfl (Nat.le_of_ble_eq_true rfl) fun c hr hD hF => ?_
  refine W.seq ?_
  refine W.region ?_
  refine WL.box rfl rfl rfl rfl (fun b1 => ?_)
  refine WL.val (OpVal.opv rfl) rfl rfl rfl ?_
  refine WL.nil ?_
  refine Kseq.go (W.seq ?_)
  skip
  refine W.region ?_
  refine WL.val (OpVal.fieldAddrB rfl) rfl rfl rfl ?_
  refine WL.val (OpVal.loadB rfl (.head _) rfl) rfl rfl rfl ?_
  refine WL.val (OpVal.len rfl hS) rfl rfl rfl ?_
  refine WL.val (OpVal.conv rfl (wrap_u64 (by omega) (by omega))) rfl rfl rfl ?_
  refine WL.val ((OpVal.shl rfl rfl (by omega) (by rw [e1]; omega) (by rw [e1]; omega)).cast (congrArg (Value.int .i64) e1)) rfl rfl rfl ?_
  refine WL.val (OpVal.cast (OpVal.sub rfl rfl (by omega) (by omega)) (congrArg (Value.int .i64) (show ((2 ^ r.signs.length : Nat) : Int) - 1 = ((full6 r : Nat) : Int) by unfold full6; omega))) rfl rfl rfl ?_
  refine WL.val (OpVal.opv rfl) rfl rfl rfl ?_
  refine WL.nil ?_
  refine Kseq.go ?_
  refine W.ret ?_; skip; refine ⟨.inl rfl, [_], h, ⟨.tmp rfl, trivial⟩, (by repeat (first | exact .head _ | refine .tail _ ?_)), ?_⟩
  rfl
/-- SickLeft -/
theorem sickLeft_any {h : Mem} {v : Value} {r : House} {n : Nat} (hv : IsHouse h v r) (hn : n < 256) : FnV Tryz.prog 11 #[v, .int .u8 n] h (.bool true) := by
  have hv' := hv
  obtain ⟨wv, pv, kv, tv, bv, sv, f, rfl, hA⟩ := hv
  have hSg := hA.S
  refine FnR.val ?_
  refine FnR.of_W (n := 113) Tryz.func11 rfl rfl (Nat.le_of_ble_eq_true rfl) fun c hr hD hF => ?_
  refine W.seq ?_
  refine W.region ?_
  refine WL.box rfl rfl rfl rfl (fun b2 => ?_)
  refine WL.val (OpVal.opv rfl) rfl rfl rfl ?_
  refine WL.nil ?_
  refine Kseq.go (W.seq (W.seq ?_))
  refine W.freezeBox (.head _) (fun b hb => (hF b hb).elim) fun m1 h1 => ?_
  skip
  refine W.region ?_
  refine WL.val (OpVal.loadPW rfl (by assumption) (by repeat (first | exact .head _ | refine .tail _ ?_)) (by rfl)) rfl rfl rfl ?_
  refine WL.val (OpVal.call rfl (fun m hm => ready6_any (hv'.le (by repeat (first | exact hm.1 | replace hm := hm.2))))) rfl rfl rfl ?_
  refine WL.val (OpVal.opv rfl) rfl rfl rfl ?_
  refine WL.nil ?_
  refine Kseq.go ?_
  refine W.cond rfl rfl (fun he => ?_) (fun hne => ?_)
  · refine W.seq ?_
    refine W.region ?_
    refine WL.val (OpVal.call rfl (fun m hm => awake6_any)) rfl rfl rfl ?_
    refine WL.val (OpVal.opv rfl) rfl rfl rfl ?_
    refine WL.nil ?_
    refine Kseq.go ?_
    refine W.ret ?_; refine Kseq.ret ?_; refine ⟨.inl rfl, [_], h, ⟨.tmp rfl, trivial⟩, (by repeat (first | exact .head _ | refine .tail _ ?_)), ?_⟩
    rfl
  obtain ⟨hVa, hs, hf0, hTh⟩ := ready6_iff (r := r) (by simpa using hne)
  have hw5 := hVa.signN
  obtain ⟨l, hle, hS⟩ := leave6_least hVa
  have hinc := hS.inc
  have hpw := hinc.pairwise
  have hge := hinc.ge
  have hll : l.length ≤ 5 := by
    rcases hinc.len with e | e
    · rw [e]; simp
    · omega
  have hnat : ∀ i, i < l.length → ∃ w : Nat, l.getD i 0 = (w : Int) ∧ w < r.signs.length := fun i hi => by
    have := hge _ (mem_getD hi)
    exact ⟨(l.getD i 0).toNat, by omega, by omega⟩
  have hbm := bm_lt (l := l) (fun i hi => by obtain ⟨w, e, hw⟩ := hnat i hi; rw [e, Int.toNat_natCast]; omega)
  have hfl : full6 r < 2 ^ 5 := by
    have : 2 ^ r.signs.length ≤ 2 ^ 5 := Nat.pow_le_pow_right (by omega) (by omega)
    have h0 : 0 < 2 ^ r.signs.length := Nat.pow_pos (by omega)
    unfold full6; omega
  refine W.skip (Kseq.go (W.seq ?_))
  skip
  refine W.region ?_
  refine WL.val (OpVal.loadPW rfl (by assumption) (by repeat (first | exact .head _ | refine .tail _ ?_)) (by rfl)) rfl rfl rfl ?_
  refine WL.abs (OpAbs.call rfl (fun m hm => houseL_any (hv'.le (by repeat (first | exact hm.1 | replace hm := hm.2))) hs)) rfl rfl rfl ?_
  rintro m20 v20 h20
  refine WL.abs (OpAbs.call rfl (fun m hm => leave6_any (h20.le (by repeat (first | exact hm.1 | replace hm := hm.2))) hs)) rfl rfl rfl ?_
  rintro m21 _ ⟨lv, rfl, _, hl2⟩
  have hlI := hl2 hf0 l hle
  refine WL.val (OpVal.opv rfl) rfl rfl rfl ?_
  refine WL.val (OpVal.opv rfl) rfl rfl rfl ?_
  refine WL.val (OpVal.opv rfl) rfl rfl rfl ?_
  refine WL.val (OpVal.opv rfl) rfl rfl rfl ?_
  refine WL.val (OpVal.opv rfl) rfl rfl rfl ?_
  refine WL.nil ?_
  refine Kseq.go (W.seq (W.seq ?_))
  rw [hf0]
  skip
  refine W.region ?_
  refine WL.val (OpVal.opv rfl) rfl rfl rfl ?_
  refine WL.val (OpVal.neqF6 rfl rfl) rfl rfl rfl ?_
  refine WL.nil ?_
  refine Kseq.go ?_
  refine W.condF rfl rfl ?_
  refine W.skip (Kseq.go (W.seq ?_))
  skip
  refine W.region ?_
  refine WL.val (OpVal.opv rfl) rfl rfl rfl ?_
  refine WL.nil ?_
  refine Kseq.go (W.seq (W.seq ?_))
  skip
  refine W.region ?_
  refine WL.val (OpVal.opv rfl) rfl rfl rfl ?_
  refine WL.nil ?_
  refine Kseq.go (W.block ?_)
  refine W.loopC (σ := Nat) (fun k => [(1, .int .u8 (n : Int)), (2, .pointer (some ⟨b2, 0, none⟩)), (5, lv), (7, vi (bmTo l k : Nat)), (8, .int .i64 (k : Int))]) (fun k => k ≤ l.length) (fun k => l.length - k) 0 ⟨rfl, rfl, rfl, rfl, rfl, trivial⟩ (Nat.zero_le _) ?_
  intro k hk
  refine W.seq (W.seq ?_)
  refine W.region ?_
  refine WL.val (OpVal.opv rfl) rfl rfl rfl ?_
  refine WL.val (OpVal.opv rfl) rfl rfl rfl ?_
  refine WL.val (OpVal.len rfl hlI) rfl rfl rfl ?_
  refine WL.val (OpVal.opv rfl) rfl rfl rfl ?_
  refine WL.nil ?_
  refine Kseq.go ?_
  refine W.condD rfl rfl (fun hlt => ?_) (fun hge' => ?_)
  · have hkl : k < l.length := by omega
    obtain ⟨w, hx, hw⟩ := hnat k hkl
    have hmk := hbm k (by omega)
    have h2w : 2 ^ w ≤ 2 ^ 5 := Nat.pow_le_pow_right (by omega) (by omega)
    have hpos : 0 < 2 ^ w := Nat.pow_pos (by omega)
    have e1 : (1 : Int) * 2 ^ w = ((2 ^ w : Nat) : Int) := by simp
    have hrest : (bmTo l (k + 1) : Nat) = bmTo l k ||| 2 ^ w := by simp only [bmTo]; rw [hx, Int.toNat_natCast]
    rcases Nat.eq_zero_or_pos k with hk0 | hk0
    · subst hk0
      refine W.skip (Kseq.go (W.seq (W.block (W.seq (W.seq ?_)))))
      refine W.draw 23 (by kernel_rfl) (by kernel_rfl) (by kernel_rfl) rfl ?_
      refine DJ.val [] (OpVal.opv rfl) rfl rfl rfl rfl ?_
      refine DJ.val [] (OpVal.opv rfl) rfl rfl rfl rfl ?_
      refine DJ.val [] (OpVal.indexAddrN rfl rfl hlI (by omega)) rfl rfl rfl rfl ?_
      refine DJ.val [] (OpVal.cast (OpVal.loadE rfl hlI (by repeat (first | exact .head _ | refine .tail _ ?_)) (by omega) (by omega)) (congrArg (Value.int .i64) hx)) rfl rfl rfl rfl ?_
      refine DJ.val [] (OpVal.fieldAddrB rfl) rfl rfl rfl rfl ?_
      refine DJ.val [] (OpVal.loadP rfl h1 (by repeat (first | exact .head _ | refine .tail _ ?_)) rfl) rfl rfl rfl rfl ?_
      refine DJ.val [] (OpVal.len rfl hSg) rfl rfl rfl rfl ?_
      refine DJ.val [] (OpVal.sub rfl rfl (by omega) (by omega)) rfl rfl rfl rfl ?_
      refine DJ.val [] (OpVal.cast (OpVal.call rfl (fun m hm => in_any _ _ _)) (congrArg Value.bool (decide_eq_true (by omega)))) rfl rfl rfl rfl ?_
      refine DJ.val [] (OpVal.opv rfl) rfl rfl rfl rfl ?_
      refine DJ.val [] (OpVal.opv rfl) rfl rfl rfl rfl ?_
      refine DJ.val [] (OpVal.opv rfl) rfl rfl rfl rfl ?_
      refine DJ.val [] (OpVal.cast (OpVal.opv rfl) (congrArg Value.bool (decide_eq_false (by omega)))) rfl rfl rfl rfl ?_
      refine DJ.val [] (OpVal.opv rfl) rfl rfl rfl rfl ?_
      refine DJ.pass rfl rfl rfl rfl ?_
      refine DJ.pass rfl rfl rfl rfl ?_
      refine DJ.pass rfl rfl rfl rfl ?_
      refine DJ.pass rfl rfl rfl rfl ?_
      refine DJ.pass rfl rfl rfl rfl ?_
      refine DJ.pass rfl rfl rfl rfl ?_
      refine DJ.pass rfl rfl rfl rfl ?_
      refine DJ.pass rfl rfl rfl rfl ?_
      refine DJ.pass rfl rfl rfl rfl ?_
      refine DJ.nil ?_
      refine WL.pass rfl rfl rfl ?_
      refine WL.val (OpVal.opv rfl) rfl rfl rfl ?_
      refine WL.val (OpVal.opv rfl) rfl rfl rfl ?_
      refine WL.nil ?_
      refine Kseq.go ?_
      refine W.condF rfl rfl ?_
      refine W.skip (Kseq.go ?_)
      skip
      refine W.region ?_
      refine WL.val (OpVal.opv rfl) rfl rfl rfl ?_
      refine WL.val (OpVal.opv rfl) rfl rfl rfl ?_
      refine WL.val (OpVal.opv rfl) rfl rfl rfl ?_
      refine WL.val (OpVal.indexAddrN rfl rfl hlI (by omega)) rfl rfl rfl ?_
      refine WL.val (OpVal.cast (OpVal.loadE rfl hlI (by repeat (first | exact .head _ | refine .tail _ ?_)) (by omega) (by omega)) (congrArg (Value.int .i64) hx)) rfl rfl rfl ?_
      refine WL.val (OpVal.conv rfl (wrap_u64 (by omega) (by omega))) rfl rfl rfl ?_
      refine WL.val ((OpVal.shl rfl rfl (by omega) (by rw [e1]; omega) (by rw [e1]; omega)).cast (congrArg (Value.int .i64) e1)) rfl rfl rfl ?_
      refine WL.val (OpVal.bor rfl rfl (by omega) (by omega)) rfl rfl rfl ?_
      refine WL.val (OpVal.opv rfl) rfl rfl rfl ?_
      refine WL.nil ?_
      refine Kblock.normal (Kseq.go ?_)
      skip
      refine W.region ?_
      refine WL.val (OpVal.opv rfl) rfl rfl rfl ?_
      refine WL.val (OpVal.incr rfl (by omega)) rfl rfl rfl ?_
      refine WL.val (OpVal.opv rfl) rfl rfl rfl ?_
      refine WL.nil ?_
      skip
      exact Kloop.nextC (0 + 1) (by omega) (by omega) ⟨rfl, rfl, rfl, by rw [hrest]; rfl, rfl, trivial⟩ (by simp) (by repeat (first | exact List.Sublist.refl _ | refine List.Sublist.cons _ ?_ | refine List.Sublist.cons_cons _ ?_))
    · obtain ⟨y, hy, hyw⟩ := hnat (k - 1) (by omega)
      have hlt2 : y < w := by
        have := List.pairwise_iff_getElem.1 hpw (k - 1) k (by omega) hkl (by omega)
        rw [List.getD_eq_getElem?_getD, List.getElem?_eq_getElem (by omega)] at hx hy
        simp at hx hy
        omega
      refine W.skip (Kseq.go (W.seq (W.block (W.seq (W.seq ?_)))))
      refine W.draw 23 (by kernel_rfl) (by kernel_rfl) (by kernel_rfl) rfl ?_
      refine DJ.val [] (OpVal.opv rfl) rfl rfl rfl rfl ?_
      refine DJ.val [] (OpVal.opv rfl) rfl rfl rfl rfl ?_
      refine DJ.val [] (OpVal.indexAddrN rfl rfl hlI (by omega)) rfl rfl rfl rfl ?_
      refine DJ.val [] (OpVal.cast (OpVal.loadE rfl hlI (by repeat (first | exact .head _ | refine .tail _ ?_)) (by omega) (by omega)) (congrArg (Value.int .i64) hx)) rfl rfl rfl rfl ?_
      refine DJ.val [] (OpVal.fieldAddrB rfl) rfl rfl rfl rfl ?_
      refine DJ.val [] (OpVal.loadP rfl h1 (by repeat (first | exact .head _ | refine .tail _ ?_)) rfl) rfl rfl rfl rfl ?_
      refine DJ.val [] (OpVal.len rfl hSg) rfl rfl rfl rfl ?_
      refine DJ.val [] (OpVal.sub rfl rfl (by omega) (by omega)) rfl rfl rfl rfl ?_
      refine DJ.val [] (OpVal.cast (OpVal.call rfl (fun m hm => in_any _ _ _)) (congrArg Value.bool (decide_eq_true (by omega)))) rfl rfl rfl rfl ?_
      refine DJ.val [] (OpVal.opv rfl) rfl rfl rfl rfl ?_
      refine DJ.val [] (OpVal.opv rfl) rfl rfl rfl rfl ?_
      refine DJ.val [] (OpVal.opv rfl) rfl rfl rfl rfl ?_
      refine DJ.val [] (OpVal.cast (OpVal.opv rfl) (congrArg Value.bool (decide_eq_true (by omega)))) rfl rfl rfl rfl ?_
      refine DJ.val [] (OpVal.opv rfl) rfl rfl rfl rfl ?_
      refine DJ.val [] (OpVal.opv rfl) rfl rfl rfl rfl ?_
      refine DJ.val [] (OpVal.opv rfl) rfl rfl rfl rfl ?_
      refine DJ.val [] (OpVal.indexAddrN rfl rfl hlI (by omega)) rfl rfl rfl rfl ?_
      refine DJ.val [] (OpVal.cast (OpVal.loadE rfl hlI (by repeat (first | exact .head _ | refine .tail _ ?_)) (by omega) (by omega)) (congrArg (Value.int .i64) hx)) rfl rfl rfl rfl ?_
      refine DJ.val [] (OpVal.opv rfl) rfl rfl rfl rfl ?_
      refine DJ.val [] (OpVal.opv rfl) rfl rfl rfl rfl ?_
      refine DJ.val [] (OpVal.cast (OpVal.sub rfl rfl (by omega) (by omega)) (congrArg (Value.int .i64) (show (k : Int) - 1 = ((k - 1 : Nat) : Int) by omega))) rfl rfl rfl rfl ?_
      refine DJ.val [] (OpVal.indexAddrN rfl rfl hlI (by omega)) rfl rfl rfl rfl ?_
      refine DJ.val [] (OpVal.cast (OpVal.loadE rfl hlI (by repeat (first | exact .head _ | refine .tail _ ?_)) (by omega) (by omega)) (congrArg (Value.int .i64) hy)) rfl rfl rfl rfl ?_
      refine DJ.nil ?_
      refine WL.val (OpVal.cast (OpVal.opv rfl) (congrArg Value.bool (decide_eq_false (by omega)))) rfl rfl rfl ?_
      refine WL.val (OpVal.opv rfl) rfl rfl rfl ?_
      refine WL.val (OpVal.opv rfl) rfl rfl rfl ?_
      refine WL.nil ?_
      refine Kseq.go ?_
      refine W.condF rfl rfl ?_
      refine W.skip (Kseq.go ?_)
      skip
      refine W.region ?_
      refine WL.val (OpVal.opv rfl) rfl rfl rfl ?_
      refine WL.val (OpVal.opv rfl) rfl rfl rfl ?_
      refine WL.val (OpVal.opv rfl) rfl rfl rfl ?_
      refine WL.val (OpVal.indexAddrN rfl rfl hlI (by omega)) rfl rfl rfl ?_
      refine WL.val (OpVal.cast (OpVal.loadE rfl hlI (by repeat (first | exact .head _ | refine .tail _ ?_)) (by omega) (by omega)) (congrArg (Value.int .i64) hx)) rfl rfl rfl ?_
      refine WL.val (OpVal.conv rfl (wrap_u64 (by omega) (by omega))) rfl rfl rfl ?_
      refine WL.val ((OpVal.shl rfl rfl (by omega) (by rw [e1]; omega) (by rw [e1]; omega)).cast (congrArg (Value.int .i64) e1)) rfl rfl rfl ?_
      refine WL.val (OpVal.bor rfl rfl (by omega) (by omega)) rfl rfl rfl ?_
      refine WL.val (OpVal.opv rfl) rfl rfl rfl ?_
      refine WL.nil ?_
      refine Kblock.normal (Kseq.go ?_)
      skip
      refine W.region ?_
      refine WL.val (OpVal.opv rfl) rfl rfl rfl ?_
      refine WL.val (OpVal.incr rfl (by omega)) rfl rfl rfl ?_
      refine WL.val (OpVal.opv rfl) rfl rfl rfl ?_
      refine WL.nil ?_
      skip
      exact Kloop.nextC (k + 1) (by omega) (by omega) ⟨rfl, rfl, rfl, by rw [hrest]; rfl, rfl, trivial⟩ (by simp) (by repeat (first | exact List.Sublist.refl _ | refine List.Sublist.cons _ ?_ | refine List.Sublist.cons_cons _ ?_))
  · refine W.exit (Kseq.exit (Kloop.exit (Kblock.here (Kseq.go (W.seq ?_)))))
    have hkk : k = l.length := by omega
    subst hkk
    have hm5 := hbm l.length (Nat.le_refl _)
    have hA2 := ask6E_without hVa (b := bmTo l l.length) (out := l) (by omega) fun i hi => by
      rw [bm_bit]
      constructor
      · intro hm
        obtain ⟨j, hj, e⟩ := getD_of_mem hm
        exact ⟨j, hj, by rw [e, Int.toNat_natCast]⟩
      · rintro ⟨j, hj, e⟩
        obtain ⟨w, e2, _⟩ := hnat j hj
        have : (i : Int) = l.getD j 0 := by rw [e2, Int.toNat_natCast] at e; rw [e2, e]
        rw [this]; exact mem_getD hj
    rw [if_pos hS.is] at hA2
    have hnf : n &&& full6 r ≤ full6 r := Nat.and_le_right
    have hB := ask6E_without hVa (b := n &&& full6 r) (out := bits (n &&& full6 r)) (by omega) fun i hi => by
      rw [mem_bits]; exact ⟨fun h => h.2, fun h => ⟨by omega, h⟩⟩
    skip
    refine W.region ?_
    refine WL.val (OpVal.opv rfl) rfl rfl rfl ?_
    refine WL.val (OpVal.conv rfl (i64_in (by omega) (by omega))) rfl rfl rfl ?_
    refine WL.val (OpVal.loadPW rfl (by assumption) (by repeat (first | exact .head _ | refine .tail _ ?_)) (by rfl)) rfl rfl rfl ?_
    refine WL.val (OpVal.call rfl (fun m hm => full6R_any (hv'.le (by repeat (first | exact hm.1 | replace hm := hm.2))) (by omega))) rfl rfl rfl ?_
    refine WL.val (OpVal.band rfl rfl (by omega) (by omega)) rfl rfl rfl ?_
    refine WL.val (OpVal.opv rfl) rfl rfl rfl ?_
    refine WL.nil ?_
    refine Kseq.go (W.seq ?_)
    skip
    refine W.draw 12 (by kernel_rfl) (by kernel_rfl) (by kernel_rfl) rfl ?_
    refine DJ.val [] (OpVal.loadPW rfl h1 (by repeat (first | exact .head _ | refine .tail _ ?_)) rfl) rfl rfl rfl rfl ?_
    refine DJ.val [] (OpVal.loadPW rfl h1 (by repeat (first | exact .head _ | refine .tail _ ?_)) rfl) rfl rfl rfl rfl ?_
    refine DJ.val [] (OpVal.call rfl (fun m hm => full6R_any (hv'.le (by repeat (first | exact hm.1 | replace hm := hm.2))) (by omega))) rfl rfl rfl rfl ?_
    refine DJ.val [] (OpVal.opv rfl) rfl rfl rfl rfl ?_
    refine DJ.val [] (OpVal.bandNot rfl rfl (by omega) (by omega)) rfl rfl rfl rfl ?_
    refine DJ.abs (A := fun m q => IsHouse m q (withSigns r (someL r.signs (without (full6 r) (bmTo l l.length))))) [] (OpAbs.call rfl (fun m hm => some6_any (hv'.le (by repeat (first | exact hm.1 | replace hm := hm.2))) hs)) rfl rfl rfl rfl ?_
    refine DJ.abs (A := fun m q => IsHouse m q (withSigns r (someL r.signs (without (full6 r) (bmTo l l.length))))) [(77, fun m q => IsHouse m q (withSigns r (someL r.signs (without (full6 r) (bmTo l l.length)))))] (fun m77 v77 h77 => OpAbs.call rfl (fun m hm => houseL_any (h77.le (by repeat (first | exact hm.1 | replace hm := hm.2))) (withSigns_sm hs _))) rfl rfl rfl rfl ?_ (hG := ⟨(by repeat (first | exact .head _ | refine .tail _ ?_)), rfl, trivial⟩)
    refine DJ.abs (A := fun m q => ∃ lv, q = .tuple #[lv, vi (0)]) [(78, fun m q => IsHouse m q (withSigns r (someL r.signs (without (full6 r) (bmTo l l.length)))))] (fun m78 v78 h78 => OpAbs.mono (OpAbs.call rfl (fun m hm => carry6_any (h78.le (by repeat (first | exact hm.1 | replace hm := hm.2))) (withSigns_sm hs _))) (fun m q hq => by obtain ⟨lv, e, _⟩ := hq; exact ⟨lv, by rw [e, hA2]⟩)) rfl rfl rfl rfl ?_ (hG := ⟨(by repeat (first | exact .head _ | refine .tail _ ?_)), rfl, trivial⟩)
    refine DJ.abs (A := fun m q => ∃ lv, q = .tuple #[lv, vi (0)]) [(79, fun m q => ∃ lv, q = .tuple #[lv, vi (0)])] (fun m79 v79 h79 => OpAbs.ofVal (OpVal.opv rfl) (.head _) h79) rfl rfl rfl rfl ?_ (hG := ⟨(by repeat (first | exact .head _ | refine .tail _ ?_)), rfl, trivial⟩)
    refine DJ.abs (A := fun m q => True) [(71, fun m q => ∃ lv, q = .tuple #[lv, vi (0)])] (fun m71 v71 h71 => by obtain ⟨lv, rfl⟩ := h71; exact OpAbs.ofVal (OpVal.opv rfl) (.head _) trivial) rfl rfl rfl rfl ?_ (hG := ⟨(by repeat (first | exact .head _ | refine .tail _ ?_)), rfl, trivial⟩)
    refine DJ.abs (A := fun m q => q = vi (0)) [(71, fun m q => ∃ lv, q = .tuple #[lv, vi (0)])] (fun m71 v71 h71 => by obtain ⟨lv, rfl⟩ := h71; exact OpAbs.ofVal (OpVal.opv rfl) (.head _) rfl) rfl rfl rfl rfl ?_ (hG := ⟨(by repeat (first | exact .head _ | refine .tail _ ?_)), rfl, trivial⟩)
    refine DJ.abs (A := fun m q => True) [(80, fun m q => True)] (fun m80 v80 h80 => OpAbs.ofVal (OpVal.opv rfl) (.head _) trivial) rfl rfl rfl rfl ?_ (hG := ⟨(by repeat (first | exact .head _ | refine .tail _ ?_)), rfl, trivial⟩)
    refine DJ.nil ?_
    rintro m10 v10 h10
    rintro m81 v81 h81
    rintro m80 v80 h80
    rintro m71 v71 h71
    rintro m79 v79 h79
    rintro m78 v78 h78
    rintro m77 v77 h77
    refine WL.abs (OpAbs.ofVal (A := fun _ q => q = vi (0)) (OpVal.opv rfl) (.head _) h81) rfl rfl rfl ?_
    rintro m11 v11 h11
    refine WL.nil ?_
    refine Kseq.go (W.seq ?_)
    subst h11
    obtain ⟨EB, hEB⟩ : ∃ EB, ask6E (withSigns r (someL r.signs (without (full6 r) (n &&& full6 r)))) true = EB := ⟨_, rfl⟩
    rw [hEB] at hB
    skip
    refine W.draw 12 (by kernel_rfl) (by kernel_rfl) (by kernel_rfl) rfl ?_
    refine DJ.val [] (OpVal.loadPW rfl h1 (by repeat (first | exact .head _ | refine .tail _ ?_)) rfl) rfl rfl rfl rfl ?_
    refine DJ.val [] (OpVal.loadPW rfl h1 (by repeat (first | exact .head _ | refine .tail _ ?_)) rfl) rfl rfl rfl rfl ?_
    refine DJ.val [] (OpVal.call rfl (fun m hm => full6R_any (hv'.le (by repeat (first | exact hm.1 | replace hm := hm.2))) (by omega))) rfl rfl rfl rfl ?_
    refine DJ.val [] (OpVal.opv rfl) rfl rfl rfl rfl ?_
    refine DJ.val [] (OpVal.bandNot rfl rfl (by omega) (by omega)) rfl rfl rfl rfl ?_
    refine DJ.abs (A := fun m q => IsHouse m q (withSigns r (someL r.signs (without (full6 r) (n &&& full6 r))))) [] (OpAbs.call rfl (fun m hm => some6_any (hv'.le (by repeat (first | exact hm.1 | replace hm := hm.2))) hs)) rfl rfl rfl rfl ?_
    refine DJ.abs (A := fun m q => IsHouse m q (withSigns r (someL r.signs (without (full6 r) (n &&& full6 r))))) [(88, fun m q => IsHouse m q (withSigns r (someL r.signs (without (full6 r) (n &&& full6 r)))))] (fun m88 v88 h88 => OpAbs.call rfl (fun m hm => houseL_any (h88.le (by repeat (first | exact hm.1 | replace hm := hm.2))) (withSigns_sm hs _))) rfl rfl rfl rfl ?_ (hG := ⟨(by repeat (first | exact .head _ | refine .tail _ ?_)), rfl, trivial⟩)
    refine DJ.abs (A := fun m q => ∃ lv, q = .tuple #[lv, vi (EB)]) [(89, fun m q => IsHouse m q (withSigns r (someL r.signs (without (full6 r) (n &&& full6 r)))))] (fun m89 v89 h89 => OpAbs.mono (OpAbs.call rfl (fun m hm => carry6_any (h89.le (by repeat (first | exact hm.1 | replace hm := hm.2))) (withSigns_sm hs _))) (fun m q hq => by obtain ⟨lv, e, _⟩ := hq; exact ⟨lv, by rw [e, hEB]⟩)) rfl rfl rfl rfl ?_ (hG := ⟨(by repeat (first | exact .head _ | refine .tail _ ?_)), rfl, trivial⟩)
    refine DJ.abs (A := fun m q => ∃ lv, q = .tuple #[lv, vi (EB)]) [(90, fun m q => ∃ lv, q = .tuple #[lv, vi (EB)])] (fun m90 v90 h90 => OpAbs.ofVal (OpVal.opv rfl) (.head _) h90) rfl rfl rfl rfl ?_ (hG := ⟨(by repeat (first | exact .head _ | refine .tail _ ?_)), rfl, trivial⟩)
    refine DJ.abs (A := fun m q => True) [(82, fun m q => ∃ lv, q = .tuple #[lv, vi (EB)])] (fun m82 v82 h82 => by obtain ⟨lv, rfl⟩ := h82; exact OpAbs.ofVal (OpVal.opv rfl) (.head _) trivial) rfl rfl rfl rfl ?_ (hG := ⟨(by repeat (first | exact .head _ | refine .tail _ ?_)), rfl, trivial⟩)
    refine DJ.abs (A := fun m q => q = vi (EB)) [(82, fun m q => ∃ lv, q = .tuple #[lv, vi (EB)])] (fun m82 v82 h82 => by obtain ⟨lv, rfl⟩ := h82; exact OpAbs.ofVal (OpVal.opv rfl) (.head _) rfl) rfl rfl rfl rfl ?_ (hG := ⟨(by repeat (first | exact .head _ | refine .tail _ ?_)), rfl, trivial⟩)
    refine DJ.abs (A := fun m q => True) [(91, fun m q => True)] (fun m91 v91 h91 => OpAbs.ofVal (OpVal.opv rfl) (.head _) trivial) rfl rfl rfl rfl ?_ (hG := ⟨(by repeat (first | exact .head _ | refine .tail _ ?_)), rfl, trivial⟩)
    refine DJ.nil ?_
    rintro m12 v12 h12
    rintro m92 v92 h92
    rintro m91 v91 h91
    rintro m82 v82 h82
    rintro m90 v90 h90
    rintro m89 v89 h89
    rintro m88 v88 h88
    refine WL.abs (OpAbs.ofVal (A := fun _ q => q = vi (EB)) (OpVal.opv rfl) (.head _) h92) rfl rfl rfl ?_
    rintro m13 v13 h13
    refine WL.nil ?_
    refine Kseq.go (W.seq ?_)
    subst h13
    by_cases hpo : possible6 r (bits (n &&& full6 r)) = true
    · have hsh := hS.no _ (bits_inc6 (by omega) (Nat.lt_of_le_of_lt hnf (by unfold full6; have : 0 < 2 ^ r.signs.length := Nat.pow_pos (by omega); omega))) hpo
      rw [if_pos hpo] at hB
      subst hB
      skip
      refine W.region ?_
      refine WL.val (OpVal.opv rfl) rfl rfl rfl ?_
      refine WL.val (OpVal.eqT6 rfl rfl) rfl rfl rfl ?_
      refine WL.val (OpVal.opv rfl) rfl rfl rfl ?_
      refine WL.val (OpVal.opv rfl) rfl rfl rfl ?_
      refine WL.val (OpVal.eqF6 rfl rfl (by decide)) rfl rfl rfl ?_
      refine WL.val (OpVal.opv rfl) rfl rfl rfl ?_
      refine WL.val (OpVal.opv rfl) rfl rfl rfl ?_
      refine WL.val (OpVal.eqT6 rfl rfl) rfl rfl rfl ?_
      refine WL.val (OpVal.opv rfl) rfl rfl rfl ?_
      refine WL.val (OpVal.opv rfl) rfl rfl rfl ?_
      refine WL.abs (OpAbs.call rfl (fun m hm => bits_any (by omega))) rfl rfl rfl ?_
      rintro m103 v103 h103
      refine WL.val (OpVal.opv rfl) rfl rfl rfl ?_
      refine WL.val (OpVal.cast (OpVal.call rfl (fun m hm => shorter_any (h103.le (by repeat (first | exact hm.1 | replace hm := hm.2))) (hlI.le (by repeat (first | exact hm.1 | replace hm := hm.2))))) (congrArg Value.bool hsh)) rfl rfl rfl ?_
      refine WL.val (OpVal.opv rfl) rfl rfl rfl ?_
      refine WL.val (OpVal.opv rfl) rfl rfl rfl ?_
      refine WL.val (OpVal.opv rfl) rfl rfl rfl ?_
      refine WL.val (OpVal.opv rfl) rfl rfl rfl ?_
      refine WL.val (OpVal.opv rfl) rfl rfl rfl ?_
      refine WL.val (OpVal.call rfl (fun m hm => awake6_any)) rfl rfl rfl ?_
      refine WL.val (OpVal.opv rfl) rfl rfl rfl ?_
      refine WL.val (OpVal.opv rfl) rfl rfl rfl ?_
      refine WL.nil ?_
      refine Kseq.go ?_
      refine W.ret ?_; skip; refine ⟨.inl rfl, [_], h, ⟨.tmp rfl, trivial⟩, (by repeat (first | exact .head _ | refine .tail _ ?_)), ?_⟩
      rfl
    · rw [if_neg hpo] at hB
      subst hB
      skip
      refine W.region ?_
      refine WL.val (OpVal.opv rfl) rfl rfl rfl ?_
      refine WL.val (OpVal.eqT6 rfl rfl) rfl rfl rfl ?_
      refine WL.val (OpVal.opv rfl) rfl rfl rfl ?_
      refine WL.val (OpVal.opv rfl) rfl rfl rfl ?_
      refine WL.val (OpVal.eqT6 rfl rfl) rfl rfl rfl ?_
      refine WL.val (OpVal.opv rfl) rfl rfl rfl ?_
      refine WL.pass rfl rfl rfl ?_
      refine WL.pass rfl rfl rfl ?_
      refine WL.pass rfl rfl rfl ?_
      refine WL.pass rfl rfl rfl ?_
      refine WL.pass rfl rfl rfl ?_
      refine WL.pass rfl rfl rfl ?_
      refine WL.pass rfl rfl rfl ?_
      refine WL.pass rfl rfl rfl ?_
      refine WL.pass rfl rfl rfl ?_
      refine WL.val (OpVal.opv rfl) rfl rfl rfl ?_
      refine WL.val (OpVal.opv rfl) rfl rfl rfl ?_
      refine WL.val (OpVal.opv rfl) rfl rfl rfl ?_
      refine WL.val (OpVal.call rfl (fun m hm => awake6_any)) rfl rfl rfl ?_
      refine WL.val (OpVal.opv rfl) rfl rfl rfl ?_
      refine WL.val (OpVal.opv rfl) rfl rfl rfl ?_
      refine WL.nil ?_
      refine Kseq.go ?_
      refine W.ret ?_; skip; refine ⟨.inl rfl, [_], h, ⟨.tmp rfl, trivial⟩, (by repeat (first | exact .head _ | refine .tail _ ?_)), ?_⟩
      rfl
end Go.Proofs.YtdnbkjgbehakpaaGreat
