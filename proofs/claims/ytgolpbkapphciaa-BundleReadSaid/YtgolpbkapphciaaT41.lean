/- The statement BundleLeft: its contract. -/
import Derived.Test.YtgolpbkapphciaaT39
namespace Go.Proofs.Ytgolpbkapphciaa
open Go Go.Eng Go.RowKit

/-- The set of a list's numbers. -/
def bmTo (l : List Int) : Nat → Nat
  | 0 => 0
  | k + 1 => bmTo l k ||| 2 ^ (l.getD k 0).toNat
theorem bm_bit (l : List Int) (w : Nat) : ∀ k, (bmTo l k).testBit w = true ↔ ∃ i, i < k ∧ (l.getD i 0).toNat = w
  | 0 => by simp [bmTo]
  | k + 1 => by
    simp only [bmTo, Nat.testBit_or, Bool.or_eq_true, bm_bit l w k, Nat.testBit_two_pow, decide_eq_true_eq]
    constructor
    · rintro (⟨i, h1, h2⟩ | h)
      · exact ⟨i, by omega, h2⟩
      · exact ⟨k, by omega, h⟩
    · rintro ⟨i, h1, h2⟩
      rcases Nat.lt_succ_iff_lt_or_eq.1 h1 with h | rfl
      · exact .inl ⟨i, h, h2⟩
      · exact .inr h2
theorem bm_lt {l : List Int} (h : ∀ i, i < l.length → (l.getD i 0).toNat < 5) : ∀ k, k ≤ l.length → bmTo l k < 2 ^ 5
  | 0, _ => by simp [bmTo]
  | k + 1, hk => Nat.or_lt_two_pow (bm_lt h k (by omega)) (Nat.pow_lt_pow_right (by omega) (h k (by omega)))
theorem askE_without {t : Table} (hV : Valid t) {b : Nat} {out : List Int} (hb : b < 2 ^ 60) (ho : ∀ i : Nat, i < t.women.length → ((i : Int) ∈ out ↔ b.testBit i = true)) : askE (someT t (without (full t) b)) = if possibleB t out = true then 0 else 11 := by
  have hw := hV.women
  refine askE_some hV fun i hi => ?_
  rw [without_bit (by omega) (by omega), ho i hi, full_eq, testBit_full]
  simp [hi]
theorem left_small {t : Table} (hV : Valid t) : ∃ l, leaveAll t = some l ∧ Inc t.women.length 0 l ∧ Small t l := by
  have hS := leave03_small hV
  refine ⟨_, leave_eq hV, ?_, hS⟩
  obtain ⟨k, hk, e⟩ := hS.set
  rw [← e]
  exact bits_inc (by have := hV.women; omega) hk
/-- BundleLeft -/
theorem bundleLeft_any {h : Mem} {v : Value} {t : Table} {n : Nat} (hv : IsTable h v t) (hn : n < 256) : FnV Try.prog 15 #[v, .int .u8 n] h (.bool true) := by
  have hv' := hv
  obtain ⟨wv, pv, f, rfl, hW, hP, hM⟩ := hv
  refine FnR.val ?_
  refine FnR.of_W (n := 118) Try.func15 rfl rfl (Nat.le_of_ble_eq_true rfl) fun c hr hD hF => ?_
  refine W.seq ?_
  refine W.region ?_
  refine WL.box rfl rfl rfl rfl (fun b2 => ?_)
  refine WL.val (OpVal.opv rfl) rfl rfl rfl ?_
  refine WL.nil ?_
  refine Kseq.go (W.seq (W.seq ?_))
  refine W.freezeBox (.head _) (fun b hb => (hF b hb).elim) fun m1 h1 => ?_
  skip
  refine W.region ?_
  refine WL.val (OpVal.loadPW rfl (by assumption) (by repeat (first | exact .head _ | refine .tail _ ?_)) (by rfl)) rfl rfl rfl ?_
  refine WL.val (OpVal.call rfl (fun m hm => ready_any (hv'.le (by repeat (first | exact hm.1 | replace hm := hm.2))))) rfl rfl rfl ?_
  refine WL.val (OpVal.opv rfl) rfl rfl rfl ?_
  refine WL.nil ?_
  refine Kseq.go ?_
  refine W.cond rfl rfl (fun he => ?_) (fun hne => ?_)
  · refine W.seq ?_
    refine W.region ?_
    refine WL.val (OpVal.call rfl (fun m hm => awake_any)) rfl rfl rfl ?_
    refine WL.val (OpVal.opv rfl) rfl rfl rfl ?_
    refine WL.nil ?_
    refine Kseq.go ?_
    refine W.ret ?_; refine Kseq.ret ?_; refine ⟨.inl rfl, [_], h, ⟨.tmp rfl, trivial⟩, (by repeat (first | exact .head _ | refine .tail _ ?_)), ?_⟩
    rfl
  obtain ⟨hTh, hVa⟩ := readyB_iff.1 (by simpa using hne)
  have hs : Sm t := ThinB.sm hTh
  have hs1 := hs.1
  have hs2 := hs.2.1
  have hw5 := hVa.women
  have hf0 := fault_zero.2 hVa
  obtain ⟨l, hle, hinc, hS⟩ := left_small hVa
  have hpw := hinc.pairwise
  have hge := hinc.ge
  have hll : l.length ≤ 5 := by
    rcases hinc.len with e | e
    · rw [e]; simp
    · omega
  have hnat : ∀ i, i < l.length → ∃ w : Nat, l.getD i 0 = (w : Int) ∧ w < t.women.length := fun i hi => by
    have := hge _ (mem_getD hi)
    exact ⟨(l.getD i 0).toNat, by omega, by omega⟩
  have hbm := bm_lt (l := l) (fun i hi => by obtain ⟨w, e, hw⟩ := hnat i hi; rw [e, Int.toNat_natCast]; omega)
  have hfl : full t < 2 ^ 5 := by
    have : 2 ^ t.women.length ≤ 2 ^ 5 := Nat.pow_le_pow_right (by omega) (by omega)
    have h0 : 0 < 2 ^ t.women.length := Nat.pow_pos (by omega)
    unfold full; omega
  refine W.skip (Kseq.go (W.seq ?_))
  skip
  refine W.region ?_
  refine WL.val (OpVal.loadPW rfl (by assumption) (by repeat (first | exact .head _ | refine .tail _ ?_)) (by rfl)) rfl rfl rfl ?_
  refine WL.abs (OpAbs.call rfl (fun m hm => table_any (hv'.le (by repeat (first | exact hm.1 | replace hm := hm.2))) hs)) rfl rfl rfl ?_
  rintro m20 v20 h20
  refine WL.abs (OpAbs.call rfl (fun m hm => leaveT_any (h20.le (by repeat (first | exact hm.1 | replace hm := hm.2))) hs)) rfl rfl rfl ?_
  rintro m21 _ ⟨lv, rfl, _, hl2⟩
  have hlI := hl2 hf0 l hle
  refine WL.val (OpVal.opv rfl) rfl rfl rfl ?_
  refine WL.val (OpVal.opv rfl) rfl rfl rfl ?_
  refine WL.val (OpVal.opv rfl) rfl rfl rfl ?_
  refine WL.val (OpVal.opv rfl) rfl rfl rfl ?_
  refine WL.val (OpVal.opv rfl) rfl rfl rfl ?_
  refine WL.nil ?_
  refine Kseq.go (W.seq (W.seq ?_))
  rw [hf0]
  skip
  refine W.region ?_
  refine WL.val (OpVal.opv rfl) rfl rfl rfl ?_
  refine WL.val (OpVal.neqF rfl rfl) rfl rfl rfl ?_
  refine WL.nil ?_
  refine Kseq.go ?_
  refine W.condF rfl rfl ?_
  refine W.skip (Kseq.go (W.seq ?_))
  skip
  refine W.region ?_
  refine WL.val (OpVal.opv rfl) rfl rfl rfl ?_
  refine WL.nil ?_
  refine Kseq.go (W.seq (W.seq ?_))
  skip
  refine W.region ?_
  refine WL.val (OpVal.opv rfl) rfl rfl rfl ?_
  refine WL.nil ?_
  refine Kseq.go (W.block ?_)
  refine W.loopC (σ := Nat) (fun k => [(1, .int .u8 (n : Int)), (2, .pointer (some ⟨b2, 0, none⟩)), (5, lv), (7, vi (bmTo l k : Nat)), (8, .int .i64 (k : Int))]) (fun k => k ≤ l.length) (fun k => l.length - k) 0 ⟨rfl, rfl, rfl, rfl, rfl, trivial⟩ (Nat.zero_le _) ?_
  intro k hk
  refine W.seq (W.seq ?_)
  refine W.region ?_
  refine WL.val (OpVal.opv rfl) rfl rfl rfl ?_
  refine WL.val (OpVal.opv rfl) rfl rfl rfl ?_
  refine WL.val (OpVal.len rfl hlI) rfl rfl rfl ?_
  refine WL.val (OpVal.opv rfl) rfl rfl rfl ?_
  refine WL.nil ?_
  refine Kseq.go ?_
  refine W.condD rfl rfl (fun hlt => ?_) (fun hge' => ?_)
  · have hkl : k < l.length := by omega
    obtain ⟨w, hx, hw⟩ := hnat k hkl
    have hmk := hbm k (by omega)
    have h2w : 2 ^ w ≤ 2 ^ 5 := Nat.pow_le_pow_right (by omega) (by omega)
    have hpos : 0 < 2 ^ w := Nat.pow_pos (by omega)
    have e1 : (1 : Int) * 2 ^ w = ((2 ^ w : Nat) : Int) := by simp
    have hrest : (bmTo l (k + 1) : Nat) = bmTo l k ||| 2 ^ w := by simp only [bmTo]; rw [hx, Int.toNat_natCast]
    rcases Nat.eq_zero_or_pos k with hk0 | hk0
    · subst hk0
      refine W.skip (Kseq.go (W.seq (W.block (W.seq (W.seq ?_)))))
      refine W.draw 28 (by kernel_rfl) (by kernel_rfl) (by kernel_rfl) rfl ?_
      refine DJ.val [] (OpVal.opv rfl) rfl rfl rfl rfl ?_
      refine DJ.val [] (OpVal.opv rfl) rfl rfl rfl rfl ?_
      refine DJ.val [] (OpVal.indexAddrN rfl rfl hlI (by omega)) rfl rfl rfl rfl ?_
      refine DJ.val [] (OpVal.cast (OpVal.loadE rfl hlI (by repeat (first | exact .head _ | refine .tail _ ?_)) (by omega) (by omega)) (congrArg (Value.int .i64) hx)) rfl rfl rfl rfl ?_
      refine DJ.val [] (OpVal.cast (OpVal.opv rfl) (congrArg Value.bool (decide_eq_false (by omega)))) rfl rfl rfl rfl ?_
      refine DJ.val [] (OpVal.opv rfl) rfl rfl rfl rfl ?_
      refine DJ.val [] (OpVal.opv rfl) rfl rfl rfl rfl ?_
      refine DJ.val [] (OpVal.opv rfl) rfl rfl rfl rfl ?_
      refine DJ.val [] (OpVal.indexAddrN rfl rfl hlI (by omega)) rfl rfl rfl rfl ?_
      refine DJ.val [] (OpVal.cast (OpVal.loadE rfl hlI (by repeat (first | exact .head _ | refine .tail _ ?_)) (by omega) (by omega)) (congrArg (Value.int .i64) hx)) rfl rfl rfl rfl ?_
      refine DJ.val [] (OpVal.fieldAddrB rfl) rfl rfl rfl rfl ?_
      refine DJ.val [] (OpVal.loadP rfl (by assumption) (by repeat (first | exact .head _ | refine .tail _ ?_)) rfl) rfl rfl rfl rfl ?_
      refine DJ.val [] (OpVal.len rfl hW) rfl rfl rfl rfl ?_
      refine DJ.val [] (OpVal.cast (OpVal.opv rfl) (congrArg Value.bool (decide_eq_false (by omega)))) rfl rfl rfl rfl ?_
      refine DJ.val [] (OpVal.opv rfl) rfl rfl rfl rfl ?_
      refine DJ.val [] (OpVal.opv rfl) rfl rfl rfl rfl ?_
      refine DJ.val [] (OpVal.opv rfl) rfl rfl rfl rfl ?_
      refine DJ.val [] (OpVal.cast (OpVal.opv rfl) (congrArg Value.bool (decide_eq_false (by omega)))) rfl rfl rfl rfl ?_
      refine DJ.val [] (OpVal.opv rfl) rfl rfl rfl rfl ?_
      refine DJ.pass rfl rfl rfl rfl ?_
      refine DJ.pass rfl rfl rfl rfl ?_
      refine DJ.pass rfl rfl rfl rfl ?_
      refine DJ.pass rfl rfl rfl rfl ?_
      refine DJ.pass rfl rfl rfl rfl ?_
      refine DJ.pass rfl rfl rfl rfl ?_
      refine DJ.pass rfl rfl rfl rfl ?_
      refine DJ.pass rfl rfl rfl rfl ?_
      refine DJ.pass rfl rfl rfl rfl ?_
      refine DJ.nil ?_
      refine WL.pass rfl rfl rfl ?_
      refine WL.val (OpVal.opv rfl) rfl rfl rfl ?_
      refine WL.val (OpVal.opv rfl) rfl rfl rfl ?_
      refine WL.nil ?_
      refine Kseq.go ?_
      refine W.condF rfl rfl ?_
      refine W.skip (Kseq.go ?_)
      skip
      refine W.region ?_
      refine WL.val (OpVal.opv rfl) rfl rfl rfl ?_
      refine WL.val (OpVal.opv rfl) rfl rfl rfl ?_
      refine WL.val (OpVal.opv rfl) rfl rfl rfl ?_
      refine WL.val (OpVal.indexAddrN rfl rfl hlI (by omega)) rfl rfl rfl ?_
      refine WL.val (OpVal.cast (OpVal.loadE rfl hlI (by repeat (first | exact .head _ | refine .tail _ ?_)) (by omega) (by omega)) (congrArg (Value.int .i64) hx)) rfl rfl rfl ?_
      refine WL.val (OpVal.conv rfl (wrap_u64 (by omega) (by omega))) rfl rfl rfl ?_
      refine WL.val ((OpVal.shl rfl rfl (by omega) (by rw [e1]; omega) (by rw [e1]; omega)).cast (congrArg (Value.int .i64) e1)) rfl rfl rfl ?_
      refine WL.val (OpVal.bor rfl rfl (by omega) (by omega)) rfl rfl rfl ?_
      refine WL.val (OpVal.opv rfl) rfl rfl rfl ?_
      refine WL.nil ?_
      refine Kblock.normal (Kseq.go ?_)
      skip
      refine W.region ?_
      refine WL.val (OpVal.opv rfl) rfl rfl rfl ?_
      refine WL.val (OpVal.incr rfl (by omega)) rfl rfl rfl ?_
      refine WL.val (OpVal.opv rfl) rfl rfl rfl ?_
      refine WL.nil ?_
      skip
      exact Kloop.nextC (0 + 1) (by omega) (by omega) ⟨rfl, rfl, rfl, by rw [hrest]; rfl, rfl, trivial⟩ (by simp) (by repeat (first | exact List.Sublist.refl _ | refine List.Sublist.cons _ ?_ | refine List.Sublist.cons_cons _ ?_))
    · obtain ⟨y, hy, hyw⟩ := hnat (k - 1) (by omega)
      have hlt2 : y < w := by
        have := List.pairwise_iff_getElem.1 hpw (k - 1) k (by omega) hkl (by omega)
        rw [List.getD_eq_getElem?_getD, List.getElem?_eq_getElem (by omega)] at hx hy
        simp at hx hy
        omega
      refine W.skip (Kseq.go (W.seq (W.block (W.seq (W.seq ?_)))))
      refine W.draw 28 (by kernel_rfl) (by kernel_rfl) (by kernel_rfl) rfl ?_
      refine DJ.val [] (OpVal.opv rfl) rfl rfl rfl rfl ?_
      refine DJ.val [] (OpVal.opv rfl) rfl rfl rfl rfl ?_
      refine DJ.val [] (OpVal.indexAddrN rfl rfl hlI (by omega)) rfl rfl rfl rfl ?_
      refine DJ.val [] (OpVal.cast (OpVal.loadE rfl hlI (by repeat (first | exact .head _ | refine .tail _ ?_)) (by omega) (by omega)) (congrArg (Value.int .i64) hx)) rfl rfl rfl rfl ?_
      refine DJ.val [] (OpVal.cast (OpVal.opv rfl) (congrArg Value.bool (decide_eq_false (by omega)))) rfl rfl rfl rfl ?_
      refine DJ.val [] (OpVal.opv rfl) rfl rfl rfl rfl ?_
      refine DJ.val [] (OpVal.opv rfl) rfl rfl rfl rfl ?_
      refine DJ.val [] (OpVal.opv rfl) rfl rfl rfl rfl ?_
      refine DJ.val [] (OpVal.indexAddrN rfl rfl hlI (by omega)) rfl rfl rfl rfl ?_
      refine DJ.val [] (OpVal.cast (OpVal.loadE rfl hlI (by repeat (first | exact .head _ | refine .tail _ ?_)) (by omega) (by omega)) (congrArg (Value.int .i64) hx)) rfl rfl rfl rfl ?_
      refine DJ.val [] (OpVal.fieldAddrB rfl) rfl rfl rfl rfl ?_
      refine DJ.val [] (OpVal.loadP rfl (by assumption) (by repeat (first | exact .head _ | refine .tail _ ?_)) rfl) rfl rfl rfl rfl ?_
      refine DJ.val [] (OpVal.len rfl hW) rfl rfl rfl rfl ?_
      refine DJ.val [] (OpVal.cast (OpVal.opv rfl) (congrArg Value.bool (decide_eq_false (by omega)))) rfl rfl rfl rfl ?_
      refine DJ.val [] (OpVal.opv rfl) rfl rfl rfl rfl ?_
      refine DJ.val [] (OpVal.opv rfl) rfl rfl rfl rfl ?_
      refine DJ.val [] (OpVal.opv rfl) rfl rfl rfl rfl ?_
      refine DJ.val [] (OpVal.cast (OpVal.opv rfl) (congrArg Value.bool (decide_eq_true (by omega)))) rfl rfl rfl rfl ?_
      refine DJ.val [] (OpVal.opv rfl) rfl rfl rfl rfl ?_
      refine DJ.val [] (OpVal.opv rfl) rfl rfl rfl rfl ?_
      refine DJ.val [] (OpVal.opv rfl) rfl rfl rfl rfl ?_
      refine DJ.val [] (OpVal.indexAddrN rfl rfl hlI (by omega)) rfl rfl rfl rfl ?_
      refine DJ.val [] (OpVal.cast (OpVal.loadE rfl hlI (by repeat (first | exact .head _ | refine .tail _ ?_)) (by omega) (by omega)) (congrArg (Value.int .i64) hx)) rfl rfl rfl rfl ?_
      refine DJ.val [] (OpVal.opv rfl) rfl rfl rfl rfl ?_
      refine DJ.val [] (OpVal.opv rfl) rfl rfl rfl rfl ?_
      refine DJ.val [] (OpVal.cast (OpVal.sub rfl rfl (by omega) (by omega)) (congrArg (Value.int .i64) (show (k : Int) - 1 = ((k - 1 : Nat) : Int) by omega))) rfl rfl rfl rfl ?_
      refine DJ.val [] (OpVal.indexAddrN rfl rfl hlI (by omega)) rfl rfl rfl rfl ?_
      refine DJ.val [] (OpVal.cast (OpVal.loadE rfl hlI (by repeat (first | exact .head _ | refine .tail _ ?_)) (by omega) (by omega)) (congrArg (Value.int .i64) hy)) rfl rfl rfl rfl ?_
      refine DJ.nil ?_
      refine WL.val (OpVal.cast (OpVal.opv rfl) (congrArg Value.bool (decide_eq_false (by omega)))) rfl rfl rfl ?_
      refine WL.val (OpVal.opv rfl) rfl rfl rfl ?_
      refine WL.val (OpVal.opv rfl) rfl rfl rfl ?_
      refine WL.nil ?_
      refine Kseq.go ?_
      refine W.condF rfl rfl ?_
      refine W.skip (Kseq.go ?_)
      skip
      refine W.region ?_
      refine WL.val (OpVal.opv rfl) rfl rfl rfl ?_
      refine WL.val (OpVal.opv rfl) rfl rfl rfl ?_
      refine WL.val (OpVal.opv rfl) rfl rfl rfl ?_
      refine WL.val (OpVal.indexAddrN rfl rfl hlI (by omega)) rfl rfl rfl ?_
      refine WL.val (OpVal.cast (OpVal.loadE rfl hlI (by repeat (first | exact .head _ | refine .tail _ ?_)) (by omega) (by omega)) (congrArg (Value.int .i64) hx)) rfl rfl rfl ?_
      refine WL.val (OpVal.conv rfl (wrap_u64 (by omega) (by omega))) rfl rfl rfl ?_
      refine WL.val ((OpVal.shl rfl rfl (by omega) (by rw [e1]; omega) (by rw [e1]; omega)).cast (congrArg (Value.int .i64) e1)) rfl rfl rfl ?_
      refine WL.val (OpVal.bor rfl rfl (by omega) (by omega)) rfl rfl rfl ?_
      refine WL.val (OpVal.opv rfl) rfl rfl rfl ?_
      refine WL.nil ?_
      refine Kblock.normal (Kseq.go ?_)
      skip
      refine W.region ?_
      refine WL.val (OpVal.opv rfl) rfl rfl rfl ?_
      refine WL.val (OpVal.incr rfl (by omega)) rfl rfl rfl ?_
      refine WL.val (OpVal.opv rfl) rfl rfl rfl ?_
      refine WL.nil ?_
      skip
      exact Kloop.nextC (k + 1) (by omega) (by omega) ⟨rfl, rfl, rfl, by rw [hrest]; rfl, rfl, trivial⟩ (by simp) (by repeat (first | exact List.Sublist.refl _ | refine List.Sublist.cons _ ?_ | refine List.Sublist.cons_cons _ ?_))
  · refine W.exit (Kseq.exit (Kloop.exit (Kblock.here (Kseq.go (W.seq ?_)))))
    have hkk : k = l.length := by omega
    subst hkk
    have hm5 := hbm l.length (Nat.le_refl _)
    have hA := askE_without hVa (b := bmTo l l.length) (out := l) (by omega) fun i hi => by
      rw [bm_bit]
      constructor
      · intro hm
        obtain ⟨j, hj, e⟩ := getD_of_mem hm
        exact ⟨j, hj, by rw [e, Int.toNat_natCast]⟩
      · rintro ⟨j, hj, e⟩
        obtain ⟨w, e2, _⟩ := hnat j hj
        have : (i : Int) = l.getD j 0 := by rw [e2, Int.toNat_natCast] at e; rw [e2, e]
        rw [this]; exact mem_getD hj
    rw [if_pos hS.can] at hA
    have hnf : n &&& full t ≤ full t := Nat.and_le_right
    have hB := askE_without hVa (b := n &&& full t) (out := bits (n &&& full t)) (by omega) fun i hi => by
      rw [mem_bits]; exact ⟨fun h => h.2, fun h => ⟨by omega, h⟩⟩
    skip
    refine W.region ?_
    refine WL.val (OpVal.opv rfl) rfl rfl rfl ?_
    refine WL.val (OpVal.conv rfl (i64_in (by omega) (by omega))) rfl rfl rfl ?_
    refine WL.val (OpVal.loadPW rfl (by assumption) (by repeat (first | exact .head _ | refine .tail _ ?_)) (by rfl)) rfl rfl rfl ?_
    refine WL.val (OpVal.call rfl (fun m hm => full_any (hv'.le (by repeat (first | exact hm.1 | replace hm := hm.2))) hs)) rfl rfl rfl ?_
    refine WL.val (OpVal.band rfl rfl (by omega) (by omega)) rfl rfl rfl ?_
    refine WL.val (OpVal.opv rfl) rfl rfl rfl ?_
    refine WL.nil ?_
    refine Kseq.go (W.seq ?_)
    skip
    refine W.draw 12 (by kernel_rfl) (by kernel_rfl) (by kernel_rfl) rfl ?_
    refine DJ.val [] (OpVal.loadPW rfl (by assumption) (by repeat (first | exact .head _ | refine .tail _ ?_)) (by rfl)) rfl rfl rfl rfl ?_
    refine DJ.val [] (OpVal.loadPW rfl (by assumption) (by repeat (first | exact .head _ | refine .tail _ ?_)) (by rfl)) rfl rfl rfl rfl ?_
    refine DJ.val [] (OpVal.call rfl (fun m hm => full_any (hv'.le (by repeat (first | exact hm.1 | replace hm := hm.2))) hs)) rfl rfl rfl rfl ?_
    refine DJ.val [] (OpVal.opv rfl) rfl rfl rfl rfl ?_
    refine DJ.val [] (OpVal.bandNot rfl rfl (by omega) (by omega)) rfl rfl rfl rfl ?_
    refine DJ.abs (A := fun m r => IsTable m r (someT t (without (full t) (bmTo l l.length)))) [] (OpAbs.call rfl (fun m hm => some_any (hv'.le (by repeat (first | exact hm.1 | replace hm := hm.2))) hs)) rfl rfl rfl rfl ?_
    refine DJ.abs (A := fun m r => IsTable m r (someT t (without (full t) (bmTo l l.length)))) [(82, fun m r => IsTable m r (someT t (without (full t) (bmTo l l.length))))] (fun m82 v82 h82 => OpAbs.call rfl (fun m hm => table_any (h82.le (by repeat (first | exact hm.1 | replace hm := hm.2))) (someT_sm hs _))) rfl rfl rfl rfl ?_ (hG := ⟨(by repeat (first | exact .head _ | refine .tail _ ?_)), rfl, trivial⟩)
    refine DJ.abs (A := fun m r => ∃ lv, r = .tuple #[lv, vi 0]) [(83, fun m r => IsTable m r (someT t (without (full t) (bmTo l l.length))))] (fun m83 v83 h83 => OpAbs.mono (OpAbs.call rfl (fun m hm => whoseT_any (h83.le (by repeat (first | exact hm.1 | replace hm := hm.2))) (someT_sm hs _))) (fun m r ⟨lv, e, _⟩ => ⟨lv, by rw [e, hA]⟩)) rfl rfl rfl rfl ?_ (hG := ⟨(by repeat (first | exact .head _ | refine .tail _ ?_)), rfl, trivial⟩)
    refine DJ.abs (A := fun m r => ∃ lv, r = .tuple #[lv, vi 0]) [(84, fun m r => ∃ lv, r = .tuple #[lv, vi 0])] (fun m84 v84 h84 => OpAbs.ofVal (OpVal.opv rfl) (.head _) h84) rfl rfl rfl rfl ?_ (hG := ⟨(by repeat (first | exact .head _ | refine .tail _ ?_)), rfl, trivial⟩)
    refine DJ.abs (A := fun m r => True) [(76, fun m r => ∃ lv, r = .tuple #[lv, vi 0])] (fun m76 v76 h76 => by obtain ⟨lv, rfl⟩ := h76; exact OpAbs.ofVal (OpVal.opv rfl) (.head _) trivial) rfl rfl rfl rfl ?_ (hG := ⟨(by repeat (first | exact .head _ | refine .tail _ ?_)), rfl, trivial⟩)
    refine DJ.abs (A := fun m r => r = vi 0) [(76, fun m r => ∃ lv, r = .tuple #[lv, vi 0])] (fun m76 v76 h76 => by obtain ⟨lv, rfl⟩ := h76; exact OpAbs.ofVal (OpVal.opv rfl) (.head _) rfl) rfl rfl rfl rfl ?_ (hG := ⟨(by repeat (first | exact .head _ | refine .tail _ ?_)), rfl, trivial⟩)
    refine DJ.abs (A := fun m r => True) [(85, fun m r => True)] (fun m85 v85 h85 => OpAbs.ofVal (OpVal.opv rfl) (.head _) trivial) rfl rfl rfl rfl ?_ (hG := ⟨(by repeat (first | exact .head _ | refine .tail _ ?_)), rfl, trivial⟩)
    refine DJ.nil ?_
    rintro m10 v10 h10
    rintro m86 v86 h86
    rintro m85 v85 h85
    rintro m76 v76 h76
    rintro m84 v84 h84
    rintro m83 v83 h83
    rintro m82 v82 h82
    refine WL.abs (OpAbs.ofVal (A := fun _ r => r = vi 0) (OpVal.opv rfl) (.head _) h86) rfl rfl rfl ?_
    rintro m11 v11 h11
    refine WL.nil ?_
    refine Kseq.go (W.seq ?_)
    subst h11
    skip
    refine W.draw 12 (by kernel_rfl) (by kernel_rfl) (by kernel_rfl) rfl ?_
    refine DJ.val [] (OpVal.loadPW rfl (by assumption) (by repeat (first | exact .head _ | refine .tail _ ?_)) (by rfl)) rfl rfl rfl rfl ?_
    refine DJ.val [] (OpVal.loadPW rfl (by assumption) (by repeat (first | exact .head _ | refine .tail _ ?_)) (by rfl)) rfl rfl rfl rfl ?_
    refine DJ.val [] (OpVal.call rfl (fun m hm => full_any (hv'.le (by repeat (first | exact hm.1 | replace hm := hm.2))) hs)) rfl rfl rfl rfl ?_
    refine DJ.val [] (OpVal.opv rfl) rfl rfl rfl rfl ?_
    refine DJ.val [] (OpVal.bandNot rfl rfl (by omega) (by omega)) rfl rfl rfl rfl ?_
    refine DJ.abs (A := fun m r => IsTable m r (someT t (without (full t) (n &&& full t)))) [] (OpAbs.call rfl (fun m hm => some_any (hv'.le (by repeat (first | exact hm.1 | replace hm := hm.2))) hs)) rfl rfl rfl rfl ?_
    refine DJ.abs (A := fun m r => IsTable m r (someT t (without (full t) (n &&& full t)))) [(93, fun m r => IsTable m r (someT t (without (full t) (n &&& full t))))] (fun m93 v93 h93 => OpAbs.call rfl (fun m hm => table_any (h93.le (by repeat (first | exact hm.1 | replace hm := hm.2))) (someT_sm hs _))) rfl rfl rfl rfl ?_ (hG := ⟨(by repeat (first | exact .head _ | refine .tail _ ?_)), rfl, trivial⟩)
    refine DJ.abs (A := fun m r => ∃ lv, r = .tuple #[lv, vi (askE (someT t (without (full t) (n &&& full t))))]) [(94, fun m r => IsTable m r (someT t (without (full t) (n &&& full t))))] (fun m94 v94 h94 => OpAbs.mono (OpAbs.call rfl (fun m hm => whoseT_any (h94.le (by repeat (first | exact hm.1 | replace hm := hm.2))) (someT_sm hs _))) (fun m r ⟨lv, e, _⟩ => ⟨lv, e⟩)) rfl rfl rfl rfl ?_ (hG := ⟨(by repeat (first | exact .head _ | refine .tail _ ?_)), rfl, trivial⟩)
    refine DJ.abs (A := fun m r => ∃ lv, r = .tuple #[lv, vi (askE (someT t (without (full t) (n &&& full t))))]) [(95, fun m r => ∃ lv, r = .tuple #[lv, vi (askE (someT t (without (full t) (n &&& full t))))])] (fun m95 v95 h95 => OpAbs.ofVal (OpVal.opv rfl) (.head _) h95) rfl rfl rfl rfl ?_ (hG := ⟨(by repeat (first | exact .head _ | refine .tail _ ?_)), rfl, trivial⟩)
    refine DJ.abs (A := fun m r => True) [(87, fun m r => ∃ lv, r = .tuple #[lv, vi (askE (someT t (without (full t) (n &&& full t))))])] (fun m87 v87 h87 => by obtain ⟨lv, rfl⟩ := h87; exact OpAbs.ofVal (OpVal.opv rfl) (.head _) trivial) rfl rfl rfl rfl ?_ (hG := ⟨(by repeat (first | exact .head _ | refine .tail _ ?_)), rfl, trivial⟩)
    refine DJ.abs (A := fun m r => r = vi (askE (someT t (without (full t) (n &&& full t))))) [(87, fun m r => ∃ lv, r = .tuple #[lv, vi (askE (someT t (without (full t) (n &&& full t))))])] (fun m87 v87 h87 => by obtain ⟨lv, rfl⟩ := h87; exact OpAbs.ofVal (OpVal.opv rfl) (.head _) rfl) rfl rfl rfl rfl ?_ (hG := ⟨(by repeat (first | exact .head _ | refine .tail _ ?_)), rfl, trivial⟩)
    refine DJ.abs (A := fun m r => True) [(96, fun m r => True)] (fun m96 v96 h96 => OpAbs.ofVal (OpVal.opv rfl) (.head _) trivial) rfl rfl rfl rfl ?_ (hG := ⟨(by repeat (first | exact .head _ | refine .tail _ ?_)), rfl, trivial⟩)
    refine DJ.nil ?_
    rintro m12 v12 h12
    rintro m97 v97 h97
    rintro m96 v96 h96
    rintro m87 v87 h87
    rintro m95 v95 h95
    rintro m94 v94 h94
    rintro m93 v93 h93
    refine WL.abs (OpAbs.ofVal (A := fun _ r => r = vi (askE (someT t (without (full t) (n &&& full t))))) (OpVal.opv rfl) (.head _) h97) rfl rfl rfl ?_
    rintro m13 v13 h13
    refine WL.nil ?_
    refine Kseq.go (W.seq ?_)
    subst h13
    by_cases hpo : possibleB t (bits (n &&& full t)) = true
    · have hsh := hS.least _ hnf hpo
      rw [if_pos hpo] at hB
      rw [hB]
      skip
      refine W.region ?_
      refine WL.val (OpVal.opv rfl) rfl rfl rfl ?_
      refine WL.val (OpVal.eqT rfl rfl) rfl rfl rfl ?_
      refine WL.val (OpVal.opv rfl) rfl rfl rfl ?_
      refine WL.val (OpVal.opv rfl) rfl rfl rfl ?_
      refine WL.val (OpVal.eqF rfl rfl (by decide)) rfl rfl rfl ?_
      refine WL.val (OpVal.opv rfl) rfl rfl rfl ?_
      refine WL.val (OpVal.opv rfl) rfl rfl rfl ?_
      refine WL.val (OpVal.eqT rfl rfl) rfl rfl rfl ?_
      refine WL.val (OpVal.opv rfl) rfl rfl rfl ?_
      refine WL.val (OpVal.opv rfl) rfl rfl rfl ?_
      refine WL.abs (OpAbs.call rfl (fun m hm => bits_any (by omega))) rfl rfl rfl ?_
      rintro m108 v108 h108
      refine WL.val (OpVal.opv rfl) rfl rfl rfl ?_
      refine WL.val (OpVal.cast (OpVal.call rfl (fun m hm => shorter_any (h108.le (by repeat (first | exact hm.1 | replace hm := hm.2))) (hlI.le (by repeat (first | exact hm.1 | replace hm := hm.2))))) (congrArg Value.bool hsh)) rfl rfl rfl ?_
      refine WL.val (OpVal.opv rfl) rfl rfl rfl ?_
      refine WL.val (OpVal.opv rfl) rfl rfl rfl ?_
      refine WL.val (OpVal.opv rfl) rfl rfl rfl ?_
      refine WL.val (OpVal.opv rfl) rfl rfl rfl ?_
      refine WL.val (OpVal.opv rfl) rfl rfl rfl ?_
      refine WL.val (OpVal.call rfl (fun m hm => awake_any)) rfl rfl rfl ?_
      refine WL.val (OpVal.opv rfl) rfl rfl rfl ?_
      refine WL.val (OpVal.opv rfl) rfl rfl rfl ?_
      refine WL.nil ?_
      refine Kseq.go ?_
      refine W.ret ?_; skip; refine ⟨.inl rfl, [_], h, ⟨.tmp rfl, trivial⟩, (by repeat (first | exact .head _ | refine .tail _ ?_)), ?_⟩
      rfl
    · rw [if_neg hpo] at hB
      rw [hB]
      skip
      refine W.region ?_
      refine WL.val (OpVal.opv rfl) rfl rfl rfl ?_
      refine WL.val (OpVal.eqT rfl rfl) rfl rfl rfl ?_
      refine WL.val (OpVal.opv rfl) rfl rfl rfl ?_
      refine WL.val (OpVal.opv rfl) rfl rfl rfl ?_
      refine WL.val (OpVal.eqT rfl rfl) rfl rfl rfl ?_
      refine WL.val (OpVal.opv rfl) rfl rfl rfl ?_
      refine WL.pass rfl rfl rfl ?_
      refine WL.pass rfl rfl rfl ?_
      refine WL.pass rfl rfl rfl ?_
      refine WL.pass rfl rfl rfl ?_
      refine WL.pass rfl rfl rfl ?_
      refine WL.pass rfl rfl rfl ?_
      refine WL.pass rfl rfl rfl ?_
      refine WL.pass rfl rfl rfl ?_
      refine WL.pass rfl rfl rfl ?_
      refine WL.val (OpVal.opv rfl) rfl rfl rfl ?_
      refine WL.val (OpVal.opv rfl) rfl rfl rfl ?_
      refine WL.val (OpVal.opv rfl) rfl rfl rfl ?_
      refine WL.val (OpVal.call rfl (fun m hm => awake_any)) rfl rfl rfl ?_
      refine WL.val (OpVal.opv rfl) rfl rfl rfl ?_
      refine WL.val (OpVal.opv rfl) rfl rfl rfl ?_
      refine WL.nil ?_
      refine Kseq.go ?_
      refine W.ret ?_; skip; refine ⟨.inl rfl, [_], h, ⟨.tmp rfl, trivial⟩, (by repeat (first | exact .head _ | refine .tail _ ?_)), ?_⟩
      rfl
end Go.Proofs.Ytgolpbkapphciaa
