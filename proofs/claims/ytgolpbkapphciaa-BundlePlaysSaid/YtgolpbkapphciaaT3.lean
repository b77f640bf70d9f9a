/- The reference's functions of chapter 3, on: their contracts. -/
import Derived.Test.YtgolpbkapphciaaT2
namespace Go.Proofs.Ytgolpbkapphciaa
open Go Go.Eng Go.RowKit

theorem full_lt {t : Table} (hs : Sm t) : full t < 2 ^ 50 := by
  have h1 := hs.1
  have := Nat.pow_le_pow_right (n := 2) (by omega) h1
  have := Nat.two_pow_pos t.women.length
  unfold full; omega

/-- ref.Full -/
theorem full_any {h : Mem} {v : Value} {t : Table} (hv : IsTable h v t) (hs : Sm t) : FnV Try.prog 49 #[v] h (.int .i64 (full t)) := by
  obtain ⟨wv, pv, f, rfl, hW, hP, hM⟩ := hv
  obtain ⟨hs1, hs2, hs3⟩ := hs
  refine FnR.val ?_
  refine FnR.of_W (n := 9) Try.func49 rfl rfl (Nat.le_of_ble_eq_true rfl) fun c hr hD hF => ?_
  have hpow := Nat.pow_le_pow_right (n := 2) (by omega) hs1
  have hpos := Nat.two_pow_pos t.women.length
  have e : (1 * 2 ^ t.women.length : Int) = ((2 ^ t.women.length : Nat) : Int) := by simp
  refine W.seq ?_
  refine W.region ?_
  refine WL.box rfl rfl rfl rfl (fun b1 => ?_)
  refine WL.val (OpVal.opv rfl) rfl rfl rfl ?_
  refine WL.nil ?_
  refine Kseq.go (W.seq ?_)
  skip
  refine W.region ?_
  refine WL.val (OpVal.fieldAddrB rfl) rfl rfl rfl ?_
  refine WL.val (OpVal.loadB rfl (.head _) rfl) rfl rfl rfl ?_
  refine WL.val (OpVal.len rfl (by assumption)) rfl rfl rfl ?_
  refine WL.val (OpVal.conv rfl (wrap_u64 (by omega) (by omega))) rfl rfl rfl ?_
  refine WL.val ((OpVal.shl rfl rfl (by omega) (by rw [e]; omega) (by rw [e]; omega)).cast (congrArg (Value.int .i64) e)) rfl rfl rfl ?_
  refine WL.val (OpVal.sub rfl rfl (by omega) (by omega)) rfl rfl rfl ?_
  refine WL.val (OpVal.opv rfl) rfl rfl rfl ?_
  refine WL.nil ?_
  refine Kseq.go ?_
  refine W.ret ?_; skip; refine ⟨.inl rfl, [_], h, ⟨.tmp rfl, trivial⟩, (by repeat (first | exact .head _ | refine .tail _ ?_)), ?_⟩
  exact congrArg (Value.int .i64) (by unfold full; omega)

/-- ref.Right -/
theorem right_any {h : Mem} {v lv : Value} {t : Table} {xs : List Int} (hv : IsTable h v t) (hs : Sm t) (hl : IsInts h lv xs) : FnV Try.prog 78 #[v, lv] h (.int .i64 (right t xs)) := by
  obtain ⟨wv, pv, f, rfl, hW, hP, hM⟩ := hv
  obtain ⟨hs1, hs2, hs3⟩ := hs
  refine FnR.val ?_
  refine FnR.of_W (n := 38) Try.func78 rfl rfl (Nat.le_of_ble_eq_true rfl) fun c hr hD hF => ?_
  refine W.seq ?_
  refine W.region ?_
  refine WL.box rfl rfl rfl rfl (fun b2 => ?_)
  refine WL.val (OpVal.opv rfl) rfl rfl rfl ?_
  refine WL.nil ?_
  refine Kseq.go (W.seq ?_)
  skip
  refine W.region ?_
  refine WL.val (OpVal.opv rfl) rfl rfl rfl ?_
  refine WL.nil ?_
  refine Kseq.go (W.seq (W.seq ?_))
  skip
  refine W.region ?_
  refine WL.val (OpVal.opv rfl) rfl rfl rfl ?_
  refine WL.nil ?_
  refine Kseq.go (W.block ?_)
  refine W.loopC (σ := Nat) (fun k => [(1, lv), (2, .pointer (some ⟨b2, 0, none⟩)), (5, .int .i64 (bset k (rightP t xs))), (6, .int .i64 (k : Int))]) (fun k => k ≤ t.women.length) (fun k => t.women.length - k) 0 ⟨rfl, rfl, rfl, rfl, trivial⟩ (Nat.zero_le _) ?_
  intro k hk
  have hb := bset_lt (rightP t xs) k
  have hpow := Nat.pow_le_pow_right (n := 2) (by omega) (show k ≤ 50 by omega)
  have e : (1 * 2 ^ k : Int) = ((2 ^ k : Nat) : Int) := by simp
  refine W.seq (W.seq ?_)
  refine W.region ?_
  refine WL.val (OpVal.opv rfl) rfl rfl rfl ?_
  refine WL.val (OpVal.fieldAddrB rfl) rfl rfl rfl ?_
  refine WL.val (OpVal.loadB rfl (.head _) rfl) rfl rfl rfl ?_
  refine WL.val (OpVal.len rfl (by assumption)) rfl rfl rfl ?_
  refine WL.val (OpVal.opv rfl) rfl rfl rfl ?_
  refine WL.nil ?_
  refine Kseq.go ?_
  refine W.condD rfl rfl (fun hlt => ?_) (fun hge => ?_)
  · refine W.skip (Kseq.go (W.seq (W.block (W.seq ?_))))
    refine W.draw 17 (by kernel_rfl) (by kernel_rfl) (by kernel_rfl) rfl ?_
    refine DJ.val [] (OpVal.opv rfl) rfl rfl rfl rfl ?_
    refine DJ.val [] (OpVal.opv rfl) rfl rfl rfl rfl ?_
    refine DJ.val [] (OpVal.call rfl (fun m hm => own_any _ (hl.le hm.1))) rfl rfl rfl rfl ?_
    refine DJ.val [] (OpVal.fieldAddrB rfl) rfl rfl rfl rfl ?_
    refine DJ.val [] (OpVal.loadB rfl (.head _) rfl) rfl rfl rfl rfl ?_
    refine DJ.val [] (OpVal.opv rfl) rfl rfl rfl rfl ?_
    refine DJ.val [] (OpVal.indexAddrN rfl rfl (by assumption) (by omega)) rfl rfl rfl rfl ?_
    refine DJ.val [] (OpVal.fieldAddrN rfl (by assumption) (by omega)) rfl rfl rfl rfl ?_
    refine DJ.val [] (OpVal.fieldAddrN rfl (by assumption) (by omega)) rfl rfl rfl rfl ?_
    refine DJ.val [] (OpVal.loadE rfl (by assumption) (by repeat (first | exact .head _ | refine .tail _ ?_)) (by omega) (by omega)) rfl rfl rfl rfl ?_
    refine DJ.val [] (OpVal.fieldAddrB rfl) rfl rfl rfl rfl ?_
    refine DJ.val [] (OpVal.loadB rfl (.head _) rfl) rfl rfl rfl rfl ?_
    refine DJ.val [] (OpVal.opv rfl) rfl rfl rfl rfl ?_
    refine DJ.val [] (OpVal.indexAddrN rfl rfl (by assumption) (by omega)) rfl rfl rfl rfl ?_
    refine DJ.val [] (OpVal.fieldAddrN rfl (by assumption) (by omega)) rfl rfl rfl rfl ?_
    refine DJ.val [] (OpVal.fieldAddrN rfl (by assumption) (by omega)) rfl rfl rfl rfl ?_
    refine DJ.val [] (OpVal.loadE rfl (by assumption) (by repeat (first | exact .head _ | refine .tail _ ?_)) (by omega) (by omega)) rfl rfl rfl rfl ?_
    refine DJ.nil ?_
    refine WL.val (OpVal.call rfl (fun m hm => in_any _ _ _)) rfl rfl rfl ?_
    refine WL.nil ?_
    refine Kseq.go ?_
    refine W.condD rfl rfl (fun he => ?_) (fun hne => ?_)
    · skip
      refine W.region ?_
      refine WL.val (OpVal.opv rfl) rfl rfl rfl ?_
      refine WL.val (OpVal.opv rfl) rfl rfl rfl ?_
      refine WL.val (OpVal.conv rfl (wrap_u64 (by omega) (by omega))) rfl rfl rfl ?_
      refine WL.val ((OpVal.shl rfl rfl (by omega) (by rw [e]; omega) (by rw [e]; omega)).cast (congrArg (Value.int .i64) e)) rfl rfl rfl ?_
      refine WL.val (OpVal.bor rfl rfl (by omega) (by omega)) rfl rfl rfl ?_
      refine WL.val (OpVal.opv rfl) rfl rfl rfl ?_
      refine WL.nil ?_
      refine Kblock.normal (Kseq.go ?_)
      skip
      refine W.region ?_
      refine WL.val (OpVal.opv rfl) rfl rfl rfl ?_
      refine WL.val (OpVal.incr rfl (by omega)) rfl rfl rfl ?_
      refine WL.val (OpVal.opv rfl) rfl rfl rfl ?_
      refine WL.nil ?_
      skip
      refine Kloop.nextC (k + 1) (by omega) (by omega) ⟨rfl, rfl, ?_, rfl, trivial⟩ (by simp) (.refl _)
      have : rightP t xs k = true := decide_eq_true he
      simp only [bset, this, if_true]; rfl
    · refine W.skip (Kblock.normal (Kseq.go ?_))
      skip
      refine W.region ?_
      refine WL.val (OpVal.opv rfl) rfl rfl rfl ?_
      refine WL.val (OpVal.incr rfl (by omega)) rfl rfl rfl ?_
      refine WL.val (OpVal.opv rfl) rfl rfl rfl ?_
      refine WL.nil ?_
      skip
      refine Kloop.nextC (k + 1) (by omega) (by omega) ⟨rfl, rfl, ?_, rfl, trivial⟩ (by simp) (.refl _)
      have : rightP t xs k = false := decide_eq_false hne
      simp only [bset, this]; rfl
  · refine W.exit (Kseq.exit (Kloop.exit (Kblock.here (Kseq.go (W.seq ?_)))))
    have : k = t.women.length := by omega
    subst this
    skip
    refine W.region ?_
    refine WL.val (OpVal.opv rfl) rfl rfl rfl ?_
    refine WL.val (OpVal.opv rfl) rfl rfl rfl ?_
    refine WL.nil ?_
    refine Kseq.go ?_
    refine W.ret ?_; skip; refine ⟨.inl rfl, [_], h, ⟨.tmp rfl, trivial⟩, (by repeat (first | exact .head _ | refine .tail _ ?_)), ?_⟩
    rfl

/-- ref.Bits -/
theorem bits_any {h : Mem} {b : Nat} (hb : b < 2 ^ 60) : FnR Try.prog 41 #[.int .i64 b] h (fun m r => IsInts m r (bits b)) := by
  refine FnR.of_W (n := 23) Try.func41 rfl rfl (Nat.le_of_ble_eq_true rfl) fun c hr hD hF => ?_
  refine W.seq ?_
  refine W.region ?_
  refine WL.val (OpVal.opv rfl) rfl rfl rfl ?_
  refine WL.nil ?_
  refine Kseq.go (W.seq ?_)
  skip
  refine W.region ?_
  refine WL.val (OpVal.opv rfl) rfl rfl rfl ?_
  refine WL.nil ?_
  refine Kseq.go (W.seq (W.seq ?_))
  skip
  refine W.region ?_
  refine WL.val (OpVal.opv rfl) rfl rfl rfl ?_
  refine WL.nil ?_
  refine Kseq.go (W.block ?_)
  refine W.nilRow 3 1 ?_
  let q : Nat → Bool := fun i => b.testBit i
  refine W.loopA (σ := Nat × Value) (fun s => [(0, .int .i64 b), (3, s.2), (4, .int .i64 (s.1 : Int))]) (fun s => ir 3 s.2 (sel s.1 q)) (fun s => s.1 ≤ 60) (fun s => 60 - s.1) (0, .slice none 0 0) ⟨rfl, rfl, rfl, trivial⟩ rfl (Nat.zero_le _) ?_
  rintro ⟨k, a⟩ hk
  dsimp only at hk ⊢
  have hlen := sel_len k q
  refine W.seq (W.seq ?_)
  refine W.region ?_
  refine WL.val (OpVal.opv rfl) rfl rfl rfl ?_
  refine WL.val (OpVal.opv rfl) rfl rfl rfl ?_
  refine WL.val (OpVal.conv rfl (wrap_u64 (by omega) (by omega))) rfl rfl rfl ?_
  refine WL.val (OpVal.shr rfl rfl (by omega)) rfl rfl rfl ?_
  refine WL.val (OpVal.opv rfl) rfl rfl rfl ?_
  refine WL.nil ?_
  refine Kseq.go ?_
  refine W.condD rfl rfl (fun hlt => ?_) (fun hge => ?_)
  · have hk60 : k < 60 := by
      rcases Nat.lt_or_ge k 60 with h | h
      · exact h
      · exfalso
        have hk' : k = 60 := by omega
        subst hk'
        rw [Nat.div_eq_of_lt hb] at hlt
        simp at hlt
    have hq : q k = decide (b / 2 ^ k % 2 = 1) := by
      show Nat.testBit b k = _
      rw [Nat.testBit_eq_decide_div_mod_eq]
    refine W.skip (Kseq.go (W.seq (W.block (W.seq ?_))))
    refine W.region ?_
    refine WL.val (OpVal.opv rfl) rfl rfl rfl ?_
    refine WL.val (OpVal.opv rfl) rfl rfl rfl ?_
    refine WL.val (OpVal.conv rfl (wrap_u64 (by omega) (by omega))) rfl rfl rfl ?_
    refine WL.val (OpVal.shr rfl rfl (by omega)) rfl rfl rfl ?_
    refine WL.val (OpVal.rem rfl rfl (by omega) (by omega)) rfl rfl rfl ?_
    refine WL.val (OpVal.opv rfl) rfl rfl rfl ?_
    refine WL.nil ?_
    refine Kseq.go ?_
    refine W.condD rfl rfl (fun he => ?_) (fun hne => ?_)
    · skip
      refine W.region ?_
      refine WL.val (OpVal.opv rfl) rfl rfl rfl ?_
      refine WL.val (OpVal.opv rfl) rfl rfl rfl ?_
      refine WL.abs (OpAbs.lit [_] rfl (Nat.le_of_ble_eq_true rfl) rfl rfl (by simp [Value.cells]) (Nat.le_of_ble_eq_true rfl) rfl (by first | (simp [Value.oneCell']; done) | exact List.all_eq_true.1 rfl)) rfl rfl rfl ?_
      rintro m20 _ ⟨hc20, a20, rfl⟩
      refine WL.appInt rfl (fun _ => (.head _)) rfl (by assumption) (by repeat (first | exact .head _ | refine .tail _ ?_)) (by omega) rfl rfl rfl ?_
      intro a21 cp21
      refine WL.val (OpVal.opv rfl) rfl rfl rfl ?_
      refine WL.nil ?_
      refine Kblock.normal (Kseq.go ?_)
      skip
      refine W.region ?_
      refine WL.val (OpVal.opv rfl) rfl rfl rfl ?_
      refine WL.val (OpVal.incr rfl (by omega)) rfl rfl rfl ?_
      refine WL.val (OpVal.opv rfl) rfl rfl rfl ?_
      refine WL.nil ?_
      skip
      exact Kloop.next (k + 1, _) (by omega) (by omega) ⟨rfl, rfl, rfl, trivial⟩ (by simp) (sub_yes (by rw [hq]; exact decide_eq_true (by omega)))
    · refine W.skip (Kblock.normal (Kseq.go ?_))
      skip
      refine W.region ?_
      refine WL.val (OpVal.opv rfl) rfl rfl rfl ?_
      refine WL.val (OpVal.incr rfl (by omega)) rfl rfl rfl ?_
      refine WL.val (OpVal.opv rfl) rfl rfl rfl ?_
      refine WL.nil ?_
      skip
      exact Kloop.next (k + 1, a) (by omega) (by omega) ⟨rfl, rfl, rfl, trivial⟩ (by simp) (sub_no (by rw [hq]; exact decide_eq_false (by omega)))
  · refine W.exit (Kseq.exit (Kloop.exit (Kblock.here (Kseq.go (W.seq ?_)))))
    have hsel : sel 64 q = sel k q := sel_stop (by omega) fun i h1 h2 => by
      show Nat.testBit b i = false
      refine Nat.testBit_lt_two_pow ?_
      have h0 : b / 2 ^ k = 0 := Nat.eq_zero_of_not_pos fun h => hge (Int.natCast_pos.2 h)
      have := (Nat.div_eq_zero_iff).1 h0
      have h3 : b < 2 ^ k := by
        rcases this with h | h
        · exact absurd h (Nat.ne_of_gt (Nat.two_pow_pos k))
        · exact h
      exact Nat.lt_of_lt_of_le h3 (Nat.pow_le_pow_right (by omega) h1)
    refine W.freezeInts (.head _) (fun b hb => (hF b hb).elim) fun mr hmr => ?_
    skip
    refine W.region ?_
    refine WL.val (OpVal.opv rfl) rfl rfl rfl ?_
    refine WL.val (OpVal.opv rfl) rfl rfl rfl ?_
    refine WL.nil ?_
    refine Kseq.go ?_
    refine W.ret ?_; skip; refine ⟨.inl rfl, [_], mr, ⟨.tmp rfl, trivial⟩, (by repeat (first | exact .head _ | refine .tail _ ?_)), ?_⟩
    unfold bits
    rw [hsel]
    exact hmr

/-- ref.IsTruth -/
theorem isTruth_any {h : Mem} {v lv : Value} {t : Table} {xs : List Int} (hv : IsTable h v t) (hs : Sm t) (hl : IsInts h lv xs) : FnV Try.prog 55 #[v, lv] h (.bool (isTruth t xs)) := by
  have hv' := hv
  obtain ⟨wv, pv, f, rfl, hW, hP, hM⟩ := hv
  have hf := full_lt hs
  have hr : right t xs < 2 ^ 50 := Nat.lt_of_lt_of_le (bset_lt _ _) (Nat.pow_le_pow_right (by omega) hs.1)
  have hwo : without (full t) (right t xs) < 2 ^ 60 := Nat.lt_of_le_of_lt Nat.and_le_left (by omega)
  refine FnR.val ?_
  refine FnR.of_W (n := 21) Try.func55 rfl rfl (Nat.le_of_ble_eq_true rfl) fun c hr hD hF => ?_
  refine W.seq ?_
  refine W.region ?_
  refine WL.box rfl rfl rfl rfl (fun b2 => ?_)
  refine WL.val (OpVal.opv rfl) rfl rfl rfl ?_
  refine WL.nil ?_
  refine Kseq.go (W.seq ?_)
  skip
  refine W.draw 14 (by kernel_rfl) (by kernel_rfl) (by kernel_rfl) rfl ?_
  refine DJ.val [] (OpVal.loadBW rfl (.head _) rfl) rfl rfl rfl rfl ?_
  refine DJ.val [] (OpVal.opv rfl) rfl rfl rfl rfl ?_
  refine DJ.val [] (OpVal.call rfl (fun m hm => areOwners_any (hv'.le hm.1) hs (hl.le hm.1))) rfl rfl rfl rfl ?_
  refine DJ.val [] (OpVal.opv rfl) rfl rfl rfl rfl ?_
  refine DJ.splitB rfl rfl (fun h1 => ?_) (fun h1 => ?_)
  · refine DJ.val [] (OpVal.loadBW rfl (.head _) rfl) rfl rfl rfl rfl ?_
    refine DJ.val [] (OpVal.call rfl (fun m hm => full_any (hv'.le hm.1) hs)) rfl rfl rfl rfl ?_
    refine DJ.val [] (OpVal.loadBW rfl (.head _) rfl) rfl rfl rfl rfl ?_
    refine DJ.val [] (OpVal.opv rfl) rfl rfl rfl rfl ?_
    refine DJ.val [] (OpVal.call rfl (fun m hm => right_any (hv'.le hm.1) hs (hl.le hm.1))) rfl rfl rfl rfl ?_
    refine DJ.val [] (OpVal.bandNot rfl rfl (by omega) (by omega)) rfl rfl rfl rfl ?_
    refine DJ.abs (A := fun m r => IsInts m r (bits (without (full t) (right t xs)))) [] (OpAbs.call rfl (fun m hm => bits_any hwo)) rfl rfl rfl rfl ?_
    refine DJ.val [(15, fun m r => IsInts m r (bits (without (full t) (right t xs))))] (fun m15 v15 h15 => OpVal.len rfl (by assumption)) rfl rfl rfl rfl ?_ (hG := ⟨(by repeat (first | exact .head _ | refine .tail _ ?_)), rfl, trivial⟩)
    refine DJ.val [] (OpVal.fieldAddrB rfl) rfl rfl rfl rfl ?_
    refine DJ.val [] (OpVal.loadB rfl (.head _) rfl) rfl rfl rfl rfl ?_
    refine DJ.nil ?_
    rintro m15 v15 h15
    refine WL.val (OpVal.opv rfl) rfl rfl rfl ?_
    refine WL.val (OpVal.opv rfl) rfl rfl rfl ?_
    refine WL.val (OpVal.opv rfl) rfl rfl rfl ?_
    refine WL.nil ?_
    refine Kseq.go ?_
    refine W.ret ?_; skip; refine ⟨.inl rfl, [_], h, ⟨.tmp rfl, trivial⟩, (by repeat (first | exact .head _ | refine .tail _ ?_)), ?_⟩
    exact congrArg Value.bool (by simp [isTruth, h1])
  · refine DJ.pass rfl rfl rfl rfl ?_
    refine DJ.pass rfl rfl rfl rfl ?_
    refine DJ.pass rfl rfl rfl rfl ?_
    refine DJ.pass rfl rfl rfl rfl ?_
    refine DJ.pass rfl rfl rfl rfl ?_
    refine DJ.pass rfl rfl rfl rfl ?_
    refine DJ.pass rfl rfl rfl rfl ?_
    refine DJ.pass rfl rfl rfl rfl ?_
    refine DJ.pass rfl rfl rfl rfl ?_
    refine DJ.pass rfl rfl rfl rfl ?_
    refine DJ.nil ?_
    refine WL.pass rfl rfl rfl ?_
    refine WL.val (OpVal.opv rfl) rfl rfl rfl ?_
    refine WL.val (OpVal.opv rfl) rfl rfl rfl ?_
    refine WL.nil ?_
    refine Kseq.go ?_
    refine W.ret ?_; skip; refine ⟨.inl rfl, [_], h, ⟨.tmp rfl, trivial⟩, (by repeat (first | exact .head _ | refine .tail _ ?_)), ?_⟩
    exact congrArg Value.bool (by simp [isTruth, h1])
end Go.Proofs.Ytgolpbkapphciaa
