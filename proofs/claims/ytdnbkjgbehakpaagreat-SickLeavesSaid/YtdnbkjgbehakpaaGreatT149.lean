/- The reference's functions of chapter 6: Leave, First; the statement SickLeaves. -/
import Derived.Test.YtdnbkjgbehakpaaGreatT146
import Derived.Test.YtdnbkjgbehakpaaGreatT135
import Derived.Test.YtdnbkjgbehakpaaGreatT7
namespace Go.Proofs.YtdnbkjgbehakpaaGreat
open Go Go.Eng Go.RowKit

def canL (r : House) (k : Nat) : Bool := can (rights6 r) (without (full6 r) k)
def canF (r : House) (k : Nat) : Bool := can (rights6 r) (2 ^ (k + 1) - 1)
theorem full6_lt {r : House} (hV : ValidH r) : full6 r < 2 ^ 5 := by
  have : 2 ^ r.signs.length ≤ 2 ^ 5 := Nat.pow_le_pow_right (by omega) hV.signN
  have h0 : 0 < 2 ^ r.signs.length := Nat.pow_pos (by omega)
  unfold full6; omega
theorem rights_lt {r : House} (hV : ValidH r) : ∀ x ∈ rights6 r, x < 2 ^ 60 := fun x hx => by
  obtain ⟨c, _, rfl⟩ := List.mem_map.1 hx
  exact Nat.lt_of_lt_of_le (bset_lt _ _) (Nat.pow_le_pow_right (by omega) (by have := hV.signN; omega))
/-- Leave -/
theorem leaveR6_any {h : Mem} {v av : Value} {r : House} (hv : IsHouse h v r) (hV : ValidH r) (ha : IsInts h av ((rights6 r).map Int.ofNat)) : FnR Tryz.prog 39 #[v, av] h (fun m q => IsInts m q (leastK (canL r) (full6 r) (full6 r + 1))) := by
  have hv' := hv
  obtain ⟨wv, pv, kv, tv, bv, sv, f, rfl, hA⟩ := hv
  have h5 := hV.signN
  have hfl := full6_lt hV
  have hrl := rights_lt hV
  refine FnR.of_W (n := 32) Tryz.func39 rfl rfl (Nat.le_of_ble_eq_true rfl) fun c hr hD hF => ?_
  refine W.seq ?_; refine W.region ?_
  refine WL.box rfl rfl rfl rfl (fun b2 => ?_)
  refine .o rfl rfl rfl rfl ?_; refine WL.nil ?_
  refine Kseq.go (W.seq ?_)
  refine W.freezeBox (.head _) (fun b hb => (hF b hb).elim) fun m2 h2 => ?_
  refine W.region ?_; refine .val (.loadPW rfl h2 (by repeat constructor) rfl) rfl rfl rfl ?_; refine .val (.call rfl (fun m hm => full6R_any (hv'.le (by repeat (first | exact hm.1 | replace hm := hm.2))) (by omega))) rfl rfl rfl ?_; refine WL.abs (OpAbs.call rfl (fun m hm => bits_any (by omega))) rfl rfl rfl ?_
  rintro m10 v10 h10
  refine .o rfl rfl rfl rfl ?_; refine WL.nil ?_
  refine Kseq.go (W.seq (W.seq ?_))
  refine W.region ?_; refine .o rfl rfl rfl rfl ?_; refine WL.nil ?_
  refine Kseq.go (W.block ?_)
  refine W.loop (σ := Nat × Value × Mem) (fun s => [(1, av), (2, .pointer (some ⟨b2, 0, none⟩)), (5, s.2.1), (6, vi (s.1 : Int))]) (fun s => [s.2.2, m2, h]) (fun _ => []) (fun s => s.1 ≤ full6 r + 1 ∧ IsInts s.2.2 s.2.1 (leastK (canL r) (full6 r) s.1)) (fun s => full6 r + 1 - s.1) (0, v10, m10) ⟨rfl, rfl, rfl, rfl, trivial⟩ (by simp) (List.nil_sublist _) ⟨Nat.zero_le _, h10⟩ ?_
  rintro ⟨k, bv2, mb⟩ ⟨hk, hbest⟩
  dsimp only at hk hbest ⊢
  refine W.seq (W.seq ?_)
  refine W.region ?_; refine .o rfl rfl rfl rfl ?_; refine .val (.loadPW rfl h2 (by repeat constructor) rfl) rfl rfl rfl ?_; refine .val (.call rfl (fun m hm => full6R_any (hv'.le (by repeat (first | exact hm.1 | replace hm := hm.2))) (by omega))) rfl rfl rfl ?_; refine .o rfl rfl rfl rfl ?_; refine WL.nil ?_; refine Kseq.go ?_
  refine W.condD rfl rfl (fun hlt => ?_) (fun hge => ?_)
  · have hkl : k ≤ full6 r := by omega
    have hwo : without (full6 r) k ≤ full6 r := Nat.and_le_left
    refine W.skip (Kseq.go (W.seq (W.block (W.seq ?_))))
    refine W.region ?_; refine .o rfl rfl rfl rfl ?_; refine WL.abs (OpAbs.call rfl (fun m hm => bits_any (by omega))) rfl rfl rfl ?_
    rintro m18 v18 h18
    refine .o rfl rfl rfl rfl ?_; refine WL.nil ?_
    refine Kseq.go (W.seq ?_)
    refine W.join fun mj hj => ?_
    have hbj := hbest.le (hj mb (by simp))
    have hkj := h18.le (hj m18 (by simp))
    have h2j := h2.le (hj m2 (by simp))
    have hvj := hv'.le (hj h (by simp))
    have haj := ha.le (hj h (by simp))
    refine W.toS [(1, av), (2, .pointer (some ⟨b2, 0, none⟩)), (5, bv2), (6, vi (k : Int)), (7, v18), (29, .bool (shorter (bits k) (leastK (canL r) (full6 r) k) && canL r k))] ?_ ?_
    · obtain ⟨sh, hsh⟩ : ∃ sh, shorter (bits k) (leastK (canL r) (full6 r) k) = sh := ⟨_, rfl⟩
      obtain ⟨cn, hcn⟩ : ∃ cn, canL r k = cn := ⟨_, rfl⟩
      rw [hsh, hcn]
      refine W.region ?_
      iterate 2 refine .o rfl rfl rfl rfl ?_
      refine .val (.cast (.call rfl (fun m hm => shorter_any (hkj.le (by repeat (first | exact hm.1 | replace hm := hm.2))) (hbj.le (by repeat (first | exact hm.1 | replace hm := hm.2))))) (congrArg Value.bool hsh)) rfl rfl rfl ?_; refine .o rfl rfl rfl rfl ?_
      refine WL.splitB rfl rfl (fun g22 => ?_) (fun g22 => ?_)
      · refine .o rfl rfl rfl rfl ?_
        refine .val (.loadPW rfl h2j (by repeat constructor) rfl) rfl rfl rfl ?_; refine .val (.call rfl (fun m hm => full6R_any (hvj.le (by repeat (first | exact hm.1 | replace hm := hm.2))) (by omega))) rfl rfl rfl ?_; refine .o rfl rfl rfl rfl ?_; refine .val (.bandNot rfl rfl (by omega) (by omega)) rfl rfl rfl ?_; refine .val (.cast (.call rfl (fun m hm => can_any (haj.le (by repeat (first | exact hm.1 | replace hm := hm.2))) hrl (show without (full6 r) k < 2 ^ 60 by omega))) (congrArg Value.bool hcn)) rfl rfl rfl ?_; refine .o rfl rfl rfl rfl ?_; refine WL.nil ?_
        exact Keff.intro ⟨rfl, rfl, rfl, rfl, rfl, congrArg (fun b => some (Value.bool b)) (by first | exact (by first | (simp [-List.getD_eq_getElem?_getD]; done) | (simp_all [-List.getD_eq_getElem?_getD]; done) | (simp [-List.getD_eq_getElem?_getD]; omega) | (rw [Bool.eq_iff_iff]; simp [-List.getD_eq_getElem?_getD]; omega) | (simp [-List.getD_eq_getElem?_getD] at *; omega)) | (simp [*]; done) | (simp_all; done)), trivial⟩ (by simp) (by repeat (first | exact List.Sublist.refl _ | refine List.Sublist.cons _ ?_ | refine List.Sublist.cons_cons _ ?_))
      · refine WL.pass rfl rfl rfl ?_
        refine WL.pass rfl rfl rfl ?_; refine WL.pass rfl rfl rfl ?_; refine WL.pass rfl rfl rfl ?_; refine WL.pass rfl rfl rfl ?_; refine WL.pass rfl rfl rfl ?_; refine .o rfl rfl rfl rfl ?_; refine WL.nil ?_
        exact Keff.intro ⟨rfl, rfl, rfl, rfl, rfl, congrArg (fun b => some (Value.bool b)) (by first | exact (by first | (simp [-List.getD_eq_getElem?_getD]; done) | (simp_all [-List.getD_eq_getElem?_getD]; done) | (simp [-List.getD_eq_getElem?_getD]; omega) | (rw [Bool.eq_iff_iff]; simp [-List.getD_eq_getElem?_getD]; omega) | (simp [-List.getD_eq_getElem?_getD] at *; omega)) | (simp [*]; done) | (simp_all; done)), trivial⟩ (by simp) (by repeat (first | exact List.Sublist.refl _ | refine List.Sublist.cons _ ?_ | refine List.Sublist.cons_cons _ ?_))
    refine Kseq.go ?_
    refine W.cond rfl rfl (fun hb => ?_) (fun hb => ?_)
    · have e : leastK (canL r) (full6 r) (k + 1) = bits k := by
        rw [Bool.and_eq_true] at hb
        simp only [leastK]; rw [if_pos hb]
      refine W.region ?_
      iterate 2 refine .o rfl rfl rfl rfl ?_
      refine WL.nil ?_
      refine Kblock.normal (Kseq.go ?_)
      refine W.region ?_; refine .o rfl rfl rfl rfl ?_; refine .val (.incr rfl (by omega)) rfl rfl rfl ?_; refine .o rfl rfl rfl rfl ?_; refine WL.nil ?_
      exact Kloop.next (k + 1, v18, mj) ⟨by dsimp only; omega, by dsimp only; rw [e]; exact hkj⟩ (by dsimp only; omega) ⟨rfl, rfl, rfl, rfl, trivial⟩ (by simp) (by repeat (first | exact List.Sublist.refl _ | refine List.Sublist.cons _ ?_ | refine List.Sublist.cons_cons _ ?_))
    · have e : leastK (canL r) (full6 r) (k + 1) = leastK (canL r) (full6 r) k := by
        simp only [leastK]; rw [if_neg (fun hh => by rw [hh.1, hh.2] at hb; cases hb)]
      refine W.skip (Kblock.normal (Kseq.go ?_))
      refine W.region ?_; refine .o rfl rfl rfl rfl ?_; refine .val (.incr rfl (by omega)) rfl rfl rfl ?_; refine .o rfl rfl rfl rfl ?_; refine WL.nil ?_
      exact Kloop.next (k + 1, bv2, mj) ⟨by dsimp only; omega, by dsimp only; rw [e]; exact hbj⟩ (by dsimp only; omega) ⟨rfl, rfl, rfl, rfl, trivial⟩ (by simp) (by repeat (first | exact List.Sublist.refl _ | refine List.Sublist.cons _ ?_ | refine List.Sublist.cons_cons _ ?_))
  · refine W.exit (Kseq.exit (Kloop.exit (Kblock.here (Kseq.go (W.seq ?_)))))
    have hkk : k = full6 r + 1 := by omega
    subst hkk
    refine W.region ?_
    iterate 2 refine .o rfl rfl rfl rfl ?_
    refine WL.nil ?_; refine Kseq.go ?_
    refine W.ret ?_; refine ⟨.inl rfl, [_], mb, ⟨.tmp rfl, trivial⟩, (by repeat constructor), ?_⟩
    exact hbest
theorem fstNo_is {p : Nat → Bool} {n k : Nat} (h1 : ∀ i, i < k → p i = true) (h2 : p k = false) (hk : k < n) : fstNo p n = k := by
  obtain ⟨a, b⟩ := fstNo_spec6 (p := p) n
  rcases Nat.lt_trichotomy (fstNo p n) k with h | h | h
  · have := b (by omega)
    rw [h1 _ h] at this; cases this
  · exact h
  · rw [a k h] at h2; cases h2
theorem fstNo_all6 {p : Nat → Bool} {n : Nat} (h1 : ∀ i, i < n → p i = true) : fstNo p n = n := by
  obtain ⟨_, b⟩ := fstNo_spec6 (p := p) n
  have hle := fstNo_le p n
  refine Classical.byContradiction fun hn => ?_
  have := b (by omega)
  rw [h1 _ (by omega)] at this; cases this
/-- First -/
theorem firstR6_any {h : Mem} {v av : Value} {r : House} (hv : IsHouse h v r) (hV : ValidH r) (ha : IsInts h av ((rights6 r).map Int.ofNat)) : FnV Tryz.prog 40 #[v, av] h (vi (if first6N r < r.signs.length then (first6N r : Int) else -1)) := by
  obtain ⟨wv, pv, kv, tv, bv, sv, f, rfl, hA⟩ := hv
  have hS := hA.S
  have h5 := hV.signN
  have hrl := rights_lt hV
  rw [first6_ref hV]
  refine FnR.val ?_
  refine FnR.of_W (n := 21) Tryz.func40 rfl rfl (Nat.le_of_ble_eq_true rfl) fun c hr hD hF => ?_
  refine W.seq ?_; refine W.region ?_
  refine WL.box rfl rfl rfl rfl (fun b2 => ?_)
  refine .o rfl rfl rfl rfl ?_; refine WL.nil ?_
  refine Kseq.go (W.seq (W.seq ?_))
  refine W.freezeBox (.head _) (fun b hb => (hF b hb).elim) fun m2 h2 => ?_
  refine W.region ?_; refine .o rfl rfl rfl rfl ?_; refine WL.nil ?_
  refine Kseq.go (W.block ?_)
  refine W.loop (σ := Nat) (fun k => [(1, av), (2, .pointer (some ⟨b2, 0, none⟩)), (5, vi (k : Int))]) (fun _ => [m2, h]) (fun _ => []) (fun k => k ≤ r.signs.length ∧ ∀ i, i < k → canF r i = true) (fun k => r.signs.length - k) 0 ⟨rfl, rfl, rfl, trivial⟩ (by simp) (List.nil_sublist _) ⟨Nat.zero_le _, fun i hi => absurd hi (Nat.not_lt_zero _)⟩ ?_
  rintro k ⟨hk, hall⟩
  refine W.seq (W.seq ?_)
  refine W.region ?_; refine .o rfl rfl rfl rfl ?_; refine .val (.fieldAddrB rfl) rfl rfl rfl ?_; refine .val (.loadP rfl h2 (by repeat constructor) rfl) rfl rfl rfl ?_; refine .val (.len rfl hS) rfl rfl rfl ?_; refine .o rfl rfl rfl rfl ?_; refine WL.nil ?_; refine Kseq.go ?_
  refine W.condD rfl rfl (fun hlt => ?_) (fun hge => ?_)
  · have hkl : k < r.signs.length := by omega
    have hpp : 2 ^ (k + 1) ≤ 2 ^ 6 := Nat.pow_le_pow_right (by omega) (by omega)
    have hpos : 0 < 2 ^ (k + 1) := Nat.pow_pos (by omega)
    have e2 : (2 : Int) * 2 ^ k = ((2 ^ (k + 1) : Nat) : Int) := by rw [Nat.pow_succ, Nat.mul_comm, Int.natCast_mul, Int.natCast_pow]; rfl
    refine W.skip (Kseq.go (W.seq (W.block (W.seq ?_))))
    refine W.region ?_
    iterate 2 refine .o rfl rfl rfl rfl ?_
    refine .val (.conv rfl (wrap_u64 (by omega) (by omega))) rfl rfl rfl ?_
    refine .val ((OpVal.shl rfl rfl (by omega) (by rw [e2]; omega) (by rw [e2]; omega)).cast (congrArg (Value.int .i64) e2)) rfl rfl rfl ?_
    refine .val (.cast (.sub rfl rfl (by omega) (by omega)) (congrArg (Value.int .i64) (show ((2 ^ (k + 1) : Nat) : Int) - 1 = ((2 ^ (k + 1) - 1 : Nat) : Int) by omega))) rfl rfl rfl ?_; refine .val (.cast (.call rfl (fun m hm => can_any (ha.le (by repeat (first | exact hm.1 | replace hm := hm.2))) hrl (by omega))) (show _ = Value.bool (canF r k) from rfl)) rfl rfl rfl ?_; refine .o rfl rfl rfl rfl ?_; refine WL.nil ?_; refine Kseq.go ?_
    refine W.cond rfl rfl (fun hb => ?_) (fun hb => ?_)
    · have hno : canF r k = false := by simpa using hb
      refine W.seq ?_; refine W.region ?_
      iterate 2 refine .o rfl rfl rfl rfl ?_
      refine WL.nil ?_; refine Kseq.go ?_
      refine W.ret ?_; refine Kblock.ret (Kseq.ret (Kloop.ret (Kblock.ret (Kseq.ret ?_)))); refine ⟨.inl rfl, [_], h, ⟨.tmp rfl, trivial⟩, (by repeat constructor), ?_⟩
      show vi _ = vi _
      congr 1
      rw [fstNo_is (p := fun k => can (rights6 r) (2 ^ (k + 1) - 1)) hall hno hkl, if_pos hkl]
    · have hyes : canF r k = true := by simpa using hb
      refine W.skip (Kblock.normal (Kseq.go ?_))
      refine W.region ?_; refine .o rfl rfl rfl rfl ?_; refine .val (.incr rfl (by omega)) rfl rfl rfl ?_; refine .o rfl rfl rfl rfl ?_; refine WL.nil ?_
      refine Kloop.next (k + 1) ⟨hkl, fun i hi => ?_⟩ (by omega) ⟨rfl, rfl, rfl, trivial⟩ (by simp) (by repeat (first | exact List.Sublist.refl _ | refine List.Sublist.cons _ ?_ | refine List.Sublist.cons_cons _ ?_))
      rcases Nat.lt_succ_iff_lt_or_eq.1 hi with h2 | rfl
      · exact hall i h2
      · exact hyes
  · have hkk : k = r.signs.length := by omega
    subst hkk
    refine W.exit (Kseq.exit (Kloop.exit (Kblock.here (Kseq.go (W.seq ?_)))))
    refine W.region ?_; refine .o rfl rfl rfl rfl ?_; refine WL.nil ?_; refine Kseq.go ?_
    refine W.ret ?_; refine ⟨.inl rfl, [_], h, ⟨.tmp rfl, trivial⟩, (by repeat constructor), ?_⟩
    show vi _ = vi _
    congr 1
    rw [fstNo_all6 (p := fun k => can (rights6 r) (2 ^ (k + 1) - 1)) hall, if_neg (by omega)]
/-- SickLeaves -/
theorem sickLeaves_any {h : Mem} {v : Value} {r : House} (hv : IsHouse h v r) : FnV Tryz.prog 5 #[v] h (.bool true) := by
  have hv' := hv
  obtain ⟨wv, pv, kv, tv, bv, sv, f, rfl, hA⟩ := hv
  refine FnR.val ?_
  refine FnR.of_W (n := 86) Tryz.func5 rfl rfl (Nat.le_of_ble_eq_true rfl) fun c hr hD hF => ?_
  refine W.seq ?_; refine W.region ?_
  refine WL.box rfl rfl rfl rfl (fun b1 => ?_)
  refine .o rfl rfl rfl rfl ?_; refine WL.nil ?_
  refine Kseq.go (W.seq (W.seq ?_))
  refine W.freezeBox (.head _) (fun b hb => (hF b hb).elim) fun m1 h1 => ?_
  cases hth : thin6 r with
  | false =>
    refine W.region ?_; refine .val (.loadPW rfl h1 (by repeat constructor) rfl) rfl rfl rfl ?_; refine .val (.cast (.call rfl (fun m hm => thin6_any (hv'.le (by repeat (first | exact hm.1 | replace hm := hm.2))))) (congrArg Value.bool hth)) rfl rfl rfl ?_; refine .o rfl rfl rfl rfl ?_; refine WL.nil ?_; refine Kseq.go ?_; refine W.condT rfl rfl ?_; refine W.seq ?_; refine W.region ?_; refine .val (.call rfl (fun m hm => awake6_any)) rfl rfl rfl ?_; refine .o rfl rfl rfl rfl ?_; refine WL.nil ?_; refine Kseq.go ?_
    refine W.ret ?_; refine Kseq.ret ?_; refine ⟨.inl rfl, [_], h, ⟨.tmp rfl, trivial⟩, (by repeat constructor), ?_⟩
    rfl
  | true =>
  have hs := thin6_sm hth
  refine W.region ?_; refine .val (.loadPW rfl h1 (by repeat constructor) rfl) rfl rfl rfl ?_; refine .val (.cast (.call rfl (fun m hm => thin6_any (hv'.le (by repeat (first | exact hm.1 | replace hm := hm.2))))) (congrArg Value.bool hth)) rfl rfl rfl ?_; refine .o rfl rfl rfl rfl ?_; refine WL.nil ?_; refine Kseq.go ?_; refine W.condF rfl rfl ?_
  refine W.skip (Kseq.go (W.seq ?_))
  refine W.region ?_; refine .val (.loadPW rfl h1 (by repeat constructor) rfl) rfl rfl rfl ?_; refine WL.abs (OpAbs.call rfl (fun m hm => houseL_any (hv'.le (by repeat (first | exact hm.1 | replace hm := hm.2))) hs)) rfl rfl rfl ?_
  rintro m16 v16 h16
  refine .val (.call rfl (fun m hm => first6_any (h16.le (by repeat (first | exact hm.1 | replace hm := hm.2))) hs)) rfl rfl rfl ?_
  iterate 5 refine .o rfl rfl rfl rfl ?_
  refine WL.nil ?_
  refine Kseq.go (W.seq ?_)
  refine W.region ?_; refine .val (.loadPW rfl h1 (by repeat constructor) rfl) rfl rfl rfl ?_; refine WL.abs (OpAbs.call rfl (fun m hm => houseL_any (hv'.le (by repeat (first | exact hm.1 | replace hm := hm.2))) hs)) rfl rfl rfl ?_
  rintro m22 v22 h22
  refine WL.abs (OpAbs.call rfl (fun m hm => leave6_any (h22.le (by repeat (first | exact hm.1 | replace hm := hm.2))) hs)) rfl rfl rfl ?_
  rintro m23 _ ⟨lv, rfl, hl0, hl1⟩
  iterate 5 refine .o rfl rfl rfl rfl ?_
  refine WL.nil ?_
  refine Kseq.go (W.seq (W.seq ?_))
  refine W.region ?_; refine .val (.loadPW rfl h1 (by repeat constructor) rfl) rfl rfl rfl ?_; refine .val (.call rfl (fun m hm => fault6L_any (hv'.le (by repeat (first | exact hm.1 | replace hm := hm.2))) hs)) rfl rfl rfl ?_; refine .o rfl rfl rfl rfl ?_; refine WL.nil ?_
  refine Kseq.go (W.seq ?_)
  by_cases hf : fault6 r = 0
  · have hV := fault6_zero.1 hf
    have hlr := leave6_ref hV
    have hI := hl1 hf _ hlr
    have hfl := full6_lt hV
    rw [hf]
    refine W.region ?_; refine .o rfl rfl rfl rfl ?_; refine .val (OpVal.neqF6 rfl rfl) rfl rfl rfl ?_; refine WL.nil ?_; refine Kseq.go ?_; refine W.condF rfl rfl ?_
    refine W.skip (Kseq.go (W.seq ?_))
    refine W.region ?_; refine .val (.loadPW rfl h1 (by repeat constructor) rfl) rfl rfl rfl ?_; refine WL.abs (OpAbs.call rfl (fun m hm => all6_any (hv'.le (by repeat (first | exact hm.1 | replace hm := hm.2))) hV hs)) rfl rfl rfl ?_
    rintro m51 v51 h51
    refine .o rfl rfl rfl rfl ?_; refine WL.nil ?_
    refine Kseq.go (W.seq (W.seq ?_))
    refine W.region ?_; refine .o rfl rfl rfl rfl ?_; refine .val (OpVal.neqF6 rfl rfl) rfl rfl rfl ?_
    iterate 2 refine .o rfl rfl rfl rfl ?_
    refine .val (.loadPW rfl h1 (by repeat constructor) rfl) rfl rfl rfl ?_; refine .o rfl rfl rfl rfl ?_; refine WL.abs (OpAbs.call rfl (fun m hm => leaveR6_any (hv'.le (by repeat (first | exact hm.1 | replace hm := hm.2))) hV (h51.le (by repeat (first | exact hm.1 | replace hm := hm.2))))) rfl rfl rfl ?_
    rintro m58 v58 h58
    refine .val (.call rfl (fun m hm => same6_eq (hI.le (by repeat (first | exact hm.1 | replace hm := hm.2))) (h58.le (by repeat (first | exact hm.1 | replace hm := hm.2))))) rfl rfl rfl ?_
    iterate 2 refine .o rfl rfl rfl rfl ?_
    refine WL.nil ?_; refine Kseq.go ?_; refine W.condF rfl rfl ?_
    refine W.skip (Kseq.go (W.seq ?_))
    refine W.region ?_; refine .val (.loadPW rfl h1 (by repeat constructor) rfl) rfl rfl rfl ?_; refine .o rfl rfl rfl rfl ?_; refine .val (.call rfl (fun m hm => firstR6_any (hv'.le (by repeat (first | exact hm.1 | replace hm := hm.2))) hV (h51.le (by repeat (first | exact hm.1 | replace hm := hm.2))))) rfl rfl rfl ?_; refine .o rfl rfl rfl rfl ?_; refine WL.nil ?_
    refine Kseq.go (W.seq (W.seq ?_))
    by_cases hlt : first6N r < r.signs.length
    · have hfv : first6V r = ((first6N r : Int), 0) := by unfold first6V; rw [if_neg (by simpa using hf), if_pos hlt]
      rw [if_pos hlt, hfv]
      refine W.region ?_; refine .o rfl rfl rfl rfl ?_; refine .val (.cast (.opv rfl) (congrArg Value.bool (decide_eq_false (by omega)))) rfl rfl rfl ?_; refine WL.nil ?_; refine Kseq.go ?_; refine W.condF rfl rfl ?_
      refine W.skip (Kseq.go (W.seq ?_))
      refine W.region ?_; refine .o rfl rfl rfl rfl ?_; refine .val (OpVal.eqT6 rfl rfl) rfl rfl rfl ?_
      iterate 3 refine .o rfl rfl rfl rfl ?_
      refine .val (OpVal.eqT6 rfl rfl) rfl rfl rfl ?_
      iterate 2 refine .o rfl rfl rfl rfl ?_
      refine .val (.call rfl (fun m hm => awake6_any)) rfl rfl rfl ?_
      iterate 2 refine .o rfl rfl rfl rfl ?_
      refine WL.nil ?_; refine Kseq.go ?_
      refine W.ret ?_; refine ⟨.inl rfl, [_], h, ⟨.tmp rfl, trivial⟩, (by repeat constructor), ?_⟩
      rfl
    · have hfv : first6V r = (0, 7) := by unfold first6V; rw [if_neg (by simpa using hf), if_neg hlt]
      rw [if_neg hlt, hfv]
      refine W.region ?_; refine .o rfl rfl rfl rfl ?_; refine .val (.cast (.opv rfl) (show _ = Value.bool true from rfl)) rfl rfl rfl ?_; refine WL.nil ?_; refine Kseq.go ?_; refine W.condT rfl rfl ?_; refine W.seq ?_; refine W.region ?_; refine .o rfl rfl rfl rfl ?_; refine .val (OpVal.eqT6 rfl rfl) rfl rfl rfl ?_
      iterate 2 refine .o rfl rfl rfl rfl ?_
      refine .val (OpVal.eqT6 rfl rfl) rfl rfl rfl ?_
      iterate 2 refine .o rfl rfl rfl rfl ?_
      refine .val (.call rfl (fun m hm => awake6_any)) rfl rfl rfl ?_
      iterate 2 refine .o rfl rfl rfl rfl ?_
      refine WL.nil ?_; refine Kseq.go ?_
      refine W.ret ?_; refine Kseq.ret ?_; refine ⟨.inl rfl, [_], h, ⟨.tmp rfl, trivial⟩, (by repeat constructor), ?_⟩
      rfl
  · have hlv := hl0 hf
    subst hlv
    have hfv : first6V r = (0, fault6 r) := by unfold first6V; rw [if_pos hf]
    rw [hfv]
    refine W.region ?_; refine .o rfl rfl rfl rfl ?_; refine .val (.cast (.opv rfl) (show _ = Value.bool true from congrArg (fun b => Value.bool (!b)) (decide_eq_false hf))) rfl rfl rfl ?_; refine WL.nil ?_; refine Kseq.go ?_; refine W.condT rfl rfl ?_; refine W.seq ?_; refine W.region ?_
    iterate 2 refine .o rfl rfl rfl rfl ?_
    refine .val (OpVal.eqT6 rfl rfl) rfl rfl rfl ?_
    iterate 2 refine .o rfl rfl rfl rfl ?_
    refine .val (OpVal.eqT6 rfl rfl) rfl rfl rfl ?_
    iterate 4 refine .o rfl rfl rfl rfl ?_
    refine .val (OpVal.eqT6 rfl rfl) rfl rfl rfl ?_
    iterate 3 refine .o rfl rfl rfl rfl ?_
    refine .val (.lenNil rfl) rfl rfl rfl ?_; refine .val (OpVal.eqT6 rfl rfl) rfl rfl rfl ?_
    iterate 2 refine .o rfl rfl rfl rfl ?_
    refine .val (.call rfl (fun m hm => awake6_any)) rfl rfl rfl ?_
    iterate 2 refine .o rfl rfl rfl rfl ?_
    refine WL.nil ?_; refine Kseq.go ?_
    refine W.ret ?_; refine Kseq.ret ?_; refine ⟨.inl rfl, [_], h, ⟨.tmp rfl, trivial⟩, (by repeat constructor), ?_⟩
    rfl
end Go.Proofs.YtdnbkjgbehakpaaGreat
