/- The program's functions First, Leave: their contracts. -/
import Derived.Test.YtgolpbkapphciaaT26
namespace Go.Proofs.Ytgolpbkapphciaa
open Go Go.Eng Go.RowKit

/-- slices.Clone, its result a row of one's own -/
theorem cloneM_any {h : Mem} {v : Value} {xs : List Int} (hv : IsInts h v xs) (hb : xs.length < 1000000000000) : FnM Try.prog 77 #[v] [h] [] (fun r Ms' μ' => Ms' = [] ∧ μ' = [ir 3 r xs] ∧ r.cells = #[r]) := by
  obtain ⟨a, cp, rfl⟩ := IsArr.form hv
  refine FnM.of_W (n := 8) Try.func77 rfl rfl (Nat.le_of_ble_eq_true rfl) rfl fun c hr hD hF => ?_
  skip
  refine W.seq ?_
  refine W.region ?_
  refine WL.val (OpVal.opv rfl) rfl rfl rfl ?_
  refine WL.nil ?_
  refine Kseq.go (W.seq (W.seq ?_))
  skip
  refine W.region ?_
  refine WL.val (OpVal.opv rfl) rfl rfl rfl ?_
  refine WL.val (OpVal.eqNil rfl rfl) rfl rfl rfl ?_
  refine WL.nil ?_
  refine Kseq.go ?_
  refine W.cond rfl rfl (fun he => ?_) (fun hne => ?_)
  · refine W.seq ?_
    refine W.region ?_
    refine WL.val (OpVal.opv rfl) rfl rfl rfl ?_
    refine WL.nil ?_
    refine Kseq.go ?_
    have h0 : xs = [] := by
      obtain ⟨a', c', e, _, _, _, h4⟩ := hv
      cases e
      rcases Nat.eq_zero_or_pos xs.length with h5 | h5
      · exact List.length_eq_zero_iff.1 h5
      · obtain ⟨b, o, rfl, _⟩ := h4 h5
        cases he
    subst h0
    refine W.nilRow 3 1 ?_
    refine W.ret ?_; refine Kseq.ret ?_
    exact ⟨.inl rfl, [_], [], _, ⟨.tmp rfl, trivial⟩, ⟨rfl, rfl, rfl⟩, by simp, .refl _, by simp [markOf]⟩
  · refine W.skip (Kseq.go (W.seq ?_))
    refine W.region ?_
    (refine WL.lit (vs := []) [] rfl (Nat.le_of_ble_eq_true rfl) rfl rfl (by simp) (Nat.le_of_ble_eq_true rfl) rfl rfl rfl rfl (fun b5 => ?_))
    refine WL.val (OpVal.opv rfl) rfl rfl rfl ?_
    (refine WL.appInts (xs := []) rfl (fun _ => .head _) rfl hv (by repeat (first | exact .head _ | refine .tail _ ?_)) (by simp; omega) rfl rfl rfl ?_; intro a7 c7)
    refine WL.val (OpVal.opv rfl) rfl rfl rfl ?_
    refine WL.nil ?_
    refine Kseq.go ?_
    refine W.ret ?_; skip
    exact ⟨.inl rfl, [_], [], _, ⟨.tmp rfl, trivial⟩, ⟨rfl, rfl, rfl⟩, by simp, .refl _, by simp [markOf]⟩

/-- All numbers below n. -/
def upto (n : Nat) : List Int := sel n (fun _ => true)
theorem upto_len (n : Nat) : (upto n).length = n := by unfold upto; rw [sel_length]; simp [cnt]
/-- Can all women but those behind one have counted right? -/
def firstQ (t : Table) (k : Nat) : Bool := possibleB t ((upto t.women.length).drop (k + 1))
def firstV (t : Table) : Int × Int := if fault t = 0 then (if fstNo (firstQ t) t.women.length < t.women.length then ((fstNo (firstQ t) t.women.length : Int), 0) else (0, 7)) else (0, fault t)
/-- First -/
theorem firstT_any {h : Mem} {v : Value} {t : Table} (hv : IsTable h v t) (hs : Sm t) : FnV Try.prog 32 #[v] h (.tuple #[vi (firstV t).1, vi (firstV t).2]) := by
  have hv' := hv
  obtain ⟨wv, pv, f, rfl, hW, hP, hM⟩ := hv
  refine FnR.val ?_
  refine FnR.of_W (n := 39) Try.func32 rfl rfl (Nat.le_of_ble_eq_true rfl) fun c hr hD hF => ?_
  refine W.seq ?_
  refine W.region ?_
  refine WL.box rfl rfl rfl rfl (fun b1 => ?_)
  refine WL.val (OpVal.opv rfl) rfl rfl rfl ?_
  refine WL.val (OpVal.opv rfl) rfl rfl rfl ?_
  refine WL.nil ?_
  refine Kseq.go (W.seq (W.seq ?_))
  refine W.freezeBox (.head _) (fun b hb => (hF b hb).elim) fun m1 h1 => ?_
  skip
  refine W.region ?_
  refine WL.val (OpVal.loadPW rfl (by assumption) (by repeat (first | exact .head _ | refine .tail _ ?_)) (by rfl)) rfl rfl rfl ?_
  refine WL.val (OpVal.call rfl (fun m hm => check_any (hv'.le (by repeat (first | exact hm.1 | replace hm := hm.2))) hs)) rfl rfl rfl ?_
  refine WL.val (OpVal.opv rfl) rfl rfl rfl ?_
  refine WL.nil ?_
  refine Kseq.go (W.seq ?_)
  skip
  refine W.region ?_
  refine WL.val (OpVal.opv rfl) rfl rfl rfl ?_
  refine WL.val (OpVal.opv rfl) rfl rfl rfl ?_
  refine WL.nil ?_
  refine Kseq.go ?_
  refine W.cond rfl rfl (fun he => ?_) (fun hne => ?_)
  · refine W.seq ?_
    refine W.region ?_
    refine WL.val (OpVal.opv rfl) rfl rfl rfl ?_
    refine WL.val (OpVal.opv rfl) rfl rfl rfl ?_
    refine WL.val (OpVal.opv rfl) rfl rfl rfl ?_
    refine WL.nil ?_
    refine Kseq.go ?_
    refine W.ret ?_; refine Kseq.ret ?_; refine ⟨.inl rfl, [_, _], h, ⟨.tmp rfl, .tmp rfl, trivial⟩, (by repeat (first | exact .head _ | refine .tail _ ?_)), ?_⟩
    have he' : fault t ≠ 0 := by simpa using he
    unfold firstV
    rw [if_neg he']; rfl
  have hf0 : fault t = 0 := by simpa using hne
  have hVa := fault_zero.1 hf0
  have hs1 := hs.1
  refine W.skip (Kseq.go (W.seq ?_))
  skip
  refine W.region ?_
  refine WL.val (OpVal.opv rfl) rfl rfl rfl ?_
  refine WL.nil ?_
  refine Kseq.go (W.seq (W.seq ?_))
  skip
  refine W.region ?_
  refine WL.val (OpVal.fieldAddrB rfl) rfl rfl rfl ?_
  refine WL.val (OpVal.loadP rfl (by assumption) (by repeat (first | exact .head _ | refine .tail _ ?_)) rfl) rfl rfl rfl ?_
  refine WL.val (OpVal.len rfl (by assumption)) rfl rfl rfl ?_
  refine WL.val (OpVal.opv rfl) rfl rfl rfl ?_
  refine WL.nil ?_
  refine Kseq.go (W.block ?_)
  refine W.nilRow 3 1 ?_
  refine W.loopA (σ := Nat × Value) (fun s => [(1, .pointer (some ⟨b1, 0, none⟩)), (5, s.2), (15, .int .i64 (t.women.length : Int)), (16, .int .i64 (s.1 : Int))]) (fun s => ir 3 s.2 (upto s.1)) (fun s => s.1 ≤ t.women.length) (fun s => t.women.length - s.1) (0, .slice none 0 0) ⟨rfl, rfl, rfl, rfl, trivial⟩ rfl (Nat.zero_le _) ?_
  rintro ⟨k, a⟩ hk
  dsimp only at hk ⊢
  have hlen := upto_len k
  refine W.seq ?_
  refine W.region ?_
  refine WL.val (OpVal.opv rfl) rfl rfl rfl ?_
  refine WL.nil ?_
  refine Kseq.go (W.seq ?_)
  refine W.condD rfl rfl (fun hlt => ?_) (fun hge => ?_)
  · refine W.skip (Kseq.go (W.seq (W.block (W.seq ?_))))
    refine W.region ?_
    refine WL.val (OpVal.opv rfl) rfl rfl rfl ?_
    refine WL.val (OpVal.opv rfl) rfl rfl rfl ?_
    refine WL.nil ?_
    refine Kseq.go ?_
    skip
    refine W.region ?_
    refine WL.val (OpVal.opv rfl) rfl rfl rfl ?_
    refine WL.val (OpVal.opv rfl) rfl rfl rfl ?_
    refine WL.abs (OpAbs.lit [_] rfl (Nat.le_of_ble_eq_true rfl) rfl rfl (by simp [Value.cells]) (Nat.le_of_ble_eq_true rfl) rfl (by first | (simp [Value.oneCell']; done) | exact List.all_eq_true.1 rfl)) rfl rfl rfl ?_
    rintro m21 _ ⟨hc21, a21, rfl⟩
    refine WL.appInt rfl (fun _ => (.head _)) rfl (by assumption) (by repeat (first | exact .head _ | refine .tail _ ?_)) (by omega) rfl rfl rfl ?_
    intro a22 cp22
    refine WL.val (OpVal.opv rfl) rfl rfl rfl ?_
    refine WL.nil ?_
    refine Kblock.normal (Kseq.go ?_)
    skip
    refine W.region ?_
    refine WL.val (OpVal.incr rfl (by omega)) rfl rfl rfl ?_
    refine WL.val (OpVal.opv rfl) rfl rfl rfl ?_
    refine WL.nil ?_
    skip
    exact Kloop.next (k + 1, _) (by omega) (by omega) ⟨rfl, rfl, rfl, rfl, trivial⟩ (by simp) (sub_yes (q := fun _ => true) rfl)
  · have : k = t.women.length := by omega
    subst this
    refine W.exit (Kseq.exit (Kloop.exit (Kblock.here (Kseq.go (W.seq (W.seq ?_))))))
    refine W.freezeInts (.head _) (fun b hb => (hF b hb).elim) fun m5 h5 => ?_
    have hub := upto_len t.women.length
    skip
    refine W.region ?_
    refine WL.val (OpVal.fieldAddrB rfl) rfl rfl rfl ?_
    refine WL.val (OpVal.loadP rfl (by assumption) (by repeat (first | exact .head _ | refine .tail _ ?_)) rfl) rfl rfl rfl ?_
    refine WL.val (OpVal.len rfl (by assumption)) rfl rfl rfl ?_
    refine WL.val (OpVal.opv rfl) rfl rfl rfl ?_
    refine WL.nil ?_
    refine Kseq.go (W.block ?_)
    refine W.loopC (σ := Nat) (fun k => [(1, .pointer (some ⟨b1, 0, none⟩)), (5, a), (26, .int .i64 (t.women.length : Int)), (27, .int .i64 (k : Int))]) (fun k => k ≤ t.women.length ∧ ∀ i, i < k → firstQ t i = true) (fun k => t.women.length - k) 0 ⟨rfl, rfl, rfl, rfl, trivial⟩ ⟨Nat.zero_le _, fun i hi => absurd hi (Nat.not_lt_zero _)⟩ ?_
    rintro k ⟨hk, hall⟩
    refine W.seq ?_
    refine W.region ?_
    refine WL.val (OpVal.opv rfl) rfl rfl rfl ?_
    refine WL.nil ?_
    refine Kseq.go (W.seq ?_)
    refine W.condD rfl rfl (fun hlt => ?_) (fun hge => ?_)
    · have hsub := IsInts.sub h5 (lo := k + 1) (hi := (upto t.women.length).length) (by omega) (Nat.le_refl _)
      rw [show ((upto t.women.length).drop (k + 1)).take ((upto t.women.length).length - (k + 1)) = (upto t.women.length).drop (k + 1) from List.take_of_length_le (by simp)] at hsub
      refine W.skip (Kseq.go (W.seq (W.block (W.seq ?_))))
      refine W.region ?_
      refine WL.val (OpVal.opv rfl) rfl rfl rfl ?_
      refine WL.val (OpVal.opv rfl) rfl rfl rfl ?_
      refine WL.nil ?_
      refine Kseq.go (W.seq ?_)
      skip
      refine W.draw 5 (by kernel_rfl) (by kernel_rfl) (by kernel_rfl) rfl ?_
      refine DJ.val [] (OpVal.loadPW rfl (by assumption) (by repeat (first | exact .head _ | refine .tail _ ?_)) (by rfl)) rfl rfl rfl rfl ?_
      refine DJ.val [] (OpVal.opv rfl) rfl rfl rfl rfl ?_
      refine DJ.val [] (OpVal.opv rfl) rfl rfl rfl rfl ?_
      refine DJ.val [] (OpVal.incr rfl (by omega)) rfl rfl rfl rfl ?_
      refine DJ.val [] (OpVal.sliceL rfl rfl h5 (by omega)) rfl rfl rfl rfl ?_
      refine DJ.nil ?_
      refine WL.val (OpVal.call rfl (fun m hm => possible_any (hv'.le (by repeat (first | exact hm.1 | replace hm := hm.2))) hs hVa.pieces (hsub.le (by repeat (first | exact hm.1 | replace hm := hm.2))))) rfl rfl rfl ?_
      refine WL.val (OpVal.opv rfl) rfl rfl rfl ?_
      refine WL.nil ?_
      refine Kseq.go ?_
      refine W.cond rfl rfl (fun he => ?_) (fun hne => ?_)
      · refine W.seq ?_
        refine W.region ?_
        refine WL.val (OpVal.opv rfl) rfl rfl rfl ?_
        refine WL.val (OpVal.opv rfl) rfl rfl rfl ?_
        refine WL.val (OpVal.opv rfl) rfl rfl rfl ?_
        refine WL.nil ?_
        refine Kseq.go ?_
        refine W.ret ?_; refine Kblock.ret (Kseq.ret (Kloop.ret (Kblock.ret (Kseq.ret ?_)))); refine ⟨.inl rfl, [_, _], h, ⟨.tmp rfl, .tmp rfl, trivial⟩, (by repeat (first | exact .head _ | refine .tail _ ?_)), ?_⟩
        have hq : firstQ t k = false := by unfold firstQ; simpa using he
        have hfk := fstNo_at (by omega : k < t.women.length) hall hq
        unfold firstV
        rw [if_pos hf0, hfk, if_pos (by omega)]; rfl
      · have hq : firstQ t k = true := by unfold firstQ; simpa using hne
        refine W.skip (Kblock.normal (Kseq.go ?_))
        refine W.region ?_
        refine WL.val (OpVal.incr rfl (by omega)) rfl rfl rfl ?_
        refine WL.val (OpVal.opv rfl) rfl rfl rfl ?_
        refine WL.nil ?_
        skip
        refine Kloop.nextC (k + 1) ⟨by omega, fun i hi => ?_⟩ (by omega) ⟨rfl, rfl, rfl, rfl, trivial⟩ (by simp) (.refl _)
        rcases Nat.lt_succ_iff_lt_or_eq.1 hi with h2 | rfl
        · exact hall i h2
        · exact hq
    · have : k = t.women.length := by omega
      subst this
      refine W.exit (Kseq.exit (Kloop.exit (Kblock.here (Kseq.go (W.seq ?_)))))
      skip
      refine W.region ?_
      refine WL.val (OpVal.opv rfl) rfl rfl rfl ?_
      refine WL.val (OpVal.opv rfl) rfl rfl rfl ?_
      refine WL.nil ?_
      refine Kseq.go ?_
      refine W.ret ?_; skip; refine ⟨.inl rfl, [_, _], h, ⟨.tmp rfl, .tmp rfl, trivial⟩, (by repeat (first | exact .head _ | refine .tail _ ?_)), ?_⟩
      unfold firstV
      rw [if_pos hf0, fstNo_all hall, if_neg (Nat.lt_irrefl _)]; rfl
end Go.Proofs.Ytgolpbkapphciaa
