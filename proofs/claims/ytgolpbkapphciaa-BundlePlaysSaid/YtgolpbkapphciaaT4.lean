/- The reference's functions of chapter 3, on: their contracts. -/
import Derived.Test.YtgolpbkapphciaaT3
namespace Go.Proofs.Ytgolpbkapphciaa
open Go Go.Eng Go.RowKit

/-- Each piece has a woman. -/
def Owned (t : Table) : Prop := ∀ i, i < t.pieces.length → 0 < (womenOf t i).length
theorem nthTo_one (t : Table) (k n : Nat) (suf : List Int) : nthTo t (k + 1) n ++ suf = nthTo t k (n / (womenOf t k).length) ++ ((womenOf t k).getD (n % (womenOf t k).length) 0 :: suf) := by simp [nthTo]

theorem nth_store (k : Nat) (u : Int) (suf : List Int) : ((List.replicate (k + 1) 0 ++ suf).map vi).take (k * 1 + 0) ++ ((vi u).cells.toList ++ ((List.replicate (k + 1) 0 ++ suf).map vi).drop (k * 1 + 0 + 1)) = (List.replicate k 0 ++ u :: suf).map vi := by
  have e : List.replicate (k + 1) (0 : Int) ++ suf = List.replicate k 0 ++ 0 :: suf := by rw [List.replicate_succ']; simp
  rw [e, List.map_append, List.map_append, List.map_cons, List.map_cons]
  have h1 : (List.map vi (List.replicate k 0)).length = k := by simp
  rw [Nat.mul_one, Nat.add_zero, List.take_append_of_le_length (by rw [h1]; exact Nat.le_refl _), List.take_of_length_le (by rw [h1]; exact Nat.le_refl _), List.drop_append, h1, List.drop_of_length_le (by rw [h1]; omega), Nat.add_sub_cancel_left]
  simp [Value.cells]

/-- ref.Nth -/
theorem nth_any {h : Mem} {v : Value} {t : Table} {n : Nat} (hv : IsTable h v t) (hs : Sm t) (ho : Owned t) (hn : n < 1000000) : FnR Try.prog 79 #[v, .int .i64 n] h (fun m r => IsInts m r (nth t n)) := by
  have hv' := hv
  obtain ⟨wv, pv, f, rfl, hW, hP, hM⟩ := hv
  have hs' := hs
  obtain ⟨hs1, hs2, hs3⟩ := hs
  refine FnR.of_W (n := 38) Try.func79 rfl rfl (Nat.le_of_ble_eq_true rfl) fun c hr hD hF => ?_
  refine W.seq ?_
  refine W.region ?_
  refine WL.box rfl rfl rfl rfl (fun b2 => ?_)
  refine WL.val (OpVal.opv rfl) rfl rfl rfl ?_
  refine WL.nil ?_
  refine Kseq.go (W.seq ?_)
  skip
  refine W.region ?_
  refine WL.val (OpVal.fieldAddrB rfl) rfl rfl rfl ?_
  refine WL.val (OpVal.loadB rfl (.head _) rfl) rfl rfl rfl ?_
  refine WL.val (OpVal.len rfl (by assumption)) rfl rfl rfl ?_
  refine WL.make rfl rfl (by omega) (by unfold maxLen; omega) rfl rfl rfl (fun b11 => ?_)
  refine WL.val (OpVal.opv rfl) rfl rfl rfl ?_
  refine WL.nil ?_
  refine Kseq.go (W.seq (W.seq ?_))
  skip
  refine W.region ?_
  refine WL.val (OpVal.fieldAddrB rfl) rfl rfl rfl ?_
  refine WL.val (OpVal.loadB rfl (.tail _ (.head _)) rfl) rfl rfl rfl ?_
  refine WL.val (OpVal.len rfl (by assumption)) rfl rfl rfl ?_
  refine WL.val (OpVal.sub rfl rfl (by omega) (by omega)) rfl rfl rfl ?_
  refine WL.val (OpVal.opv rfl) rfl rfl rfl ?_
  refine WL.nil ?_
  refine Kseq.go (W.block ?_)
  generalize hov : Value.slice (some ⟨b11, 0, none⟩) t.pieces.length t.pieces.length = ov
  refine W.loopA (σ := Int × Nat × List Int) (fun s => [(1, .int .i64 s.2.1), (2, .pointer (some ⟨b2, 0, none⟩)), (5, ov), (6, .int .i64 s.1)]) (fun s => .row 3 1 ov t.pieces.length ((List.replicate (s.1 + 1).toNat 0 ++ s.2.2).map vi))
    (fun s => -1 ≤ s.1 ∧ s.1 + 1 ≤ t.pieces.length ∧ s.2.1 < 1000000 ∧ s.2.2.length + (s.1 + 1).toNat = t.pieces.length ∧ nthTo t (s.1 + 1).toNat s.2.1 ++ s.2.2 = nth t n) (fun s => (s.1 + 1).toNat) ((t.pieces.length : Int) - 1, n, []) ⟨rfl, rfl, rfl, rfl, trivial⟩ ?_ ⟨by dsimp only; omega, by dsimp only; omega, hn, by dsimp only; simp, by dsimp only; simp [nth]⟩ ?_
  · dsimp only
    rw [show ((t.pieces.length : Int) - 1 + 1).toNat = t.pieces.length by omega]
    simp [toList_madeCells_one, Value.cells]
  rintro ⟨z, n', suf⟩ ⟨hz, hz2, hn', hlen, heq⟩
  dsimp only at hz hz2 hn' hlen heq ⊢
  refine W.seq (W.seq ?_)
  refine W.region ?_
  refine WL.val (OpVal.opv rfl) rfl rfl rfl ?_
  refine WL.val (OpVal.opv rfl) rfl rfl rfl ?_
  refine WL.nil ?_
  refine Kseq.go ?_
  refine W.condD rfl rfl (fun hlt => ?_) (fun hge => ?_)
  · obtain ⟨k, rfl⟩ : ∃ k : Nat, z = k := ⟨z.toNat, by omega⟩
    rw [show ((k : Int) + 1).toNat = k + 1 by omega] at *
    have hk : k < t.pieces.length := by omega
    have hw := ho k hk
    have hwl : (womenOf t k).length ≤ t.women.length := sel_len _ _
    refine W.skip (Kseq.go (W.seq (W.block (W.seq ?_))))
    refine W.region ?_
    refine WL.val (OpVal.loadBW rfl (.tail _ (.head _)) rfl) rfl rfl rfl ?_
    refine WL.val (OpVal.opv rfl) rfl rfl rfl ?_
    refine WL.abs (OpAbs.call rfl (fun m hm => womenOf_any (hv'.le hm.1) hs' hk)) rfl rfl rfl ?_
    rintro m22 v22 h22
    refine WL.val (OpVal.opv rfl) rfl rfl rfl ?_
    refine WL.nil ?_
    refine Kseq.go ?_
    let L := (womenOf t k).length
    have hmod : n' % (womenOf t k).length < (womenOf t k).length := Nat.mod_lt _ hw
    let u := (womenOf t k).getD (n' % (womenOf t k).length) 0
    skip
    refine W.draw2s 15 14 [.row 3 1 ov t.pieces.length ((List.replicate k 0 ++ u :: suf).map vi), .blk b2 (Value.agg #[wv, pv, .int .i64 t.wrong]).cells 25] (by kernel_rfl) (by kernel_rfl) (by kernel_rfl) rfl ?_
    refine DJ2.val [] (.inr (OpVal.opv rfl)) (.inl rfl) rfl (fun _ => rfl) rfl rfl rfl (fun _ => rfl) rfl ?_
    refine DJ2.val [] (.inr (OpVal.opv rfl)) (.inl rfl) rfl (fun _ => rfl) rfl rfl rfl (fun _ => rfl) rfl ?_
    refine DJ2.val [] (.inr (OpVal.opv rfl)) (.inl rfl) rfl (fun _ => rfl) rfl rfl rfl (fun _ => rfl) rfl ?_
    refine DJ2.val [] (.inr (OpVal.opv rfl)) (.inl rfl) rfl (fun _ => rfl) rfl rfl rfl (fun _ => rfl) rfl ?_
    refine DJ2.val [] (.inr (OpVal.opv rfl)) (.inl rfl) rfl (fun _ => rfl) rfl rfl rfl (fun _ => rfl) rfl ?_
    refine DJ2.val [] (.inr (OpVal.len rfl (by assumption))) (.inl rfl) rfl (fun _ => rfl) rfl rfl rfl (fun _ => rfl) rfl ?_
    refine DJ2.val [] (.inr ((OpVal.rem rfl rfl (by omega) (by omega)))) (.inl rfl) rfl (fun _ => rfl) rfl rfl rfl (fun _ => rfl) rfl ?_
    refine DJ2.val [] (.inr (OpVal.indexAddr rfl rfl (by assumption) (by omega) (by omega))) (.inl rfl) rfl (fun _ => rfl) rfl rfl rfl (fun _ => rfl) rfl ?_
    refine DJ2.val [] (.inr (OpVal.loadE rfl (by assumption) (by repeat (first | exact .head _ | refine .tail _ ?_)) (by omega) (by omega))) (.inl rfl) rfl (fun _ => rfl) rfl rfl rfl (fun _ => rfl) rfl ?_
    refine DJ2.val [] (.inr (OpVal.opv rfl)) (.inr (fun g => OpVal.opv rfl)) rfl (fun _ => rfl) rfl rfl rfl (fun _ => rfl) rfl ?_
    refine DJ2.val [] (.inr (OpVal.opv rfl)) (.inr (fun g => OpVal.opv rfl)) rfl (fun _ => rfl) rfl rfl rfl (fun _ => rfl) rfl ?_
    refine DJ2.val [] (.inr (OpVal.len rfl (by assumption))) (.inr (fun g => OpVal.len rfl (by assumption))) rfl (fun _ => rfl) rfl rfl rfl (fun _ => rfl) rfl ?_
    refine DJ2.val [] (.inr ((OpVal.quo rfl rfl (by omega) (by omega) (by omega)))) (.inr (fun g => (OpVal.quo rfl rfl (by omega) (by omega) (by omega)))) rfl (fun _ => rfl) rfl rfl rfl (fun _ => rfl) rfl ?_
    refine DJ2.val [] (.inr (OpVal.indexAddrR rfl rfl (by repeat (first | exact .head _ | refine .tail _ ?_)) (by omega))) (.inl rfl) rfl (fun _ => rfl) rfl rfl rfl (fun _ => rfl) rfl ?_
    refine DJ2.eff [(36, _), (31, _)] ⟨rfl, rfl, trivial⟩ rfl rfl rfl (fun M2 hM2 => ?_) ?_
    · (refine WL.storeR rfl (.head _) rfl rfl rfl (by omega) (Nat.le_refl _) (by simp [Value.cells, Value.oneCell']) ?_; exact WL.nil ⟨(), Keff.intro (by repeat (first | exact trivial | refine ⟨rfl, ?_⟩)) (fun _ h => h) (sub_eq (congrArg (fun xs => [Res.row 3 1 ov t.pieces.length xs, _]) (nth_store k u suf).symm))⟩)
    refine DJ2.nil (fun g => ?_)
    refine WL.val (OpVal.opv rfl) rfl rfl rfl ?_
    refine WL.nil ?_
    refine Kblock.normal (Kseq.go ?_)
    skip
    refine W.region ?_
    refine WL.val (OpVal.opv rfl) rfl rfl rfl ?_
    refine WL.val (OpVal.sub rfl rfl (by omega) (by omega)) rfl rfl rfl ?_
    refine WL.val (OpVal.opv rfl) rfl rfl rfl ?_
    refine WL.nil ?_
    skip
    have hk1 : ((k : Int) - 1 + 1).toNat = k := by omega
    refine Kloop.next ((k : Int) - 1, n' / (womenOf t k).length, u :: suf) ⟨by dsimp only; omega, by dsimp only; omega, Nat.lt_of_le_of_lt (Nat.div_le_self _ _) hn', ?_, ?_⟩ (by dsimp only; omega) ⟨rfl, rfl, rfl, rfl, trivial⟩ (by simp) (by dsimp only; rw [hk1]; exact .refl _)
    · dsimp only
      rw [hk1, List.length_cons]; omega
    · dsimp only
      rw [hk1, ← heq, nthTo_one]
  · refine W.exit (Kseq.exit (Kloop.exit (Kblock.here (Kseq.go (W.seq ?_)))))
    have hz0 : (z + 1).toNat = 0 := by omega
    rw [hz0] at heq hlen ⊢
    have hsuf : suf = nth t n := heq
    subst hsuf
    refine W.freezeInts (xs := nth t n) (by simp only [List.replicate_zero, List.nil_append, ir]; rw [nth_length]; exact .head _) (fun b hb => (hF b hb).elim) fun mr hmr => ?_
    skip
    refine W.region ?_
    refine WL.val (OpVal.opv rfl) rfl rfl rfl ?_
    refine WL.val (OpVal.opv rfl) rfl rfl rfl ?_
    refine WL.nil ?_
    refine Kseq.go ?_
    refine W.ret ?_; skip; refine ⟨.inl rfl, [_], mr, ⟨.tmp rfl, trivial⟩, (by repeat (first | exact .head _ | refine .tail _ ?_)), ?_⟩
    exact hmr
end Go.Proofs.Ytgolpbkapphciaa
