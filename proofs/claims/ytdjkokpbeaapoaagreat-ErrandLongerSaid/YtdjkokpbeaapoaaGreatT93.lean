/- The statements' function chosen, its result a row of one's own. -/
import Derived.Test.YtdjkokpbeaapoaaGreatT83
namespace Go.Proofs.YtdjkokpbeaapoaaGreat
open Go Go.Eng Go.RowKit

/-- chosen, its result a row of one's own -/
theorem chosenM_any {h : Mem} {v : Value} {r : Errand} {x : Int} (hv : IsErrand h v r) (hV : ValidE r) (hx0 : 0 ≤ x) (hx1 : x < 1000000) : FnM Tryz.prog 12 #[v, vi x] [h] [] (fun q Ms' μ' => Ms' = [] ∧ ∃ tr, TruthE r tr ∧ μ' = [ir 3 q tr]) := by
  have hv' := hv
  obtain ⟨wov, pv, hov, sv, f, rfl, hW, hP, hM, hH, hS⟩ := hv
  have h10 : r.streets.length ≤ 10 := by rw [hV.streetsLen]; exact streets_le hV.women
  refine FnM.of_W (n := 45) Tryz.func12 rfl rfl (Nat.le_of_ble_eq_true rfl) rfl fun c hr hD hF => ?_
  skip
  refine W.seq ?_
  refine W.region ?_
  refine WL.box rfl rfl rfl rfl (fun b2 => ?_)
  refine WL.val (OpVal.opv rfl) rfl rfl rfl ?_
  refine WL.nil ?_
  refine Kseq.go (W.seq ?_)
  refine W.freezeBox (.head _) (fun b hb => hF b hb) fun m2 h2 => ?_
  skip
  refine W.region ?_
  refine WL.val (OpVal.fieldAddrB rfl) rfl rfl rfl ?_
  refine WL.val (OpVal.loadP rfl (by assumption) (by repeat (first | exact .head _ | refine .tail _ ?_)) rfl) rfl rfl rfl ?_
  refine WL.val (OpVal.len rfl hS) rfl rfl rfl ?_
  refine WL.make rfl rfl (by omega) (by unfold maxLen; omega) rfl rfl rfl (fun b12 => ?_)
  refine WL.val (OpVal.opv rfl) rfl rfl rfl ?_
  refine WL.nil ?_
  refine Kseq.go (W.seq (W.seq ?_))
  skip
  refine W.region ?_
  refine WL.val (OpVal.opv rfl) rfl rfl rfl ?_
  refine WL.nil ?_
  refine Kseq.go (W.block ?_)
  generalize hov : Value.slice (some ⟨b12, 0, none⟩) r.streets.length r.streets.length = ov
  refine W.loopA (σ := Nat × Int × List Int) (fun s => [(1, .int .i64 s.2.1), (2, .pointer (some ⟨b2, 0, none⟩)), (5, ov), (6, .int .i64 (s.1 : Int))]) (fun s => .row 3 1 ov r.streets.length ((s.2.2 ++ List.replicate (r.streets.length - s.1) 0).map vi))
    (fun s => s.1 ≤ r.streets.length ∧ 0 ≤ s.2.1 ∧ s.2.1 ≤ 1000000 + 10 * (s.1 : Int) ∧ s.2.2.length = s.1 ∧ ∀ i, i < s.1 → (r.streets.getD i default).lo ≤ s.2.2.getD i 0 ∧ s.2.2.getD i 0 ≤ (r.streets.getD i default).hi) (fun s => r.streets.length - s.1) (0, x, []) ⟨rfl, rfl, rfl, rfl, trivial⟩ ?_ ⟨Nat.zero_le _, hx0, by dsimp only; omega, rfl, fun i hi => absurd hi (Nat.not_lt_zero _)⟩ ?_
  · dsimp only
    simp [toList_madeCells_one, Value.cells]
  rintro ⟨k, z, pre⟩ ⟨hk, hz0, hz1, hpl, hall⟩
  dsimp only at hk hz0 hz1 hpl hall ⊢
  refine W.seq (W.seq ?_)
  refine W.region ?_
  refine WL.val (OpVal.opv rfl) rfl rfl rfl ?_
  refine WL.val (OpVal.opv rfl) rfl rfl rfl ?_
  refine WL.val (OpVal.lenR rfl (by repeat (first | exact .head _ | refine .tail _ ?_))) rfl rfl rfl ?_
  refine WL.val (OpVal.opv rfl) rfl rfl rfl ?_
  refine WL.nil ?_
  refine Kseq.go ?_
  refine W.condD rfl rfl (fun hlt => ?_) (fun hge => ?_)
  · have hks : k < r.streets.length := by omega
    have hin := inside_iff.1 (hV.street k hks)
    obtain ⟨m, hm⟩ : ∃ m, r.streets.length - k = m + 1 := ⟨r.streets.length - k - 1, by omega⟩
    rw [hm]
    refine W.skip (Kseq.go (W.seq (W.block (W.seq ?_))))
    refine W.region ?_
    refine WL.val (OpVal.fieldAddrB rfl) rfl rfl rfl ?_
    refine WL.val (OpVal.loadP rfl (by assumption) (by repeat (first | exact .head _ | refine .tail _ ?_)) rfl) rfl rfl rfl ?_
    refine WL.val (OpVal.opv rfl) rfl rfl rfl ?_
    refine WL.val (OpVal.indexAddrN rfl rfl hS (by omega)) rfl rfl rfl ?_
    refine WL.val (OpVal.loadEA rfl hS (by repeat (first | exact .head _ | refine .tail _ ?_)) (by omega)) rfl rfl rfl ?_
    refine WL.alloc rfl rfl rfl (fun b7 => ?_)
    refine WL.store [_, _] rfl (.head _) rfl rfl rfl (Nat.le_of_ble_eq_true rfl) (by first | (simp [Value.cells, Value.oneCell']; done) | exact IsArr.ones hW (by omega) | exact IsArr.ones hP (by omega) | exact IsArr.ones hS (by omega) | exact IsArr.ones hH (by omega) | exact IsArr.ones hL (by omega)) rfl ?_
    refine WL.nil ?_
    refine Kseq.go (W.seq ?_)
    skip
    refine W.region ?_
    refine WL.val (OpVal.fieldAddrB rfl) rfl rfl rfl ?_
    refine WL.val (OpVal.loadB rfl (.head _) rfl) rfl rfl rfl ?_
    refine WL.val (OpVal.fieldAddrB rfl) rfl rfl rfl ?_
    refine WL.val (OpVal.loadB rfl (.head _) rfl) rfl rfl rfl ?_
    refine WL.val (OpVal.sub rfl rfl (by omega) (by omega)) rfl rfl rfl ?_
    refine WL.val (OpVal.add rfl rfl (by omega) (by omega)) rfl rfl rfl ?_
    refine WL.val (OpVal.opv rfl) rfl rfl rfl ?_
    refine WL.nil ?_
    refine Kseq.go ?_
    generalize hlo : (r.streets.getD k default).lo = lo at *
    generalize hhi : (r.streets.getD k default).hi = hi at *
    have hmod := Int.emod_nonneg z (b := hi - lo + 1) (by omega)
    have hmod2 := Int.emod_lt_of_pos z (b := hi - lo + 1) (by omega)
    have hdiv := Int.ediv_nonneg (a := z) (b := hi - lo + 1) hz0 (by omega)
    have hdiv2 := Int.ediv_le_self (a := z) (hi - lo + 1) hz0
    subst hpl
    generalize hu : lo + z % (hi - lo + 1) = u
    refine W.weaken [(1, .int .i64 z), (2, .pointer (some ⟨b2, 0, none⟩)), (5, ov), (6, .int .i64 (pre.length : Int)), (7, .pointer (some ⟨b7, 0, none⟩)), (8, vi (hi - lo + 1))] [m2, h] [.blk b7 #[vi lo, vi hi] 73, .row 3 1 ov r.streets.length ((pre ++ List.replicate (m + 1) 0).map vi)] (by repeat (first | exact trivial | refine ⟨rfl, ?_⟩)) (by simp) (by repeat (first | exact List.Sublist.refl _ | refine List.Sublist.cons _ ?_ | refine List.Sublist.cons_cons _ ?_)) ?_
    skip
    refine W.draw2s 15 14 [.blk b7 #[vi lo, vi hi] 73, .row 3 1 ov r.streets.length (((pre ++ [u]) ++ List.replicate m 0).map vi)] (by kernel_rfl) (by kernel_rfl) (by kernel_rfl) rfl ?_
    refine DJ2.val [] (.inr (OpVal.opv rfl)) (.inl rfl) rfl (fun _ => rfl) rfl rfl rfl (fun _ => rfl) rfl ?_
    refine DJ2.val [] (.inr (OpVal.opv rfl)) (.inl rfl) rfl (fun _ => rfl) rfl rfl rfl (fun _ => rfl) rfl ?_
    refine DJ2.val [] (.inr (OpVal.fieldAddrB rfl)) (.inl rfl) rfl (fun _ => rfl) rfl rfl rfl (fun _ => rfl) rfl ?_
    refine DJ2.val [] (.inr (OpVal.loadB rfl (.head _) rfl)) (.inl rfl) rfl (fun _ => rfl) rfl rfl rfl (fun _ => rfl) rfl ?_
    refine DJ2.val [] (.inr (OpVal.opv rfl)) (.inl rfl) rfl (fun _ => rfl) rfl rfl rfl (fun _ => rfl) rfl ?_
    refine DJ2.val [] (.inr (OpVal.opv rfl)) (.inl rfl) rfl (fun _ => rfl) rfl rfl rfl (fun _ => rfl) rfl ?_
    refine DJ2.val [] (.inr (OpVal.rem rfl rfl (by omega) (by omega))) (.inl rfl) rfl (fun _ => rfl) rfl rfl rfl (fun _ => rfl) rfl ?_
    refine DJ2.val [] (.inr (OpVal.cast (OpVal.add rfl rfl (by omega) (by omega)) (congrArg (Value.int .i64) hu))) (.inl rfl) rfl (fun _ => rfl) rfl rfl rfl (fun _ => rfl) rfl ?_
    refine DJ2.val [] (.inr (OpVal.opv rfl)) (.inr (fun g => OpVal.opv rfl)) rfl (fun _ => rfl) rfl rfl rfl (fun _ => rfl) rfl ?_
    refine DJ2.val [] (.inr (OpVal.opv rfl)) (.inr (fun g => OpVal.opv rfl)) rfl (fun _ => rfl) rfl rfl rfl (fun _ => rfl) rfl ?_
    refine DJ2.val [] (.inr (OpVal.quo rfl rfl (by omega) (by omega) (by omega))) (.inr (fun g => OpVal.quo rfl rfl (by omega) (by omega) (by omega))) rfl (fun _ => rfl) rfl rfl rfl (fun _ => rfl) rfl ?_
    refine DJ2.val [] (.inr (OpVal.opv rfl)) (.inr (fun g => OpVal.opv rfl)) rfl (fun _ => rfl) rfl rfl rfl (fun _ => rfl) rfl ?_
    refine DJ2.val [] (.inr (OpVal.add rfl rfl (by omega) (by omega))) (.inr (fun g => OpVal.add rfl rfl (by omega) (by omega))) rfl (fun _ => rfl) rfl rfl rfl (fun _ => rfl) rfl ?_
    refine DJ2.val [] (.inr (OpVal.indexAddrR rfl rfl (by repeat (first | exact .head _ | refine .tail _ ?_)) (by omega))) (.inl rfl) rfl (fun _ => rfl) rfl rfl rfl (fun _ => rfl) rfl ?_
    refine DJ2.eff [(43, _), (37, _)] ⟨rfl, rfl, trivial⟩ rfl rfl rfl (fun M2 hM2 => ?_) ?_
    · (refine WL.storeR rfl (.tail _ (.head _)) rfl rfl rfl (by omega) (Nat.le_refl _) (by simp [Value.cells, Value.oneCell']) ?_; exact WL.nil ⟨(), Keff.intro (by repeat (first | exact trivial | refine ⟨rfl, ?_⟩)) (fun _ h => h) (sub_eq (congrArg (fun xs => [_, Res.row 3 1 ov r.streets.length xs]) (chosen_store pre m u).symm))⟩)
    refine DJ2.nil (fun g => ?_)
    refine WL.val (OpVal.opv rfl) rfl rfl rfl ?_
    refine WL.nil ?_
    refine Kblock.normal (Kseq.go ?_)
    skip
    refine W.region ?_
    refine WL.val (OpVal.opv rfl) rfl rfl rfl ?_
    refine WL.val (OpVal.incr rfl (by omega)) rfl rfl rfl ?_
    refine WL.val (OpVal.opv rfl) rfl rfl rfl ?_
    refine WL.nil ?_
    skip
    refine Kloop.next (pre.length + 1, z / (hi - lo + 1) + (pre.length : Int), pre ++ [u]) ⟨by dsimp only; omega, by dsimp only; omega, by dsimp only; omega, by dsimp only; simp, fun i hi2 => ?_⟩ (by dsimp only; omega) ⟨rfl, rfl, rfl, rfl, trivial⟩ (by simp) ?_
    · dsimp only at hi2 ⊢
      rw [getD_snoc]
      by_cases h1 : i < pre.length
      · rw [if_pos h1]; exact hall i h1
      · have h2 : i = pre.length := by omega
        rw [if_neg h1, if_pos h2, h2, hlo, hhi]; omega
    · dsimp only
      rw [show r.streets.length - (pre.length + 1) = m by omega]
      exact (by repeat (first | exact List.Sublist.refl _ | refine List.Sublist.cons _ ?_ | refine List.Sublist.cons_cons _ ?_))
  · have : k = r.streets.length := by omega
    subst this
    refine W.exit (Kseq.exit (Kloop.exit (Kblock.here (Kseq.go (W.seq ?_)))))
    rw [Nat.sub_self, List.replicate_zero, List.append_nil]
    skip
    refine W.region ?_
    refine WL.val (OpVal.opv rfl) rfl rfl rfl ?_
    refine WL.val (OpVal.opv rfl) rfl rfl rfl ?_
    refine WL.nil ?_
    refine Kseq.go ?_
    refine W.ret ?_; skip
    exact ⟨.inl rfl, [_], [], _, ⟨.tmp rfl, trivial⟩, ⟨rfl, pre, ⟨hpl, fun i hi => hall i hi⟩, rfl⟩, by simp, by rw [← hpl]; exact .refl _, by simp [markOf]⟩
end Go.Proofs.YtdjkokpbeaapoaaGreat
