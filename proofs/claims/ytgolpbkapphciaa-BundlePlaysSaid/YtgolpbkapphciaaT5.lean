/- The reference's functions of chapter 3, on: their contracts. -/
import Derived.Test.YtgolpbkapphciaaT4
namespace Go.Proofs.Ytgolpbkapphciaa
open Go Go.Eng Go.RowKit

theorem many_nat (t : Table) : ∃ k : Nat, many t = k ∧ (many t).toNat = k ∧ k ≤ 3000 := ⟨(many t).toNat, by have := manyTo_pos t t.pieces.length; unfold many; omega, rfl, by have := manyTo_pos t t.pieces.length; unfold many; omega⟩

/-- ref.Truths -/
theorem truths_any {h : Mem} {v : Value} {t : Table} (hv : IsTable h v t) (hs : Sm t) (ho : Owned t) : FnR Try.prog 72 #[v] h (fun m r => IsLists m r (truths t)) := by
  have hv' := hv
  obtain ⟨wv, pv, f, rfl, hW, hP, hM⟩ := hv
  obtain ⟨K, hK, hK', hKle⟩ := many_nat t
  refine FnR.of_W (n := 23) Try.func72 rfl rfl (Nat.le_of_ble_eq_true rfl) fun c hr hD hF => ?_
  refine W.seq ?_
  refine W.region ?_
  refine WL.box rfl rfl rfl rfl (fun b1 => ?_)
  refine WL.val (OpVal.opv rfl) rfl rfl rfl ?_
  refine WL.nil ?_
  refine Kseq.go (W.seq ?_)
  skip
  refine W.region ?_
  refine WL.val (OpVal.opv rfl) rfl rfl rfl ?_
  refine WL.nil ?_
  refine Kseq.go (W.seq (W.seq ?_))
  skip
  refine W.region ?_
  refine WL.val (OpVal.opv rfl) rfl rfl rfl ?_
  refine WL.nil ?_
  refine Kseq.go (W.block ?_)
  refine W.nilRow 39 1 ?_
  refine W.loop (σ := Nat × Value × Mem × List Value) (fun s => [(1, .pointer (some ⟨b1, 0, none⟩)), (3, s.2.1), (4, .int .i64 (s.1 : Int))]) (fun s => [h, s.2.2.1]) (fun s => [vr 39 s.2.1 s.2.2.2, .blk b1 (Value.agg #[wv, pv, .int .i64 t.wrong]).cells 25])
    (fun s => s.1 ≤ K ∧ AllInts s.2.2.1 s.2.2.2 (truthsTo t s.1)) (fun s => K - s.1) (0, .slice none 0 0, h, []) ⟨rfl, rfl, rfl, trivial⟩ (by simp) (.refl _) ⟨Nat.zero_le _, AllInts.nil h⟩ ?_
  rintro ⟨k, a, m0, vs⟩ ⟨hk, hall⟩
  dsimp only at hk hall ⊢
  have hlen := truthsTo_len t k
  have hvl := hall.1
  refine W.seq (W.seq ?_)
  refine W.region ?_
  refine WL.val (OpVal.opv rfl) rfl rfl rfl ?_
  refine WL.val (OpVal.loadBW rfl (.tail _ (.head _)) rfl) rfl rfl rfl ?_
  refine WL.val (OpVal.call rfl (fun m hm => hK ▸ many_any (hv'.le (by repeat (first | exact hm.1 | replace hm := hm.2))) hs)) rfl rfl rfl ?_
  refine WL.val (OpVal.opv rfl) rfl rfl rfl ?_
  refine WL.nil ?_
  refine Kseq.go ?_
  refine W.condD rfl rfl (fun hlt => ?_) (fun hge => ?_)
  · refine W.skip (Kseq.go (W.seq (W.block (W.seq ?_))))
    refine W.region ?_
    refine WL.val (OpVal.loadBW rfl (.tail _ (.head _)) rfl) rfl rfl rfl ?_
    refine WL.val (OpVal.opv rfl) rfl rfl rfl ?_
    refine WL.abs (OpAbs.call rfl (fun m hm => nth_any (hv'.le (by repeat (first | exact hm.1 | replace hm := hm.2))) hs ho (by omega))) rfl rfl rfl ?_
    rintro m14 v14 h14
    refine WL.val (OpVal.opv rfl) rfl rfl rfl ?_
    refine WL.nil ?_
    refine Kseq.go (W.seq ?_)
    obtain ⟨a14, c14, rfl⟩ := IsArr.form h14
    skip
    refine W.region ?_
    refine WL.val (OpVal.loadBW rfl (.tail _ (.head _)) rfl) rfl rfl rfl ?_
    refine WL.val (OpVal.opv rfl) rfl rfl rfl ?_
    refine WL.val (OpVal.call rfl (fun m hm => isTruth_any (hv'.le (by repeat (first | exact hm.1 | replace hm := hm.2))) hs (h14.le (by repeat (first | exact hm.1 | replace hm := hm.2))))) rfl rfl rfl ?_
    refine WL.nil ?_
    refine Kseq.go ?_
    refine W.cond rfl rfl (fun he => ?_) (fun hne => ?_)
    · skip
      refine W.region ?_
      refine WL.val (OpVal.opv rfl) rfl rfl rfl ?_
      refine WL.val (OpVal.opv rfl) rfl rfl rfl ?_
      refine WL.abs (OpAbs.lit [_] rfl (Nat.le_of_ble_eq_true rfl) rfl rfl (by simp [Value.cells]) (Nat.le_of_ble_eq_true rfl) rfl (by first | (simp [Value.oneCell']; done) | exact List.all_eq_true.1 rfl)) rfl rfl rfl ?_
      rintro m20 _ ⟨hc20, a20, rfl⟩
      refine WL.app1 rfl (fun _ => (.head _)) rfl (by assumption) (by repeat (first | exact .head _ | refine .tail _ ?_)) rfl (by omega) (Nat.le_of_ble_eq_true rfl) rfl rfl rfl ?_
      intro a21 cp21
      refine WL.val (OpVal.opv rfl) rfl rfl rfl ?_
      refine WL.nil ?_
      refine Kblock.normal (Kseq.go ?_)
      refine W.join fun mj hj => ?_
      skip
      refine W.region ?_
      refine WL.val (OpVal.opv rfl) rfl rfl rfl ?_
      refine WL.val (OpVal.incr rfl (by omega)) rfl rfl rfl ?_
      refine WL.val (OpVal.opv rfl) rfl rfl rfl ?_
      refine WL.nil ?_
      skip
      exact Kloop.next (k + 1, _, mj, vs ++ [_]) ⟨by omega, by dsimp only; rw [truthsTo_yes he]; exact (hall.le (hj _ (by simp))).push (h14.le (hj _ (by simp)))⟩ (by omega) ⟨rfl, rfl, rfl, trivial⟩ (by simp) (.refl _)
    · refine W.skip (Kblock.normal (Kseq.go ?_))
      skip
      refine W.region ?_
      refine WL.val (OpVal.opv rfl) rfl rfl rfl ?_
      refine WL.val (OpVal.incr rfl (by omega)) rfl rfl rfl ?_
      refine WL.val (OpVal.opv rfl) rfl rfl rfl ?_
      refine WL.nil ?_
      skip
      exact Kloop.next (k + 1, a, m0, vs) ⟨by omega, by dsimp only; rw [truthsTo_no hne]; exact hall⟩ (by omega) ⟨rfl, rfl, rfl, trivial⟩ (by simp) (.refl _)
  · refine W.exit (Kseq.exit (Kloop.exit (Kblock.here (Kseq.go (W.seq ?_)))))
    have : k = K := by omega
    subst this
    refine W.freezeV (.head _) (fun b hb => (hF b hb).elim) hall.one fun mr hmr => ?_
    refine W.join fun mj hj => ?_
    skip
    refine W.region ?_
    refine WL.val (OpVal.opv rfl) rfl rfl rfl ?_
    refine WL.val (OpVal.opv rfl) rfl rfl rfl ?_
    refine WL.nil ?_
    refine Kseq.go ?_
    refine W.ret ?_; skip; refine ⟨.inl rfl, [_], mj, ⟨.tmp rfl, trivial⟩, (by repeat (first | exact .head _ | refine .tail _ ?_)), ?_⟩
    unfold truths
    rw [hK']
    exact ⟨vs, hall.le (hj _ (by simp)), hvl ▸ hmr.le (hj _ (by simp))⟩

/-- ref.All -/
theorem all_any {h : Mem} {v : Value} {t : Table} (hv : IsTable h v t) (hs : Sm t) (ho : Owned t) : FnR Try.prog 35 #[v] h (fun m r => IsInts m r (allR t)) := by
  have hv' := hv
  obtain ⟨wv, pv, f, rfl, hW, hP, hM⟩ := hv
  obtain ⟨K, hK, hK', hKle⟩ := many_nat t
  refine FnR.of_W (n := 20) Try.func35 rfl rfl (Nat.le_of_ble_eq_true rfl) fun c hr hD hF => ?_
  refine W.seq ?_
  refine W.region ?_
  refine WL.box rfl rfl rfl rfl (fun b1 => ?_)
  refine WL.val (OpVal.opv rfl) rfl rfl rfl ?_
  refine WL.nil ?_
  refine Kseq.go (W.seq ?_)
  skip
  refine W.region ?_
  refine WL.val (OpVal.opv rfl) rfl rfl rfl ?_
  refine WL.nil ?_
  refine Kseq.go (W.seq (W.seq ?_))
  skip
  refine W.region ?_
  refine WL.val (OpVal.opv rfl) rfl rfl rfl ?_
  refine WL.nil ?_
  refine Kseq.go (W.block ?_)
  refine W.nilRow 3 1 ?_
  refine W.loopA (σ := Nat × Value) (fun s => [(1, .pointer (some ⟨b1, 0, none⟩)), (3, s.2), (4, .int .i64 (s.1 : Int))]) (fun s => ir 3 s.2 (allTo t s.1)) (fun s => s.1 ≤ K) (fun s => K - s.1) (0, .slice none 0 0) ⟨rfl, rfl, rfl, trivial⟩ rfl (Nat.zero_le _) ?_
  rintro ⟨k, a⟩ hk
  dsimp only at hk ⊢
  have hlen : (allTo t k).length = k := by simp [allTo]
  refine W.seq (W.seq ?_)
  refine W.region ?_
  refine WL.val (OpVal.opv rfl) rfl rfl rfl ?_
  refine WL.val (OpVal.loadBW rfl (.tail _ (.head _)) rfl) rfl rfl rfl ?_
  refine WL.val (OpVal.call rfl (fun m hm => hK ▸ many_any (hv'.le (by repeat (first | exact hm.1 | replace hm := hm.2))) hs)) rfl rfl rfl ?_
  refine WL.val (OpVal.opv rfl) rfl rfl rfl ?_
  refine WL.nil ?_
  refine Kseq.go ?_
  refine W.condD rfl rfl (fun hlt => ?_) (fun hge => ?_)
  · refine W.skip (Kseq.go (W.seq (W.block ?_)))
    refine W.draw 7 (by kernel_rfl) (by kernel_rfl) (by kernel_rfl) rfl ?_
    refine DJ.val [] (OpVal.opv rfl) rfl rfl rfl rfl ?_
    refine DJ.val [] (OpVal.loadBW rfl (.tail _ (.head _)) rfl) rfl rfl rfl rfl ?_
    refine DJ.val [] (OpVal.loadBW rfl (.tail _ (.head _)) rfl) rfl rfl rfl rfl ?_
    refine DJ.val [] (OpVal.opv rfl) rfl rfl rfl rfl ?_
    refine DJ.abs (A := fun m r => IsInts m r (nth t k)) [] (OpAbs.call rfl (fun m hm => nth_any (hv'.le (by repeat (first | exact hm.1 | replace hm := hm.2))) hs ho (by omega))) rfl rfl rfl rfl ?_
    refine DJ.val [(15, fun m r => IsInts m r (nth t k))] (fun m15 v15 h15 => OpVal.call rfl (fun m hm => right_any (hv'.le (by repeat (first | exact hm.1 | replace hm := hm.2))) hs (h15.le (by repeat (first | exact hm.1 | replace hm := hm.2))))) rfl rfl rfl rfl ?_ (hG := ⟨(by repeat (first | exact .head _ | refine .tail _ ?_)), rfl, trivial⟩)
    refine DJ.abs (A := fun m v => IsCells m 1 v 1 [vi (right t (nth t k))]) [] (OpAbs.litI rfl) rfl rfl rfl rfl ?_
    refine DJ.nil ?_
    rintro m17 v17 h17
    rintro m15 v15 h15
    refine WL.appInt rfl (fun _ => (.head _)) rfl (by assumption) (by repeat (first | exact .head _ | refine .tail _ ?_)) (by omega) rfl rfl rfl ?_
    intro a18 cp18
    refine WL.val (OpVal.opv rfl) rfl rfl rfl ?_
    refine WL.nil ?_
    refine Kblock.normal (Kseq.go ?_)
    skip
    refine W.region ?_
    refine WL.val (OpVal.opv rfl) rfl rfl rfl ?_
    refine WL.val (OpVal.incr rfl (by omega)) rfl rfl rfl ?_
    refine WL.val (OpVal.opv rfl) rfl rfl rfl ?_
    refine WL.nil ?_
    skip
    exact Kloop.next (k + 1, _) (by omega) (by omega) ⟨rfl, rfl, rfl, trivial⟩ (by simp) (by rw [allTo_succ]; exact .refl _)
  · refine W.exit (Kseq.exit (Kloop.exit (Kblock.here (Kseq.go (W.seq ?_)))))
    have : k = K := by omega
    subst this
    refine W.freezeInts (.head _) (fun b hb => (hF b hb).elim) fun mr hmr => ?_
    skip
    refine W.region ?_
    refine WL.val (OpVal.opv rfl) rfl rfl rfl ?_
    refine WL.val (OpVal.opv rfl) rfl rfl rfl ?_
    refine WL.nil ?_
    refine Kseq.go ?_
    refine W.ret ?_; skip; refine ⟨.inl rfl, [_], mr, ⟨.tmp rfl, trivial⟩, (by repeat (first | exact .head _ | refine .tail _ ?_)), ?_⟩
    unfold allR
    rw [hK']
    exact hmr
/-- ref.Whose -/
theorem whoseR_any {h : Mem} {v av : Value} {t : Table} {all : List (List Int)} {p : Nat} (hv : IsTable h v t) (hs : Sm t) (ha : IsLists h av all) (hL : Long t all) (hp : p < t.pieces.length) : FnR Try.prog 27 #[v, av, .int .i64 p] h (fun m r => IsInts m r (whose t all p)) := by
  have hv' := hv
  obtain ⟨wv, pv, f, rfl, hW, hP, hM⟩ := hv
  have hbd := ha.bd
  have hs1 := hs.1
  obtain ⟨vs, hA, hav⟩ := ha
  refine FnR.of_W (n := 42) Try.func27 rfl rfl (Nat.le_of_ble_eq_true rfl) fun c hr hD hF => ?_
  refine W.seq ?_
  refine W.region ?_
  refine WL.box rfl rfl rfl rfl (fun b3 => ?_)
  refine WL.val (OpVal.opv rfl) rfl rfl rfl ?_
  refine WL.nil ?_
  refine Kseq.go (W.seq ?_)
  skip
  refine W.region ?_
  refine WL.val (OpVal.opv rfl) rfl rfl rfl ?_
  refine WL.nil ?_
  refine Kseq.go (W.seq (W.seq ?_))
  skip
  refine W.region ?_
  refine WL.val (OpVal.opv rfl) rfl rfl rfl ?_
  refine WL.nil ?_
  refine Kseq.go (W.block ?_)
  refine W.nilRow 3 1 ?_
  let q : Nat → Bool := whoseIn all p
  refine W.loopA (σ := Nat × Value) (fun s => [(1, av), (2, .int .i64 p), (3, .pointer (some ⟨b3, 0, none⟩)), (7, s.2), (8, .int .i64 (s.1 : Int))]) (fun s => ir 3 s.2 (sel s.1 q)) (fun s => s.1 ≤ t.women.length) (fun s => t.women.length - s.1) (0, .slice none 0 0) ⟨rfl, rfl, rfl, rfl, rfl, trivial⟩ rfl (Nat.zero_le _) ?_
  rintro ⟨k, a⟩ hk
  dsimp only at hk ⊢
  have hlen := sel_len k q
  refine W.seq (W.seq ?_)
  refine W.region ?_
  refine WL.val (OpVal.opv rfl) rfl rfl rfl ?_
  refine WL.val (OpVal.fieldAddrB rfl) rfl rfl rfl ?_
  refine WL.val (OpVal.loadB rfl (.tail _ (.head _)) rfl) rfl rfl rfl ?_
  refine WL.val (OpVal.len rfl (by assumption)) rfl rfl rfl ?_
  refine WL.val (OpVal.opv rfl) rfl rfl rfl ?_
  refine WL.nil ?_
  refine Kseq.go ?_
  refine W.condD rfl rfl (fun hlt => ?_) (fun hge => ?_)
  · refine W.skip (Kseq.go (W.seq (W.block (W.seq ?_))))
    refine W.region ?_
    refine WL.val (OpVal.opv rfl) rfl rfl rfl ?_
    refine WL.nil ?_
    refine Kseq.go (W.seq (W.seq ?_))
    skip
    refine W.region ?_
    refine WL.val (OpVal.opv rfl) rfl rfl rfl ?_
    refine WL.nil ?_
    refine Kseq.go (W.block ?_)
    let g : Nat → Bool := fun i => decide ((all.getD i []).getD p 0 = k)
    refine W.loopC (σ := Nat) (fun i => [(1, av), (2, .int .i64 p), (3, .pointer (some ⟨b3, 0, none⟩)), (7, a), (8, .int .i64 (k : Int)), (9, .bool (ex i g)), (10, .int .i64 (i : Int))]) (fun i => i ≤ all.length) (fun i => all.length - i) 0 ⟨rfl, rfl, rfl, rfl, rfl, rfl, rfl, trivial⟩ (Nat.zero_le _) ?_
    intro i hi
    refine W.seq (W.seq ?_)
    refine W.region ?_
    refine WL.val (OpVal.opv rfl) rfl rfl rfl ?_
    refine WL.val (OpVal.opv rfl) rfl rfl rfl ?_
    refine WL.val (OpVal.len rfl (by assumption)) rfl rfl rfl ?_
    refine WL.val (OpVal.opv rfl) rfl rfl rfl ?_
    refine WL.nil ?_
    refine Kseq.go ?_
    refine W.condD rfl rfl (fun hlt2 => ?_) (fun hge2 => ?_)
    · have hAi := hA.2 i (by omega)
      have hLi := hL i (by omega)
      refine W.skip (Kseq.go (W.seq (W.block ?_)))
      refine W.region ?_
      refine WL.val (OpVal.opv rfl) rfl rfl rfl ?_
      refine WL.val (OpVal.opv rfl) rfl rfl rfl ?_
      refine WL.splitB rfl rfl (fun h1 => ?_) (fun h1 => ?_)
      · refine WL.pass rfl rfl rfl ?_
        refine WL.pass rfl rfl rfl ?_
        refine WL.pass rfl rfl rfl ?_
        refine WL.pass rfl rfl rfl ?_
        refine WL.pass rfl rfl rfl ?_
        refine WL.pass rfl rfl rfl ?_
        refine WL.pass rfl rfl rfl ?_
        refine WL.pass rfl rfl rfl ?_
        refine WL.pass rfl rfl rfl ?_
        refine WL.val (OpVal.opv rfl) rfl rfl rfl ?_
        refine WL.val (OpVal.opv rfl) rfl rfl rfl ?_
        refine WL.nil ?_
        refine Kblock.normal (Kseq.go ?_)
        skip
        refine W.region ?_
        refine WL.val (OpVal.opv rfl) rfl rfl rfl ?_
        refine WL.val (OpVal.incr rfl (by omega)) rfl rfl rfl ?_
        refine WL.val (OpVal.opv rfl) rfl rfl rfl ?_
        refine WL.nil ?_
        skip
        exact Kloop.nextC (i + 1) (by omega) (by omega) ⟨rfl, rfl, rfl, rfl, rfl, by rw [ex_succ, h1]; rfl, rfl, trivial⟩ (by simp) (.refl _)
      · refine WL.val (OpVal.opv rfl) rfl rfl rfl ?_
        refine WL.val (OpVal.opv rfl) rfl rfl rfl ?_
        refine WL.val (OpVal.indexAddrN rfl rfl (by assumption) (by omega)) rfl rfl rfl ?_
        refine WL.val (OpVal.loadE rfl (by assumption) (by repeat (first | exact .head _ | refine .tail _ ?_)) (by omega) (by omega)) rfl rfl rfl ?_
        refine WL.val (OpVal.opv rfl) rfl rfl rfl ?_
        refine WL.val (OpVal.indexAddrN rfl rfl (by assumption) (by omega)) rfl rfl rfl ?_
        refine WL.val (OpVal.loadE rfl (by assumption) (by repeat (first | exact .head _ | refine .tail _ ?_)) (by omega) (by omega)) rfl rfl rfl ?_
        refine WL.val (OpVal.opv rfl) rfl rfl rfl ?_
        refine WL.val (OpVal.opv rfl) rfl rfl rfl ?_
        refine WL.val (OpVal.opv rfl) rfl rfl rfl ?_
        refine WL.val (OpVal.opv rfl) rfl rfl rfl ?_
        refine WL.nil ?_
        refine Kblock.normal (Kseq.go ?_)
        skip
        refine W.region ?_
        refine WL.val (OpVal.opv rfl) rfl rfl rfl ?_
        refine WL.val (OpVal.incr rfl (by omega)) rfl rfl rfl ?_
        refine WL.val (OpVal.opv rfl) rfl rfl rfl ?_
        refine WL.nil ?_
        skip
        exact Kloop.nextC (i + 1) (by omega) (by omega) ⟨rfl, rfl, rfl, rfl, rfl, by rw [ex_succ, h1]; rfl, rfl, trivial⟩ (by simp) (.refl _)
    · refine W.exit (Kseq.exit (Kloop.exit (Kblock.here (Kseq.go (W.seq ?_)))))
      have : i = all.length := by omega
      subst this
      skip
      refine W.region ?_
      refine WL.val (OpVal.opv rfl) rfl rfl rfl ?_
      refine WL.nil ?_
      refine Kseq.go ?_
      refine W.cond rfl rfl (fun he => ?_) (fun hne => ?_)
      · skip
        refine W.region ?_
        refine WL.val (OpVal.opv rfl) rfl rfl rfl ?_
        refine WL.val (OpVal.opv rfl) rfl rfl rfl ?_
        refine WL.abs (OpAbs.lit [_] rfl (Nat.le_of_ble_eq_true rfl) rfl rfl (by simp [Value.cells]) (Nat.le_of_ble_eq_true rfl) rfl (by first | (simp [Value.oneCell']; done) | exact List.all_eq_true.1 rfl)) rfl rfl rfl ?_
        rintro m39 _ ⟨hc39, a39, rfl⟩
        refine WL.appInt rfl (fun _ => (.head _)) rfl (by assumption) (by repeat (first | exact .head _ | refine .tail _ ?_)) (by omega) rfl rfl rfl ?_
        intro a40 cp40
        refine WL.val (OpVal.opv rfl) rfl rfl rfl ?_
        refine WL.nil ?_
        refine Kblock.normal (Kseq.go ?_)
        skip
        refine W.region ?_
        refine WL.val (OpVal.opv rfl) rfl rfl rfl ?_
        refine WL.val (OpVal.incr rfl (by omega)) rfl rfl rfl ?_
        refine WL.val (OpVal.opv rfl) rfl rfl rfl ?_
        refine WL.nil ?_
        skip
        exact Kloop.next (k + 1, _) (by omega) (by omega) ⟨rfl, rfl, rfl, rfl, rfl, trivial⟩ (by simp) (sub_yes he)
      · refine W.skip (Kblock.normal (Kseq.go ?_))
        skip
        refine W.region ?_
        refine WL.val (OpVal.opv rfl) rfl rfl rfl ?_
        refine WL.val (OpVal.incr rfl (by omega)) rfl rfl rfl ?_
        refine WL.val (OpVal.opv rfl) rfl rfl rfl ?_
        refine WL.nil ?_
        skip
        exact Kloop.next (k + 1, a) (by omega) (by omega) ⟨rfl, rfl, rfl, rfl, rfl, trivial⟩ (by simp) (sub_no hne)
  · refine W.exit (Kseq.exit (Kloop.exit (Kblock.here (Kseq.go (W.seq ?_)))))
    have : k = t.women.length := by omega
    subst this
    refine W.freezeInts (.head _) (fun b hb => (hF b hb).elim) fun mr hmr => ?_
    skip
    refine W.region ?_
    refine WL.val (OpVal.opv rfl) rfl rfl rfl ?_
    refine WL.val (OpVal.opv rfl) rfl rfl rfl ?_
    refine WL.nil ?_
    refine Kseq.go ?_
    refine W.ret ?_; skip; refine ⟨.inl rfl, [_], mr, ⟨.tmp rfl, trivial⟩, (by repeat (first | exact .head _ | refine .tail _ ?_)), ?_⟩
    exact hmr

/-- ref.DoesMiss -/
theorem doesMiss_any {h : Mem} {v lv : Value} {t : Table} {xs : List Int} (x : Int) (hv : IsTable h v t) (hl : IsInts h lv xs) (hn : xs.length ≤ t.pieces.length) : FnV Try.prog 59 #[v, lv, .int .i64 x] h (.bool (doesMiss t xs x)) := by
  obtain ⟨wv, pv, f, rfl, hW, hP, hM⟩ := hv
  have hlen := hl.bd
  refine FnR.val ?_
  refine FnR.of_W (n := 30) Try.func59 rfl rfl (Nat.le_of_ble_eq_true rfl) fun c hr hD hF => ?_
  refine W.seq ?_
  refine W.region ?_
  refine WL.box rfl rfl rfl rfl (fun b3 => ?_)
  refine WL.val (OpVal.opv rfl) rfl rfl rfl ?_
  refine WL.nil ?_
  refine Kseq.go (W.seq (W.seq ?_))
  skip
  refine W.region ?_
  refine WL.val (OpVal.opv rfl) rfl rfl rfl ?_
  refine WL.nil ?_
  refine Kseq.go (W.block ?_)
  let g : Nat → Bool := fun i => decide (xs.getD i 0 = x) && !decide ((t.pieces.getD i default).bundle = x)
  refine W.loopC (σ := Nat) (fun k => [(1, lv), (2, .int .i64 x), (3, .pointer (some ⟨b3, 0, none⟩)), (7, .int .i64 (k : Int))]) (fun k => k ≤ xs.length ∧ ∀ i, i < k → g i = false) (fun k => xs.length - k) 0 ⟨rfl, rfl, rfl, rfl, trivial⟩ ⟨Nat.zero_le _, fun i hi => absurd hi (Nat.not_lt_zero _)⟩ ?_
  rintro k ⟨hk, hall⟩
  refine W.seq (W.seq ?_)
  refine W.region ?_
  refine WL.val (OpVal.opv rfl) rfl rfl rfl ?_
  refine WL.val (OpVal.opv rfl) rfl rfl rfl ?_
  refine WL.val (OpVal.len rfl (by assumption)) rfl rfl rfl ?_
  refine WL.val (OpVal.opv rfl) rfl rfl rfl ?_
  refine WL.nil ?_
  refine Kseq.go ?_
  refine W.condD rfl rfl (fun hlt => ?_) (fun hge => ?_)
  · refine W.skip (Kseq.go (W.seq (W.block (W.seq ?_))))
    refine W.region ?_
    refine WL.val (OpVal.opv rfl) rfl rfl rfl ?_
    refine WL.val (OpVal.opv rfl) rfl rfl rfl ?_
    refine WL.val (OpVal.indexAddrN rfl rfl (by assumption) (by omega)) rfl rfl rfl ?_
    refine WL.val (OpVal.loadE rfl (by assumption) (by repeat (first | exact .head _ | refine .tail _ ?_)) (by omega) (by omega)) rfl rfl rfl ?_
    refine WL.val (OpVal.opv rfl) rfl rfl rfl ?_
    refine WL.val (OpVal.opv rfl) rfl rfl rfl ?_
    refine WL.val (OpVal.opv rfl) rfl rfl rfl ?_
    refine WL.split rfl rfl (fun h1 => ?_) (fun h1 => ?_)
    · refine WL.val (OpVal.fieldAddrB rfl) rfl rfl rfl ?_
      refine WL.val (OpVal.loadB rfl (.head _) rfl) rfl rfl rfl ?_
      refine WL.val (OpVal.opv rfl) rfl rfl rfl ?_
      refine WL.val (OpVal.indexAddrN rfl rfl (by assumption) (by omega)) rfl rfl rfl ?_
      refine WL.val (OpVal.fieldAddrN rfl (by assumption) (by omega)) rfl rfl rfl ?_
      refine WL.val (OpVal.loadE rfl (by assumption) (by repeat (first | exact .head _ | refine .tail _ ?_)) (by omega) (by omega)) rfl rfl rfl ?_
      refine WL.val (OpVal.opv rfl) rfl rfl rfl ?_
      refine WL.val (OpVal.opv rfl) rfl rfl rfl ?_
      refine WL.val (OpVal.opv rfl) rfl rfl rfl ?_
      refine WL.nil ?_
      refine Kseq.go ?_
      refine W.cond rfl rfl (fun he => ?_) (fun hne => ?_)
      · refine W.seq ?_
        refine W.region ?_
        refine WL.val (OpVal.opv rfl) rfl rfl rfl ?_
        refine WL.nil ?_
        refine Kseq.go ?_
        refine W.ret ?_; refine Kblock.ret (Kseq.ret (Kloop.ret (Kblock.ret (Kseq.ret ?_)))); refine ⟨.inl rfl, [_], h, ⟨.tmp rfl, trivial⟩, (by repeat (first | exact .head _ | refine .tail _ ?_)), ?_⟩
        refine congrArg Value.bool (ex_iff.2 ⟨k, by omega, ?_⟩).symm
        simp only [h1, decide_true, Bool.true_and]; exact he
      · refine W.skip (Kblock.normal (Kseq.go ?_))
        refine W.region ?_
        refine WL.val (OpVal.opv rfl) rfl rfl rfl ?_
        refine WL.val (OpVal.incr rfl (by omega)) rfl rfl rfl ?_
        refine WL.val (OpVal.opv rfl) rfl rfl rfl ?_
        refine WL.nil ?_
        skip
        refine Kloop.nextC (k + 1) ⟨by omega, fun i hi => ?_⟩ (by omega) ⟨rfl, rfl, rfl, rfl, trivial⟩ (by simp) (.refl _)
        rcases Nat.lt_succ_iff_lt_or_eq.1 hi with h2 | rfl
        · exact hall i h2
        · show (_ && _) = false
          rw [hne, Bool.and_false]
    · refine WL.pass rfl rfl rfl ?_
      refine WL.pass rfl rfl rfl ?_
      refine WL.pass rfl rfl rfl ?_
      refine WL.pass rfl rfl rfl ?_
      refine WL.pass rfl rfl rfl ?_
      refine WL.pass rfl rfl rfl ?_
      refine WL.pass rfl rfl rfl ?_
      refine WL.pass rfl rfl rfl ?_
      refine WL.val (OpVal.opv rfl) rfl rfl rfl ?_
      refine WL.nil ?_
      refine Kseq.go ?_
      refine W.condF rfl rfl ?_
      refine W.skip (Kblock.normal (Kseq.go ?_))
      refine W.region ?_
      refine WL.val (OpVal.opv rfl) rfl rfl rfl ?_
      refine WL.val (OpVal.incr rfl (by omega)) rfl rfl rfl ?_
      refine WL.val (OpVal.opv rfl) rfl rfl rfl ?_
      refine WL.nil ?_
      skip
      refine Kloop.nextC (k + 1) ⟨by omega, fun i hi => ?_⟩ (by omega) ⟨rfl, rfl, rfl, rfl, trivial⟩ (by simp) (.refl _)
      rcases Nat.lt_succ_iff_lt_or_eq.1 hi with h2 | rfl
      · exact hall i h2
      · show (_ && _) = false
        rw [decide_eq_false h1, Bool.false_and]
  · refine W.exit (Kseq.exit (Kloop.exit (Kblock.here (Kseq.go (W.seq ?_)))))
    refine W.region ?_
    refine WL.val (OpVal.opv rfl) rfl rfl rfl ?_
    refine WL.nil ?_
    refine Kseq.go ?_
    refine W.ret ?_; skip; refine ⟨.inl rfl, [_], h, ⟨.tmp rfl, trivial⟩, (by repeat (first | exact .head _ | refine .tail _ ?_)), ?_⟩
    exact congrArg Value.bool (ex_no.2 fun i hi => hall i (by omega)).symm

end Go.Proofs.Ytgolpbkapphciaa
