/- The program's functions of chapter 3, on: their contracts. -/
import Derived.Test.YtgolpbkapphciaaT14
namespace Go.Proofs.Ytgolpbkapphciaa
open Go Go.Eng Go.RowKit

/-- CheckTable -/
theorem check_any {h : Mem} {v : Value} {t : Table} (hv : IsTable h v t) (hs : Sm t) : FnV Try.prog 54 #[v] h (.int .i64 (fault t)) := by
  have hv' := hv
  obtain ⟨wv, pv, f, rfl, hW, hP, hM⟩ := hv
  have hs' := hs
  obtain ⟨hs1, hs2, hs3⟩ := hs
  refine FnR.val ?_
  refine FnR.of_W (n := 56) Try.func54 rfl rfl (Nat.le_of_ble_eq_true rfl) fun c hr hD hF => ?_
  refine W.seq ?_
  refine W.region ?_
  refine WL.box rfl rfl rfl rfl (fun b1 => ?_)
  refine WL.val (OpVal.opv rfl) rfl rfl rfl ?_
  refine WL.nil ?_
  refine Kseq.go (W.seq ?_)
  skip
  refine W.region ?_
  refine WL.val (OpVal.loadBW rfl (.head _) rfl) rfl rfl rfl ?_
  refine WL.val (OpVal.opv rfl) rfl rfl rfl ?_
  refine WL.val (OpVal.opv rfl) rfl rfl rfl ?_
  refine WL.nil ?_
  refine Kseq.go (W.seq (W.block (W.seq ?_)))
  let tv : Value := .agg #[wv, pv, .int .i64 t.wrong]
  refine W.toS [(1, .pointer (some ⟨b1, 0, none⟩)), (3, .func (.func 87) #[tv] #[]), (9, .bool (decide (5 < t.women.length ∨ 7 < t.pieces.length)))] ?_ ?_
  · skip
    refine W.region ?_
    refine WL.val (OpVal.fieldAddrB rfl) rfl rfl rfl ?_
    refine WL.val (OpVal.loadB rfl (.head _) rfl) rfl rfl rfl ?_
    refine WL.val (OpVal.len rfl (by assumption)) rfl rfl rfl ?_
    refine WL.val (OpVal.opv rfl) rfl rfl rfl ?_
    refine WL.val (OpVal.opv rfl) rfl rfl rfl ?_
    refine WL.split rfl rfl (fun g14 => ?_) (fun g14 => ?_)
    · refine WL.pass rfl rfl rfl ?_
      refine WL.pass rfl rfl rfl ?_
      refine WL.pass rfl rfl rfl ?_
      refine WL.pass rfl rfl rfl ?_
      refine WL.val (OpVal.opv rfl) rfl rfl rfl ?_
      refine WL.val (OpVal.opv rfl) rfl rfl rfl ?_
      refine WL.nil ?_
      skip
      exact Keff.intro ⟨rfl, rfl, congrArg (fun b => some (Value.bool b)) (by first | (simp [-List.getD_eq_getElem?_getD]; done) | (simp_all [-List.getD_eq_getElem?_getD]; done) | (simp [-List.getD_eq_getElem?_getD]; omega) | (rw [Bool.eq_iff_iff]; simp [-List.getD_eq_getElem?_getD]; omega) | (simp [true_and, -List.getD_eq_getElem?_getD] at *; omega)), trivial⟩ (fun _ h => h) (by repeat (first | exact List.Sublist.refl _ | refine List.Sublist.cons _ ?_ | refine List.Sublist.cons_cons _ ?_))
    · refine WL.val (OpVal.fieldAddrB rfl) rfl rfl rfl ?_
      refine WL.val (OpVal.loadB rfl (.head _) rfl) rfl rfl rfl ?_
      refine WL.val (OpVal.len rfl (by assumption)) rfl rfl rfl ?_
      refine WL.val (OpVal.opv rfl) rfl rfl rfl ?_
      refine WL.val (OpVal.opv rfl) rfl rfl rfl ?_
      refine WL.val (OpVal.opv rfl) rfl rfl rfl ?_
      refine WL.nil ?_
      skip
      exact Keff.intro ⟨rfl, rfl, congrArg (fun b => some (Value.bool b)) (by first | (simp [-List.getD_eq_getElem?_getD]; done) | (simp_all [-List.getD_eq_getElem?_getD]; done) | (simp [-List.getD_eq_getElem?_getD]; omega) | (rw [Bool.eq_iff_iff]; simp [-List.getD_eq_getElem?_getD]; omega) | (simp [true_and, -List.getD_eq_getElem?_getD] at *; omega)), trivial⟩ (fun _ h => h) (by repeat (first | exact List.Sublist.refl _ | refine List.Sublist.cons _ ?_ | refine List.Sublist.cons_cons _ ?_))
  refine Kseq.go ?_
  refine W.condD rfl rfl (fun h0 => ?_) (fun h0 => ?_)
  · refine W.seq ?_
    refine W.region ?_
    refine WL.val (OpVal.opv rfl) rfl rfl rfl ?_
    refine WL.nil ?_
    refine Kseq.go ?_
    refine W.ret ?_; refine Kblock.ret (Kseq.ret ?_); refine ⟨.inl rfl, [_], h, ⟨.tmp rfl, trivial⟩, (by repeat (first | exact .head _ | refine .tail _ ?_)), ?_⟩
    exact congrArg (Value.int .i64) (by unfold fault; rw [if_pos h0])
  refine W.seq ?_
  refine W.toS [(1, .pointer (some ⟨b1, 0, none⟩)), (20, .bool (!decide (0 ≤ t.wrong ∧ t.wrong ≤ 5) || ex t.women.length (fun w => womanBad (t.women.getD w default)) || ex t.pieces.length (pieceBad t)))] ?_ ?_
  · skip
    refine W.region ?_
    refine WL.val (OpVal.fieldAddrB rfl) rfl rfl rfl ?_
    refine WL.val (OpVal.loadB rfl (.head _) rfl) rfl rfl rfl ?_
    refine WL.val (OpVal.call rfl (fun m hm => within_any _ _ _)) rfl rfl rfl ?_
    refine WL.val (OpVal.opv rfl) rfl rfl rfl ?_
    refine WL.val (OpVal.opv rfl) rfl rfl rfl ?_
    refine WL.splitN rfl rfl (fun g25 => ?_) (fun g25 => ?_)
    · refine WL.pass rfl rfl rfl ?_
      refine WL.pass rfl rfl rfl ?_
      refine WL.pass rfl rfl rfl ?_
      refine WL.pass rfl rfl rfl ?_
      refine WL.val (OpVal.opv rfl) rfl rfl rfl ?_
      refine WL.val (OpVal.opv rfl) rfl rfl rfl ?_
      refine WL.pass rfl rfl rfl ?_
      refine WL.pass rfl rfl rfl ?_
      refine WL.pass rfl rfl rfl ?_
      refine WL.pass rfl rfl rfl ?_
      refine WL.pass rfl rfl rfl ?_
      refine WL.val (OpVal.opv rfl) rfl rfl rfl ?_
      refine WL.val (OpVal.opv rfl) rfl rfl rfl ?_
      refine WL.nil ?_
      skip
      exact Keff.intro ⟨rfl, congrArg (fun b => some (Value.bool b)) (by first | (simp [-List.getD_eq_getElem?_getD]; done) | (simp_all [-List.getD_eq_getElem?_getD]; done) | (simp [-List.getD_eq_getElem?_getD]; omega) | (rw [Bool.eq_iff_iff]; simp [Bool.not_not, -List.getD_eq_getElem?_getD]; omega) | (simp [Bool.not_not, -List.getD_eq_getElem?_getD] at *; omega)), trivial⟩ (fun _ h => h) (by repeat (first | exact List.Sublist.refl _ | refine List.Sublist.cons _ ?_ | refine List.Sublist.cons_cons _ ?_))
    · refine WL.val (OpVal.fieldAddrB rfl) rfl rfl rfl ?_
      refine WL.val (OpVal.loadB rfl (.head _) rfl) rfl rfl rfl ?_
      refine WL.val (OpVal.call rfl (fun m hm => allW_any (fs := #[]) (cs := #[]) (p := fun i => !womanBad (t.women.getD i default)) (hW.le (by repeat (first | exact hm.1 | replace hm := hm.2))) (fun i hi m' hm' => valid_any (t.women.getD i default)))) rfl rfl rfl ?_
      refine WL.val (OpVal.opv rfl) rfl rfl rfl ?_
      refine WL.val (OpVal.opv rfl) rfl rfl rfl ?_
      refine WL.val (OpVal.opv rfl) rfl rfl rfl ?_
      refine WL.splitB rfl rfl (fun g31 => ?_) (fun g31 => ?_)
      · refine WL.pass rfl rfl rfl ?_
        refine WL.pass rfl rfl rfl ?_
        refine WL.pass rfl rfl rfl ?_
        refine WL.pass rfl rfl rfl ?_
        refine WL.pass rfl rfl rfl ?_
        refine WL.val (OpVal.opv rfl) rfl rfl rfl ?_
        refine WL.val (OpVal.opv rfl) rfl rfl rfl ?_
        refine WL.nil ?_
        skip
        exact Keff.intro ⟨rfl, congrArg (fun b => some (Value.bool b)) (by first | (simp [-List.getD_eq_getElem?_getD]; done) | (simp_all [-List.getD_eq_getElem?_getD]; done) | (simp [Bool.not_not, -List.getD_eq_getElem?_getD]; omega) | (rw [Bool.eq_iff_iff]; simp [Bool.not_not, -List.getD_eq_getElem?_getD]; omega) | (simp [Bool.not_not, -List.getD_eq_getElem?_getD] at *; omega)), trivial⟩ (fun _ h => h) (by repeat (first | exact List.Sublist.refl _ | refine List.Sublist.cons _ ?_ | refine List.Sublist.cons_cons _ ?_))
      · refine WL.val (OpVal.fieldAddrB rfl) rfl rfl rfl ?_
        refine WL.val (OpVal.loadB rfl (.head _) rfl) rfl rfl rfl ?_
        refine WL.val (OpVal.opv rfl) rfl rfl rfl ?_
        refine WL.val (OpVal.call rfl (fun m hm => allP_any (fs := #[tv]) (cs := #[]) (p := fun i => !pieceBad t i) (hP.le (by repeat (first | exact hm.1 | replace hm := hm.2))) (fun i hi m' hm' => piece_any (p := t.pieces.getD i default) (hv'.le (MLe.trans (by repeat (first | exact hm.1 | replace hm := hm.2)) hm')) hs' ((hM i hi).le (MLe.trans (by repeat (first | exact hm.1 | replace hm := hm.2)) hm')) (hs3 i hi)))) rfl rfl rfl ?_
        refine WL.val (OpVal.opv rfl) rfl rfl rfl ?_
        refine WL.val (OpVal.opv rfl) rfl rfl rfl ?_
        refine WL.val (OpVal.opv rfl) rfl rfl rfl ?_
        refine WL.nil ?_
        skip
        exact Keff.intro ⟨rfl, congrArg (fun b => some (Value.bool b)) (by first | (simp [-List.getD_eq_getElem?_getD]; done) | (simp_all [-List.getD_eq_getElem?_getD]; done) | (simp [Bool.not_not, -List.getD_eq_getElem?_getD]; omega) | (rw [Bool.eq_iff_iff]; simp [Bool.not_not, -List.getD_eq_getElem?_getD]; omega) | (simp [Bool.not_not, -List.getD_eq_getElem?_getD] at *; omega)), trivial⟩ (fun _ h => h) (by repeat (first | exact List.Sublist.refl _ | refine List.Sublist.cons _ ?_ | refine List.Sublist.cons_cons _ ?_))
  refine Kseq.go ?_
  refine W.cond rfl rfl (fun h1 => ?_) (fun h1 => ?_)
  · refine W.seq ?_
    refine W.region ?_
    refine WL.val (OpVal.opv rfl) rfl rfl rfl ?_
    refine WL.nil ?_
    refine Kseq.go ?_
    refine W.ret ?_; refine Kblock.ret (Kseq.ret ?_); refine ⟨.inl rfl, [_], h, ⟨.tmp rfl, trivial⟩, (by repeat (first | exact .head _ | refine .tail _ ?_)), ?_⟩
    refine congrArg (Value.int .i64) ?_
    unfold fault
    rw [if_neg h0]
    simp only [Bool.or_eq_true, Bool.not_eq_true', decide_eq_false_iff_not] at h1
    rcases h1 with (h1 | h1) | h1
    all_goals (simp only [h1, if_true, not_false_eq_true]; repeat (first | rfl | split))
  have h1' : (0 ≤ t.wrong ∧ t.wrong ≤ 5) ∧ ex t.women.length (fun w => womanBad (t.women.getD w default)) = false ∧ ex t.pieces.length (pieceBad t) = false := by
    simp only [Bool.or_eq_false_iff, Bool.not_eq_false', decide_eq_true_eq] at h1
    exact ⟨h1.1.1, h1.1.2, h1.2⟩
  obtain ⟨k1, k2, k3⟩ := h1'
  refine W.skip (Kblock.normal (Kseq.go (W.seq ?_)))
  refine W.region ?_
  refine WL.val (OpVal.opv rfl) rfl rfl rfl ?_
  refine WL.nil ?_
  refine Kseq.go (W.seq (W.seq ?_))
  skip
  refine W.region ?_
  refine WL.val (OpVal.fieldAddrB rfl) rfl rfl rfl ?_
  refine WL.val (OpVal.loadB rfl (.head _) rfl) rfl rfl rfl ?_
  refine WL.val (OpVal.len rfl (by assumption)) rfl rfl rfl ?_
  refine WL.val (OpVal.opv rfl) rfl rfl rfl ?_
  refine WL.nil ?_
  refine Kseq.go (W.block ?_)
  refine W.loopC (σ := Nat) (fun k => [(1, .pointer (some ⟨b1, 0, none⟩)), (4, .int .i64 (if k = 0 then 1 else manyP t k)), (39, pv), (40, .int .i64 (t.pieces.length : Int)), (41, .int .i64 (k : Int))]) (fun k => k ≤ t.pieces.length) (fun k => t.pieces.length - k) 0 ⟨rfl, rfl, rfl, rfl, rfl, trivial⟩ (Nat.zero_le _) ?_
  intro k hk
  have hmp := manyTo_pos t k
  have e0 : (if k = 0 then 1 else manyP t k) = manyP t k := by
    split
    · rename_i e; subst e; rfl
    · rfl
  rw [e0]
  have hmp2 : 0 ≤ manyP t k ∧ manyP t k ≤ 2001 := by unfold manyP; omega
  have hwl : (womenOf t k).length ≤ t.women.length := sel_len _ _
  refine W.seq ?_
  refine W.region ?_
  refine WL.val (OpVal.opv rfl) rfl rfl rfl ?_
  refine WL.nil ?_
  refine Kseq.go (W.seq ?_)
  refine W.condD rfl rfl (fun hlt => ?_) (fun hge => ?_)
  · have hMk := hM k (by omega)
    have hmul : manyP t k * ((womenOf t k).length : Int) ≤ 2001 * 50 := Int.mul_le_mul hmp2.2 (by omega) (by omega) (by omega)
    have hmul0 : 0 ≤ manyP t k * ((womenOf t k).length : Int) := Int.mul_nonneg hmp2.1 (by omega)
    refine W.skip (Kseq.go (W.seq (W.block (W.seq ?_))))
    refine W.region ?_
    refine WL.val (OpVal.indexAddrN rfl rfl (by assumption) (by omega)) rfl rfl rfl ?_
    refine WL.val (OpVal.loadEA rfl (by assumption) (by repeat (first | exact .head _ | refine .tail _ ?_)) (by omega)) rfl rfl rfl ?_
    refine WL.alloc rfl rfl rfl (fun b6 => ?_)
    refine WL.store [_, _] rfl (.head _) rfl rfl rfl (Nat.le_of_ble_eq_true rfl) (by first | (simp [Value.cells, Value.oneCell']; done) | exact IsArr.ones hW (by omega) | exact IsArr.ones hP (by omega)) rfl ?_
    refine WL.nil ?_
    refine Kseq.go ?_
    skip
    refine W.region ?_
    refine WL.val (OpVal.opv rfl) rfl rfl rfl ?_
    refine WL.val (OpVal.loadBW rfl (.tail _ (.head _)) rfl) rfl rfl rfl ?_
    refine WL.val (OpVal.loadBW rfl (.head _) rfl) rfl rfl rfl ?_
    refine WL.abs (OpAbs.mono (OpAbs.call rfl (fun m hm => of_any (hv'.le (by repeat (first | exact hm.1 | replace hm := hm.2))) hs' (hMk.le (by repeat (first | exact hm.1 | replace hm := hm.2))))) (fun m r (hr : IsInts m r (womenOf t k)) => hr)) rfl rfl rfl ?_
    rintro m48 v48 h48
    refine WL.val (OpVal.len rfl (by assumption)) rfl rfl rfl ?_
    refine WL.val (OpVal.mul rfl rfl (by omega) (by omega)) rfl rfl rfl ?_
    refine WL.abs (OpAbs.lit [_, _] rfl (Nat.le_of_ble_eq_true rfl) rfl rfl (by simp [Value.cells]) (Nat.le_of_ble_eq_true rfl) rfl (by first | (simp [Value.oneCell']; done) | exact List.all_eq_true.1 rfl)) rfl rfl rfl ?_
    rintro m51 _ ⟨hc51, a51, rfl⟩
    refine WL.val (OpVal.call rfl (fun m hm => minimum_any ((ints_lit (xs := [_, 2001]) hc51).le (by repeat (first | exact hm.1 | replace hm := hm.2))))) rfl rfl rfl ?_
    refine WL.val (OpVal.opv rfl) rfl rfl rfl ?_
    refine WL.nil ?_
    refine Kblock.normal (Kseq.go ?_)
    skip
    refine W.region ?_
    refine WL.val (OpVal.incr rfl (by omega)) rfl rfl rfl ?_
    refine WL.val (OpVal.opv rfl) rfl rfl rfl ?_
    refine WL.nil ?_
    skip
    exact Kloop.nextC (k + 1) (by omega) (by omega) ⟨rfl, by rw [if_neg (Nat.succ_ne_zero k), manyP_succ]; rfl, rfl, rfl, rfl, trivial⟩ (by simp) (by repeat (first | exact List.Sublist.refl _ | refine List.Sublist.cons _ ?_ | refine List.Sublist.cons_cons _ ?_))
  · refine W.exit (Kseq.exit (Kloop.exit (Kblock.here (Kseq.go (W.seq (W.seq ?_))))))
    have : k = t.pieces.length := by omega
    subst this
    have hfin : fault t = if 2000 < many t then 3 else 0 := by
      unfold fault
      rw [if_neg h0, if_neg (by omega), if_neg (by rw [k2]; simp), if_neg (by rw [k3]; simp)]
    skip
    refine W.region ?_
    refine WL.val (OpVal.opv rfl) rfl rfl rfl ?_
    refine WL.val (OpVal.opv rfl) rfl rfl rfl ?_
    refine WL.nil ?_
    refine Kseq.go ?_
    refine W.condD rfl rfl (fun h4 => ?_) (fun h4 => ?_)
    · refine W.seq ?_
      refine W.region ?_
      refine WL.val (OpVal.opv rfl) rfl rfl rfl ?_
      refine WL.nil ?_
      refine Kseq.go ?_
      refine W.ret ?_; refine Kseq.ret ?_; refine ⟨.inl rfl, [_], h, ⟨.tmp rfl, trivial⟩, (by repeat (first | exact .head _ | refine .tail _ ?_)), ?_⟩
      exact congrArg (Value.int .i64) (by rw [hfin, if_pos (by unfold manyP at h4; unfold many; omega)])
    · refine W.skip (Kseq.go (W.seq ?_))
      refine W.region ?_
      refine WL.val (OpVal.opv rfl) rfl rfl rfl ?_
      refine WL.nil ?_
      refine Kseq.go ?_
      refine W.ret ?_; skip; refine ⟨.inl rfl, [_], h, ⟨.tmp rfl, trivial⟩, (by repeat (first | exact .head _ | refine .tail _ ?_)), ?_⟩
      exact congrArg (Value.int .i64) (by rw [hfin, if_neg (by unfold manyP at h4; unfold many; omega)])

/-- listed -/
theorem listed_any {h : Mem} {v lv : Value} {t : Table} {xs : List Int} (hv : IsTable h v t) (hs : Sm t) (h7 : t.pieces.length ≤ 7) (hl : IsInts h lv xs) :
    FnR Try.prog 83 #[v, lv] h (fun _ r => ∃ q : List Int, q.length = 7 ∧ r = .tuple #[.agg (q.map vi).toArray, .bool (areOwners t xs)] ∧ (areOwners t xs = true → q = pad xs)) := by
  have hv' := hv
  obtain ⟨wv, pv, f, rfl, hW, hP, hM⟩ := hv
  have hs' := hs
  obtain ⟨hs1, hs2, hs3⟩ := hs
  refine FnR.of_W (n := 38) Try.func83 rfl rfl (Nat.le_of_ble_eq_true rfl) fun c hr hD hF => ?_
  refine W.seq ?_
  refine W.region ?_
  refine WL.box rfl rfl rfl rfl (fun b2 => ?_)
  refine WL.alloc rfl rfl rfl (fun b4 => ?_)
  refine WL.val (OpVal.opv rfl) rfl rfl rfl ?_
  refine WL.nil ?_
  refine Kseq.go (W.seq (W.seq ?_))
  skip
  refine W.region ?_
  refine WL.val (OpVal.opv rfl) rfl rfl rfl ?_
  refine WL.val (OpVal.len rfl (by assumption)) rfl rfl rfl ?_
  refine WL.val (OpVal.fieldAddrB rfl) rfl rfl rfl ?_
  refine WL.val (OpVal.loadB rfl (.tail _ (.head _)) rfl) rfl rfl rfl ?_
  refine WL.val (OpVal.len rfl (by assumption)) rfl rfl rfl ?_
  refine WL.val (OpVal.opv rfl) rfl rfl rfl ?_
  refine WL.nil ?_
  refine Kseq.go ?_
  refine W.cond rfl rfl (fun he => ?_) (fun hne => ?_)
  · refine W.seq ?_
    refine W.region ?_
    refine WL.val (OpVal.loadBW rfl (.head _) rfl) rfl rfl rfl ?_
    refine WL.storeAll rfl (.head _) rfl rfl (by first | rfl | (simp; done) | (simp; omega) | (simp [*]; done) | assumption) (by first | rfl | (simp; done) | (simp; omega) | (simp [*]; done) | assumption) (by first | (simp [Value.oneCell']; done) | exact List.all_eq_true.1 rfl) ?_
    refine WL.val (OpVal.opv rfl) rfl rfl rfl ?_
    refine WL.nil ?_
    refine Kseq.go ?_
    refine W.ret ?_; refine Kseq.ret ?_
    refine ⟨.inl rfl, [_, .bool (areOwners t xs)], h, ⟨.agg inferInstance inferInstance rfl (.head _) rfl, .tmp (by rw [show areOwners t xs = false by simp [areOwners]; intro h; simp at he; omega]; rfl), trivial⟩, .head _, List.replicate 7 0, rfl, rfl, ?_⟩
    intro hA
    have := (areOwners_iff.1 hA).1
    simp at he; omega
  have hn : xs.length = t.pieces.length := by simp at hne; omega
  refine W.skip (Kseq.go (W.seq (W.seq ?_)))
  refine W.region ?_
  refine WL.val (OpVal.opv rfl) rfl rfl rfl ?_
  refine WL.val (OpVal.len rfl (by assumption)) rfl rfl rfl ?_
  refine WL.val (OpVal.opv rfl) rfl rfl rfl ?_
  refine WL.nil ?_
  refine Kseq.go (W.block ?_)
  refine W.loop (σ := Nat) (fun k => [(2, .pointer (some ⟨b2, 0, none⟩)), (4, .pointer (some ⟨b4, 0, none⟩)), (15, lv), (16, .int .i64 (xs.length : Int)), (17, .int .i64 (k : Int))]) (fun _ => [h]) (fun k => [.blk b4 ((pad (xs.take k)).map vi).toArray 121, .blk b2 (Value.agg #[wv, pv, .int .i64 t.wrong]).cells 35]) (fun k => k ≤ xs.length ∧ ∀ i, i < k → xs.getD i 0 ∈ womenOf t i) (fun k => xs.length - k) 0 ⟨rfl, rfl, rfl, rfl, rfl, trivial⟩ (by simp) (.refl _) ⟨Nat.zero_le _, fun i hi => absurd hi (Nat.not_lt_zero _)⟩ ?_
  rintro k ⟨hk, hall⟩
  have hpl : (pad (xs.take k)).length = 7 := pad_len (by simp; omega)
  refine W.seq ?_
  refine W.region ?_
  refine WL.val (OpVal.opv rfl) rfl rfl rfl ?_
  refine WL.nil ?_
  refine Kseq.go (W.seq ?_)
  refine W.condD rfl rfl (fun hlt => ?_) (fun hge => ?_)
  · have hMk := hM k (by omega)
    refine W.skip (Kseq.go (W.seq (W.block (W.seq ?_))))
    refine W.region ?_
    refine WL.val (OpVal.opv rfl) rfl rfl rfl ?_
    refine WL.val (OpVal.indexAddrN rfl rfl (by assumption) (by omega)) rfl rfl rfl ?_
    refine WL.val (OpVal.loadE rfl (by assumption) (by repeat (first | exact .head _ | refine .tail _ ?_)) (by omega) (by omega)) rfl rfl rfl ?_
    refine WL.val (OpVal.opv rfl) rfl rfl rfl ?_
    refine WL.val (OpVal.opv rfl) rfl rfl rfl ?_
    refine WL.nil ?_
    refine Kseq.go (W.seq (W.seq ?_))
    skip
    refine W.draw 8 (by kernel_rfl) (by kernel_rfl) (by kernel_rfl) rfl ?_
    refine DJ.val [] (OpVal.loadBW rfl (.tail _ (.head _)) rfl) rfl rfl rfl rfl ?_
    refine DJ.val [] (OpVal.fieldAddrB rfl) rfl rfl rfl rfl ?_
    refine DJ.val [] (OpVal.loadB rfl (.tail _ (.head _)) rfl) rfl rfl rfl rfl ?_
    refine DJ.val [] (OpVal.opv rfl) rfl rfl rfl rfl ?_
    refine DJ.val [] (OpVal.indexAddrN rfl rfl (by assumption) (by omega)) rfl rfl rfl rfl ?_
    refine DJ.val [] (OpVal.loadEA rfl (by assumption) (by repeat (first | exact .head _ | refine .tail _ ?_)) (by omega)) rfl rfl rfl rfl ?_
    refine DJ.abs (A := fun m r => IsInts m r (womenOf t k)) [] (OpAbs.call rfl (fun m hm => of_any (hv'.le (by repeat (first | exact hm.1 | replace hm := hm.2))) hs' (hMk.le (by repeat (first | exact hm.1 | replace hm := hm.2))))) rfl rfl rfl rfl ?_
    refine DJ.val [] (OpVal.opv rfl) rfl rfl rfl rfl ?_
    refine DJ.nil ?_
    rintro m28 v28 h28
    refine WL.val (OpVal.call rfl (fun m hm => contains_any _ (h28.le (by repeat (first | exact hm.1 | replace hm := hm.2))))) rfl rfl rfl ?_
    refine WL.val (OpVal.opv rfl) rfl rfl rfl ?_
    refine WL.nil ?_
    refine Kseq.go ?_
    refine W.cond rfl rfl (fun he => ?_) (fun hne2 => ?_)
    · refine W.seq ?_
      refine W.region ?_
      refine WL.val (OpVal.loadBW rfl (.head _) (by simp [hpl])) rfl rfl rfl ?_
      refine WL.storeAll rfl (.head _) rfl rfl (by first | rfl | (simp; done) | (simp; omega) | (simp [*]; done) | assumption) (by first | rfl | (simp; done) | (simp; omega) | (simp [*]; done) | assumption) (by first | (simp [Value.oneCell']; done) | exact List.all_eq_true.1 rfl) ?_
      refine WL.val (OpVal.opv rfl) rfl rfl rfl ?_
      refine WL.nil ?_
      refine Kseq.go ?_
      refine W.ret ?_; refine Kseq.ret (Kblock.ret (Kseq.ret (Kloop.ret (Kblock.ret (Kseq.ret ?_)))))
      have hA : areOwners t xs = false := by
        rw [Bool.eq_false_iff]
        intro hA
        have := (areOwners_iff.1 hA).2 k (by omega)
        simp at he
        exact he this
      exact ⟨.inl rfl, [_, .bool (areOwners t xs)], h, ⟨.agg inferInstance inferInstance rfl (.head _) (by simp [hpl]), .tmp (by rw [hA]; rfl), trivial⟩, (by repeat (first | exact .head _ | refine .tail _ ?_)), pad (xs.take k), hpl, rfl, fun hB => by rw [hA] at hB; cases hB⟩
    · refine W.skip (Kseq.go ?_)
      refine W.region ?_
      refine WL.val (OpVal.opv rfl) rfl rfl rfl ?_
      refine WL.val (OpVal.opv rfl) rfl rfl rfl ?_
      refine WL.val (OpVal.indexAddrB rfl rfl (by omega)) rfl rfl rfl ?_
      (refine WL.store (size := 1) ((pad (xs.take (k + 1))).map vi) rfl (.head _) rfl rfl rfl (by simp [hpl]; omega) (by simp [Value.cells, Value.oneCell']) (pad_store (by omega) (by omega)) ?_)
      refine WL.nil ?_
      refine Kblock.normal (Kseq.go ?_)
      skip
      refine W.region ?_
      refine WL.val (OpVal.incr rfl (by omega)) rfl rfl rfl ?_
      refine WL.val (OpVal.opv rfl) rfl rfl rfl ?_
      refine WL.nil ?_
      skip
      refine Kloop.next (k + 1) ⟨by omega, fun i hi => ?_⟩ (by omega) ⟨rfl, rfl, rfl, rfl, rfl, trivial⟩ (by simp) (.refl _)
      rcases Nat.lt_succ_iff_lt_or_eq.1 hi with h3 | rfl
      · exact hall i h3
      · simpa using hne2
  · refine W.exit (Kseq.exit (Kloop.exit (Kblock.here (Kseq.go (W.seq ?_)))))
    have : k = xs.length := by omega
    subst this
    rw [List.take_length] at hpl ⊢
    have hA : areOwners t xs = true := areOwners_iff.2 ⟨hn, fun i hi => hall i hi⟩
    skip
    refine W.region ?_
    refine WL.val (OpVal.loadBW rfl (.head _) (by simp [hpl])) rfl rfl rfl ?_
    refine WL.storeAll rfl (.head _) rfl rfl (by first | rfl | (simp; done) | (simp; omega) | (simp [*]; done) | assumption) (by first | rfl | (simp; done) | (simp; omega) | (simp [*]; done) | assumption) (by first | (simp [Value.oneCell']; done) | exact List.all_eq_true.1 rfl) ?_
    refine WL.val (OpVal.opv rfl) rfl rfl rfl ?_
    refine WL.nil ?_
    refine Kseq.go ?_
    refine W.ret ?_; skip
    exact ⟨.inl rfl, [_, .bool (areOwners t xs)], h, ⟨.agg inferInstance inferInstance rfl (.head _) (by simp [hpl]), .tmp (by rw [hA]; rfl), trivial⟩, .head _, pad xs, hpl, rfl, fun _ => rfl⟩
end Go.Proofs.Ytgolpbkapphciaa
