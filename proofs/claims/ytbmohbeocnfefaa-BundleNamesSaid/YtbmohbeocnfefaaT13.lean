/- The program's functions of chapter 3, on: their contracts. -/
import Derived.Test.YtbmohbeocnfefaaT7
import Derived.Test.YtbmohbeocnfefaaP1
namespace Go.Proofs.Ytbmohbeocnfefaa
open Go Go.Eng Go.RowKit

/-- of -/
theorem of_any {h : Mem} {v lv : Value} {t : Table} {ms : List Int} {b : Int} (hv : IsTable h v t) (hs : Sm t) (hl : IsInts h lv ms) : FnR Try.prog 47 #[v, .agg #[lv, vi b]] h (fun m r => IsInts m r (ofMarks t ms)) := by
  obtain ⟨wv, pv, f, rfl, hW, hP, hM⟩ := hv
  obtain ⟨hs1, hs2, hs3⟩ := hs
  refine FnR.of_W (n := 26) Try.func47 rfl rfl (Nat.le_of_ble_eq_true rfl) fun c hr hD hF => ?_
  refine W.seq ?_
  refine W.region ?_
  refine WL.box rfl rfl rfl rfl (fun b2 => ?_)
  refine WL.box rfl rfl rfl rfl (fun b3 => ?_)
  refine WL.val (OpVal.opv rfl) rfl rfl rfl ?_
  refine WL.nil ?_
  refine Kseq.go (W.seq (W.seq ?_))
  skip
  refine W.region ?_
  refine WL.val (OpVal.fieldAddrB rfl) rfl rfl rfl ?_
  refine WL.val (OpVal.loadB rfl (.tail _ (.head _)) rfl) rfl rfl rfl ?_
  refine WL.val (OpVal.len rfl (by assumption)) rfl rfl rfl ?_
  refine WL.val (OpVal.opv rfl) rfl rfl rfl ?_
  refine WL.nil ?_
  refine Kseq.go (W.block ?_)
  refine W.nilRow 3 1 ?_
  let q : Nat → Bool := fun w => decide ((t.women.getD w default).mark ∈ ms)
  refine W.loopA (σ := Nat × Value) (fun s => [(2, .pointer (some ⟨b2, 0, none⟩)), (3, .pointer (some ⟨b3, 0, none⟩)), (4, s.2), (8, wv), (9, .int .i64 (t.women.length : Int)), (10, .int .i64 (s.1 : Int))]) (fun s => ir 3 s.2 (sel s.1 q)) (fun s => s.1 ≤ t.women.length) (fun s => t.women.length - s.1) (0, .slice none 0 0) ⟨rfl, rfl, rfl, rfl, rfl, rfl, trivial⟩ rfl (Nat.zero_le _) ?_
  rintro ⟨k, a⟩ hk
  dsimp only at hk ⊢
  have hlen := sel_len k q
  refine W.seq ?_
  refine W.region ?_
  refine WL.val (OpVal.opv rfl) rfl rfl rfl ?_
  refine WL.nil ?_
  refine Kseq.go (W.seq ?_)
  refine W.condD rfl rfl (fun hlt => ?_) (fun hge => ?_)
  · refine W.skip (Kseq.go (W.seq (W.block (W.seq ?_))))
    refine W.region ?_
    refine WL.val (OpVal.opv rfl) rfl rfl rfl ?_
    refine WL.val (OpVal.indexAddrN rfl rfl (by assumption) (by omega)) rfl rfl rfl ?_
    refine WL.val (OpVal.loadEA rfl (by assumption) (by repeat (first | exact .head _ | refine .tail _ ?_)) (by omega)) rfl rfl rfl ?_
    refine WL.alloc rfl rfl rfl (fun b6 => ?_)
    refine WL.val (OpVal.opv rfl) rfl rfl rfl ?_
    refine WL.store [_, _, _] rfl (.head _) rfl rfl rfl (Nat.le_of_ble_eq_true rfl) (by first | (simp [Value.cells, Value.oneCell']; done) | exact IsArr.ones hW (by omega) | exact IsArr.ones hP (by omega) | exact IsArr.ones hS (by omega) | exact IsArr.ones hH (by omega) | exact IsArr.ones hL (by omega) | exact IsArr.ones hB (by omega) | exact IsArr.ones hT (by omega) | exact IsArr.ones hm (by omega)) rfl ?_
    refine WL.nil ?_
    refine Kseq.go (W.seq ?_)
    skip
    refine W.region ?_
    refine WL.val (OpVal.fieldAddrB rfl) rfl rfl rfl ?_
    refine WL.val (OpVal.loadB rfl (.tail _ (.tail _ (.head _))) rfl) rfl rfl rfl ?_
    refine WL.val (OpVal.fieldAddrB rfl) rfl rfl rfl ?_
    refine WL.val (OpVal.loadB rfl (.head _) rfl) rfl rfl rfl ?_
    refine WL.val (OpVal.call rfl (fun m hm => contains_any _ (hl.le (by repeat (first | exact hm.1 | replace hm := hm.2))))) rfl rfl rfl ?_
    refine WL.nil ?_
    refine Kseq.go ?_
    refine W.condD rfl rfl (fun he => ?_) (fun hne => ?_)
    · skip
      refine W.region ?_
      refine WL.val (OpVal.opv rfl) rfl rfl rfl ?_
      refine WL.val (OpVal.opv rfl) rfl rfl rfl ?_
      refine WL.abs (OpAbs.lit [_] rfl (Nat.le_of_ble_eq_true rfl) rfl rfl (by simp [Value.cells]) (Nat.le_of_ble_eq_true rfl) rfl (by first | (simp [Value.oneCell']; done) | exact List.all_eq_true.1 rfl)) rfl rfl rfl ?_
      rintro m22 _ ⟨hc22, a22, rfl⟩
      refine WL.appInt rfl (fun _ => (.tail _ (.head _))) rfl (by assumption) (by repeat (first | exact .head _ | refine .tail _ ?_)) (by omega) rfl rfl rfl ?_
      intro a23 cp23
      refine WL.val (OpVal.opv rfl) rfl rfl rfl ?_
      refine WL.nil ?_
      refine Kblock.normal (Kseq.go ?_)
      skip
      refine W.region ?_
      refine WL.val (OpVal.incr rfl (by omega)) rfl rfl rfl ?_
      refine WL.val (OpVal.opv rfl) rfl rfl rfl ?_
      refine WL.nil ?_
      skip
      refine Kloop.next (k + 1, .slice a23 ((sel k q).length + 1) cp23) (by omega) (by omega) ⟨rfl, rfl, rfl, rfl, rfl, rfl, trivial⟩ (by simp) ?_
      dsimp only; rw [sel_yes (n := k) (p := q) (decide_eq_true he)]; exact (by repeat (first | exact List.Sublist.refl _ | refine List.Sublist.cons _ ?_ | refine List.Sublist.cons_cons _ ?_))
    · refine W.skip (Kblock.normal (Kseq.go ?_))
      skip
      refine W.region ?_
      refine WL.val (OpVal.incr rfl (by omega)) rfl rfl rfl ?_
      refine WL.val (OpVal.opv rfl) rfl rfl rfl ?_
      refine WL.nil ?_
      skip
      refine Kloop.next (k + 1, a) (by omega) (by omega) ⟨rfl, rfl, rfl, rfl, rfl, rfl, trivial⟩ (by simp) ?_
      dsimp only; rw [sel_no (n := k) (p := q) (decide_eq_false hne)]; exact (by repeat (first | exact List.Sublist.refl _ | refine List.Sublist.cons _ ?_ | refine List.Sublist.cons_cons _ ?_))
  · refine W.exit (Kseq.exit (Kloop.exit (Kblock.here (Kseq.go (W.seq ?_)))))
    have : k = t.women.length := by omega
    subst this
    refine W.freezeInts (.head _) (fun b hb => (hF b hb).elim) fun mr hmr => ?_
    skip
    refine W.region ?_
    refine WL.val (OpVal.opv rfl) rfl rfl rfl ?_
    refine WL.val (OpVal.opv rfl) rfl rfl rfl ?_
    refine WL.nil ?_
    refine Kseq.go ?_
    refine W.ret ?_; skip; refine ⟨.inl rfl, [_], mr, ⟨.tmp rfl, trivial⟩, (by repeat (first | exact .head _ | refine .tail _ ?_)), ?_⟩
    exact hmr

/-- valid, of a woman -/
theorem valid_any {h : Mem} (w : Woman) : FnV Try.prog 44 #[.agg #[vi w.mark, vi w.lo, vi w.hi]] h (.bool (!womanBad w)) := by
  refine FnR.val ?_
  refine FnR.of_W (n := 27) Try.func44 rfl rfl (Nat.le_of_ble_eq_true rfl) fun c hr hD hF => ?_
  refine W.seq ?_
  refine W.region ?_
  refine WL.box rfl rfl rfl rfl (fun b1 => ?_)
  refine WL.val (OpVal.opv rfl) rfl rfl rfl ?_
  refine WL.nil ?_
  refine Kseq.go (W.seq ?_)
  skip
  skip
  refine W.region ?_
  refine WL.val (OpVal.fieldAddrB rfl) rfl rfl rfl ?_
  refine WL.val (OpVal.loadB rfl (.head _) rfl) rfl rfl rfl ?_
  refine WL.val (OpVal.call rfl (fun m hm => mark_any _)) rfl rfl rfl ?_
  refine WL.val (OpVal.opv rfl) rfl rfl rfl ?_
  refine WL.split rfl rfl (fun g6 => ?_) (fun g6 => ?_)
  · refine WL.val (OpVal.fieldAddrB rfl) rfl rfl rfl ?_
    refine WL.val (OpVal.fieldAddrB rfl) rfl rfl rfl ?_
    refine WL.val (OpVal.loadB rfl (.head _) rfl) rfl rfl rfl ?_
    refine WL.val (OpVal.opv rfl) rfl rfl rfl ?_
    refine WL.val (OpVal.opv rfl) rfl rfl rfl ?_
    refine WL.val (OpVal.opv rfl) rfl rfl rfl ?_
    refine WL.split rfl rfl (fun g12 => ?_) (fun g12 => ?_)
    · refine WL.val (OpVal.fieldAddrB rfl) rfl rfl rfl ?_
      refine WL.val (OpVal.fieldAddrB rfl) rfl rfl rfl ?_
      refine WL.val (OpVal.loadB rfl (.head _) rfl) rfl rfl rfl ?_
      refine WL.val (OpVal.fieldAddrB rfl) rfl rfl rfl ?_
      refine WL.val (OpVal.fieldAddrB rfl) rfl rfl rfl ?_
      refine WL.val (OpVal.loadB rfl (.head _) rfl) rfl rfl rfl ?_
      refine WL.val (OpVal.opv rfl) rfl rfl rfl ?_
      refine WL.val (OpVal.opv rfl) rfl rfl rfl ?_
      refine WL.val (OpVal.opv rfl) rfl rfl rfl ?_
      refine WL.split rfl rfl (fun g21 => ?_) (fun g21 => ?_)
      · refine WL.val (OpVal.fieldAddrB rfl) rfl rfl rfl ?_
        refine WL.val (OpVal.fieldAddrB rfl) rfl rfl rfl ?_
        refine WL.val (OpVal.loadB rfl (.head _) rfl) rfl rfl rfl ?_
        refine WL.val (OpVal.opv rfl) rfl rfl rfl ?_
        refine WL.val (OpVal.opv rfl) rfl rfl rfl ?_
        refine WL.val (OpVal.opv rfl) rfl rfl rfl ?_
        refine WL.nil ?_
        refine Kseq.go ?_
        (refine W.ret ?_; skip; refine ⟨.inl rfl, [_], h, ⟨.tmp rfl, trivial⟩, (by repeat (first | exact .head _ | refine .tail _ ?_)), ?_⟩; exact congrArg Value.bool (by first | (simp [womanBad, -List.getD_eq_getElem?_getD]; done) | (simp_all [-List.getD_eq_getElem?_getD]; done) | (simp [womanBad, -List.getD_eq_getElem?_getD]; omega) | (rw [Bool.eq_iff_iff]; simp [womanBad, -List.getD_eq_getElem?_getD]; omega) | (simp [womanBad, -List.getD_eq_getElem?_getD] at *; omega)))
      · refine WL.pass rfl rfl rfl ?_
        refine WL.pass rfl rfl rfl ?_
        refine WL.pass rfl rfl rfl ?_
        refine WL.pass rfl rfl rfl ?_
        refine WL.val (OpVal.opv rfl) rfl rfl rfl ?_
        refine WL.val (OpVal.opv rfl) rfl rfl rfl ?_
        refine WL.nil ?_
        refine Kseq.go ?_
        (refine W.ret ?_; skip; refine ⟨.inl rfl, [_], h, ⟨.tmp rfl, trivial⟩, (by repeat (first | exact .head _ | refine .tail _ ?_)), ?_⟩; exact congrArg Value.bool (by first | (simp [womanBad, -List.getD_eq_getElem?_getD]; done) | (simp_all [-List.getD_eq_getElem?_getD]; done) | (simp [womanBad, -List.getD_eq_getElem?_getD]; omega) | (rw [Bool.eq_iff_iff]; simp [womanBad, -List.getD_eq_getElem?_getD]; omega) | (simp [womanBad, -List.getD_eq_getElem?_getD] at *; omega)))
    · refine WL.pass rfl rfl rfl ?_
      refine WL.pass rfl rfl rfl ?_
      refine WL.pass rfl rfl rfl ?_
      refine WL.pass rfl rfl rfl ?_
      refine WL.pass rfl rfl rfl ?_
      refine WL.pass rfl rfl rfl ?_
      refine WL.pass rfl rfl rfl ?_
      refine WL.val (OpVal.opv rfl) rfl rfl rfl ?_
      refine WL.val (OpVal.opv rfl) rfl rfl rfl ?_
      refine WL.pass rfl rfl rfl ?_
      refine WL.pass rfl rfl rfl ?_
      refine WL.pass rfl rfl rfl ?_
      refine WL.pass rfl rfl rfl ?_
      refine WL.val (OpVal.opv rfl) rfl rfl rfl ?_
      refine WL.val (OpVal.opv rfl) rfl rfl rfl ?_
      refine WL.nil ?_
      refine Kseq.go ?_
      (refine W.ret ?_; skip; refine ⟨.inl rfl, [_], h, ⟨.tmp rfl, trivial⟩, (by repeat (first | exact .head _ | refine .tail _ ?_)), ?_⟩; exact congrArg Value.bool (by first | (simp [womanBad, -List.getD_eq_getElem?_getD]; done) | (simp_all [-List.getD_eq_getElem?_getD]; done) | (simp [womanBad, -List.getD_eq_getElem?_getD]; omega) | (rw [Bool.eq_iff_iff]; simp [womanBad, -List.getD_eq_getElem?_getD]; omega) | (simp [womanBad, -List.getD_eq_getElem?_getD] at *; omega)))
  · refine WL.pass rfl rfl rfl ?_
    refine WL.pass rfl rfl rfl ?_
    refine WL.pass rfl rfl rfl ?_
    refine WL.pass rfl rfl rfl ?_
    refine WL.val (OpVal.opv rfl) rfl rfl rfl ?_
    refine WL.val (OpVal.opv rfl) rfl rfl rfl ?_
    refine WL.pass rfl rfl rfl ?_
    refine WL.pass rfl rfl rfl ?_
    refine WL.pass rfl rfl rfl ?_
    refine WL.pass rfl rfl rfl ?_
    refine WL.pass rfl rfl rfl ?_
    refine WL.pass rfl rfl rfl ?_
    refine WL.pass rfl rfl rfl ?_
    refine WL.val (OpVal.opv rfl) rfl rfl rfl ?_
    refine WL.val (OpVal.opv rfl) rfl rfl rfl ?_
    refine WL.pass rfl rfl rfl ?_
    refine WL.pass rfl rfl rfl ?_
    refine WL.pass rfl rfl rfl ?_
    refine WL.pass rfl rfl rfl ?_
    refine WL.val (OpVal.opv rfl) rfl rfl rfl ?_
    refine WL.val (OpVal.opv rfl) rfl rfl rfl ?_
    refine WL.nil ?_
    refine Kseq.go ?_
    (refine W.ret ?_; skip; refine ⟨.inl rfl, [_], h, ⟨.tmp rfl, trivial⟩, (by repeat (first | exact .head _ | refine .tail _ ?_)), ?_⟩; exact congrArg Value.bool (by first | (simp [womanBad, -List.getD_eq_getElem?_getD]; done) | (simp_all [-List.getD_eq_getElem?_getD]; done) | (simp [womanBad, -List.getD_eq_getElem?_getD]; omega) | (rw [Bool.eq_iff_iff]; simp [womanBad, -List.getD_eq_getElem?_getD]; omega) | (simp [womanBad, -List.getD_eq_getElem?_getD] at *; omega)))

/-- piece: whether one is valid -/
theorem piece_any {h : Mem} {v lv : Value} {t : Table} {p : Piece} (hv : IsTable h v t) (hs : Sm t) (hl : IsInts h lv p.marks) (hm : p.marks.length ≤ 50) : FnV Try.prog 41 #[v, .agg #[lv, vi p.bundle]] h (.bool (!pieceBadP t p)) := by
  have hv' := hv
  obtain ⟨wv, pv, f, rfl, hW, hP, hM⟩ := hv
  have hs' := hs
  obtain ⟨hs1, hs2, hs3⟩ := hs
  refine FnR.val ?_
  refine FnR.of_W (n := 47) Try.func41 rfl rfl (Nat.le_of_ble_eq_true rfl) fun c hr hD hF => ?_
  refine W.seq ?_
  refine W.region ?_
  refine WL.box rfl rfl rfl rfl (fun b2 => ?_)
  refine WL.box rfl rfl rfl rfl (fun b3 => ?_)
  refine WL.val (OpVal.opv rfl) rfl rfl rfl ?_
  refine WL.nil ?_
  refine Kseq.go (W.seq (W.seq ?_))
  skip
  refine W.region ?_
  refine WL.val (OpVal.fieldAddrB rfl) rfl rfl rfl ?_
  refine WL.val (OpVal.loadB rfl (.head _) rfl) rfl rfl rfl ?_
  refine WL.val (OpVal.len rfl (by assumption)) rfl rfl rfl ?_
  refine WL.val (OpVal.opv rfl) rfl rfl rfl ?_
  refine WL.nil ?_
  refine Kseq.go (W.block ?_)
  refine W.loopC (σ := Nat) (fun k => [(2, .pointer (some ⟨b2, 0, none⟩)), (3, .pointer (some ⟨b3, 0, none⟩)), (8, lv), (9, .int .i64 (p.marks.length : Int)), (10, .int .i64 (k : Int))]) (fun k => k ≤ p.marks.length ∧ ∀ i, i < k → markBad p.marks i = false) (fun k => p.marks.length - k) 0 ⟨rfl, rfl, rfl, rfl, rfl, trivial⟩ ⟨Nat.zero_le _, fun i hi => absurd hi (Nat.not_lt_zero _)⟩ ?_
  rintro k ⟨hk, hall⟩
  refine W.seq ?_
  refine W.region ?_
  refine WL.val (OpVal.opv rfl) rfl rfl rfl ?_
  refine WL.nil ?_
  refine Kseq.go (W.seq ?_)
  refine W.condD rfl rfl (fun hlt => ?_) (fun hge => ?_)
  · have e : ((k : Int) - 1).toNat = k - 1 := by omega
    refine W.skip (Kseq.go (W.seq (W.block (W.seq ?_))))
    refine W.region ?_
    refine WL.val (OpVal.opv rfl) rfl rfl rfl ?_
    refine WL.val (OpVal.indexAddrN rfl rfl (by assumption) (by omega)) rfl rfl rfl ?_
    refine WL.val (OpVal.loadE rfl (by assumption) (by repeat (first | exact .head _ | refine .tail _ ?_)) (by omega) (by omega)) rfl rfl rfl ?_
    refine WL.val (OpVal.opv rfl) rfl rfl rfl ?_
    refine WL.val (OpVal.opv rfl) rfl rfl rfl ?_
    refine WL.nil ?_
    refine Kseq.go (W.seq ?_)
    refine W.toS [(2, .pointer (some ⟨b2, 0, none⟩)), (3, .pointer (some ⟨b3, 0, none⟩)), (8, lv), (9, .int .i64 (p.marks.length : Int)), (10, .int .i64 (k : Int)), (31, .bool (markBad p.marks k))] ?_ ?_
    · skip
      refine W.region ?_
      refine WL.val (OpVal.opv rfl) rfl rfl rfl ?_
      refine WL.val (OpVal.call rfl (fun m hm => mark_any _)) rfl rfl rfl ?_
      refine WL.val (OpVal.opv rfl) rfl rfl rfl ?_
      refine WL.val (OpVal.opv rfl) rfl rfl rfl ?_
      refine WL.splitN rfl rfl (fun g18 => ?_) (fun g18 => ?_)
      · refine WL.pass rfl rfl rfl ?_
        refine WL.pass rfl rfl rfl ?_
        refine WL.pass rfl rfl rfl ?_
        refine WL.pass rfl rfl rfl ?_
        refine WL.pass rfl rfl rfl ?_
        refine WL.pass rfl rfl rfl ?_
        refine WL.pass rfl rfl rfl ?_
        refine WL.pass rfl rfl rfl ?_
        refine WL.pass rfl rfl rfl ?_
        refine WL.pass rfl rfl rfl ?_
        refine WL.pass rfl rfl rfl ?_
        refine WL.pass rfl rfl rfl ?_
        refine WL.val (OpVal.opv rfl) rfl rfl rfl ?_
        refine WL.nil ?_
        skip
        exact Keff.intro ⟨rfl, rfl, rfl, rfl, rfl, congrArg (fun b => some (Value.bool b)) (by first | (simp [markBad, -List.getD_eq_getElem?_getD]; done) | (simp_all [-List.getD_eq_getElem?_getD]; done) | (simp [markBad, -List.getD_eq_getElem?_getD]; omega) | (rw [Bool.eq_iff_iff]; simp [markBad, e, -List.getD_eq_getElem?_getD]; omega) | (simp [markBad, e, -List.getD_eq_getElem?_getD] at *; omega)), trivial⟩ (by simp) (by repeat (first | exact List.Sublist.refl _ | refine List.Sublist.cons _ ?_ | refine List.Sublist.cons_cons _ ?_))
      · refine WL.val (OpVal.opv rfl) rfl rfl rfl ?_
        refine WL.val (OpVal.opv rfl) rfl rfl rfl ?_
        refine WL.val (OpVal.opv rfl) rfl rfl rfl ?_
        refine WL.split rfl rfl (fun g21 => ?_) (fun g21 => ?_)
        · refine WL.val (OpVal.opv rfl) rfl rfl rfl ?_
          refine WL.val (OpVal.fieldAddrB rfl) rfl rfl rfl ?_
          refine WL.val (OpVal.loadB rfl (.head _) rfl) rfl rfl rfl ?_
          refine WL.val (OpVal.opv rfl) rfl rfl rfl ?_
          refine WL.val (OpVal.sub rfl rfl (by omega) (by omega)) rfl rfl rfl ?_
          refine WL.val (OpVal.indexAddr rfl rfl (by assumption) (by omega) (by omega)) rfl rfl rfl ?_
          refine WL.val (OpVal.loadE rfl (by assumption) (by repeat (first | exact .head _ | refine .tail _ ?_)) (by omega) (by omega)) rfl rfl rfl ?_
          refine WL.val (OpVal.opv rfl) rfl rfl rfl ?_
          refine WL.val (OpVal.opv rfl) rfl rfl rfl ?_
          refine WL.val (OpVal.opv rfl) rfl rfl rfl ?_
          refine WL.nil ?_
          skip
          exact Keff.intro ⟨rfl, rfl, rfl, rfl, rfl, congrArg (fun b => some (Value.bool b)) (by first | (simp [markBad, -List.getD_eq_getElem?_getD]; done) | (simp_all [-List.getD_eq_getElem?_getD]; done) | (simp [markBad, -List.getD_eq_getElem?_getD]; omega) | (rw [Bool.eq_iff_iff]; simp [markBad, e, -List.getD_eq_getElem?_getD]; omega) | (simp [markBad, e, -List.getD_eq_getElem?_getD] at *; omega)), trivial⟩ (by simp) (by repeat (first | exact List.Sublist.refl _ | refine List.Sublist.cons _ ?_ | refine List.Sublist.cons_cons _ ?_))
        · refine WL.pass rfl rfl rfl ?_
          refine WL.pass rfl rfl rfl ?_
          refine WL.pass rfl rfl rfl ?_
          refine WL.pass rfl rfl rfl ?_
          refine WL.pass rfl rfl rfl ?_
          refine WL.pass rfl rfl rfl ?_
          refine WL.pass rfl rfl rfl ?_
          refine WL.pass rfl rfl rfl ?_
          refine WL.val (OpVal.opv rfl) rfl rfl rfl ?_
          refine WL.val (OpVal.opv rfl) rfl rfl rfl ?_
          refine WL.nil ?_
          skip
          exact Keff.intro ⟨rfl, rfl, rfl, rfl, rfl, congrArg (fun b => some (Value.bool b)) (by first | (simp [markBad, -List.getD_eq_getElem?_getD]; done) | (simp_all [-List.getD_eq_getElem?_getD]; done) | (simp [markBad, -List.getD_eq_getElem?_getD]; omega) | (rw [Bool.eq_iff_iff]; simp [markBad, e, -List.getD_eq_getElem?_getD]; omega) | (simp [markBad, e, -List.getD_eq_getElem?_getD] at *; omega)), trivial⟩ (by simp) (by repeat (first | exact List.Sublist.refl _ | refine List.Sublist.cons _ ?_ | refine List.Sublist.cons_cons _ ?_))
    refine Kseq.go ?_
    refine W.cond rfl rfl (fun he => ?_) (fun hne => ?_)
    · refine W.seq ?_
      refine W.region ?_
      refine WL.val (OpVal.opv rfl) rfl rfl rfl ?_
      refine WL.nil ?_
      refine Kseq.go ?_
      refine W.ret ?_; refine Kblock.ret (Kseq.ret (Kloop.ret (Kblock.ret (Kseq.ret ?_)))); refine ⟨.inl rfl, [_], h, ⟨.tmp rfl, trivial⟩, (by repeat (first | exact .head _ | refine .tail _ ?_)), ?_⟩
      exact congrArg Value.bool (by have h3 := ex_iff.2 ⟨k, (by omega : k < p.marks.length), he⟩; simp only [pieceBadP, h3, Bool.true_or, Bool.not_true])
    · refine W.skip (Kblock.normal (Kseq.go ?_))
      refine W.region ?_
      refine WL.val (OpVal.incr rfl (by omega)) rfl rfl rfl ?_
      refine WL.val (OpVal.opv rfl) rfl rfl rfl ?_
      refine WL.nil ?_
      skip
      refine Kloop.nextC (k + 1) ⟨by omega, fun j hj => ?_⟩ (by omega) ⟨rfl, rfl, rfl, rfl, rfl, trivial⟩ (by simp) (by repeat (first | exact List.Sublist.refl _ | refine List.Sublist.cons _ ?_ | refine List.Sublist.cons_cons _ ?_))
      rcases Nat.lt_succ_iff_lt_or_eq.1 hj with h3 | rfl
      · exact hall j h3
      · exact hne
  · have h3 : ex p.marks.length (markBad p.marks) = false := ex_no.2 fun j hj => hall j (by omega)
    refine W.exit (Kseq.exit (Kloop.exit (Kblock.here (Kseq.go (W.seq ?_)))))
    skip
    refine W.region ?_
    refine WL.val (OpVal.fieldAddrB rfl) rfl rfl rfl ?_
    refine WL.val (OpVal.loadB rfl (.head _) rfl) rfl rfl rfl ?_
    refine WL.val (OpVal.fieldAddrB rfl) rfl rfl rfl ?_
    refine WL.val (OpVal.loadB rfl (.tail _ (.head _)) rfl) rfl rfl rfl ?_
    refine WL.val (OpVal.len rfl (by assumption)) rfl rfl rfl ?_
    refine WL.val (OpVal.sub rfl rfl (by omega) (by omega)) rfl rfl rfl ?_
    refine WL.val (OpVal.call rfl (fun m hm => within_any _ _ _)) rfl rfl rfl ?_
    refine WL.val (OpVal.opv rfl) rfl rfl rfl ?_
    refine WL.split rfl rfl (fun g40 => ?_) (fun g40 => ?_)
    · refine WL.val (OpVal.loadBW rfl (.tail _ (.head _)) rfl) rfl rfl rfl ?_
      refine WL.val (OpVal.loadBW rfl (.head _) rfl) rfl rfl rfl ?_
      refine WL.abs (OpAbs.call rfl (fun m hm => of_any (hv'.le (by repeat (first | exact hm.1 | replace hm := hm.2))) hs' (hl.le (by repeat (first | exact hm.1 | replace hm := hm.2))))) rfl rfl rfl ?_
      rintro m43 v43 h43
      refine WL.val (OpVal.len rfl (by assumption)) rfl rfl rfl ?_
      refine WL.val (OpVal.opv rfl) rfl rfl rfl ?_
      refine WL.val (OpVal.opv rfl) rfl rfl rfl ?_
      refine WL.val (OpVal.opv rfl) rfl rfl rfl ?_
      refine WL.nil ?_
      refine Kseq.go ?_
      (refine W.ret ?_; skip; refine ⟨.inl rfl, [_], h, ⟨.tmp rfl, trivial⟩, (by repeat (first | exact .head _ | refine .tail _ ?_)), ?_⟩; exact congrArg Value.bool (by first | (simp [pieceBadP, h3, -List.length_eq_zero_iff, -List.getD_eq_getElem?_getD]; done) | (simp_all [-List.getD_eq_getElem?_getD]; done) | (simp [pieceBadP, h3, -List.length_eq_zero_iff, -List.getD_eq_getElem?_getD]; omega) | (rw [Bool.eq_iff_iff]; simp [pieceBadP, h3, -List.length_eq_zero_iff, -List.getD_eq_getElem?_getD]; omega) | (simp [pieceBadP, h3, -List.length_eq_zero_iff, -List.getD_eq_getElem?_getD] at *; omega)))
    · refine WL.pass rfl rfl rfl ?_
      refine WL.pass rfl rfl rfl ?_
      refine WL.pass rfl rfl rfl ?_
      refine WL.pass rfl rfl rfl ?_
      refine WL.pass rfl rfl rfl ?_
      refine WL.val (OpVal.opv rfl) rfl rfl rfl ?_
      refine WL.val (OpVal.opv rfl) rfl rfl rfl ?_
      refine WL.nil ?_
      refine Kseq.go ?_
      (refine W.ret ?_; skip; refine ⟨.inl rfl, [_], h, ⟨.tmp rfl, trivial⟩, (by repeat (first | exact .head _ | refine .tail _ ?_)), ?_⟩; exact congrArg Value.bool (by first | (simp [pieceBadP, h3, -List.length_eq_zero_iff, -List.getD_eq_getElem?_getD]; done) | (simp_all [-List.getD_eq_getElem?_getD]; done) | (simp [pieceBadP, h3, -List.length_eq_zero_iff, -List.getD_eq_getElem?_getD]; omega) | (rw [Bool.eq_iff_iff]; simp [pieceBadP, h3, -List.length_eq_zero_iff, -List.getD_eq_getElem?_getD]; omega) | (simp [pieceBadP, h3, -List.length_eq_zero_iff, -List.getD_eq_getElem?_getD] at *; omega)))

/-- slices.Min -/
theorem min_any {h : Mem} {v : Value} {xs : List Int} (hv : IsInts h v xs) (h0 : 0 < xs.length) : FnV Try.prog 62 #[v] h (.int .i64 (minTo xs (xs.length - 1))) := by
  have hlen := hv.bd
  refine FnR.val ?_
  refine FnR.of_W (n := 25) Try.func62 rfl rfl (Nat.le_of_ble_eq_true rfl) fun c hr hD hF => ?_
  refine W.seq ?_
  refine W.region ?_
  refine WL.val (OpVal.opv rfl) rfl rfl rfl ?_
  refine WL.nil ?_
  refine Kseq.go (W.seq (W.seq ?_))
  skip
  refine W.region ?_
  refine WL.val (OpVal.opv rfl) rfl rfl rfl ?_
  refine WL.val (OpVal.len rfl (by assumption)) rfl rfl rfl ?_
  refine WL.val (OpVal.opv rfl) rfl rfl rfl ?_
  refine WL.nil ?_
  refine Kseq.go ?_
  refine W.condD rfl rfl (fun he => absurd he (by omega)) (fun hne => ?_)
  refine W.skip (Kseq.go (W.seq ?_))
  refine W.region ?_
  refine WL.val (OpVal.opv rfl) rfl rfl rfl ?_
  refine WL.val (OpVal.indexAddr rfl rfl (by assumption) (by omega) (by omega)) rfl rfl rfl ?_
  refine WL.val (OpVal.loadE rfl (by assumption) (by repeat (first | exact .head _ | refine .tail _ ?_)) (by omega) (by omega)) rfl rfl rfl ?_
  refine WL.val (OpVal.opv rfl) rfl rfl rfl ?_
  refine WL.nil ?_
  refine Kseq.go (W.seq (W.seq ?_))
  skip
  refine W.region ?_
  refine WL.val (OpVal.opv rfl) rfl rfl rfl ?_
  refine WL.nil ?_
  refine Kseq.go (W.block ?_)
  refine W.loopC (σ := Nat) (fun k => [(0, v), (3, .int .i64 (minTo xs k)), (4, .int .i64 ((k + 1 : Nat) : Int))]) (fun k => k + 1 ≤ xs.length) (fun k => xs.length - k) 0 ⟨rfl, rfl, rfl, trivial⟩ (by omega) ?_
  intro k hk
  refine W.seq (W.seq ?_)
  refine W.region ?_
  refine WL.val (OpVal.opv rfl) rfl rfl rfl ?_
  refine WL.val (OpVal.opv rfl) rfl rfl rfl ?_
  refine WL.val (OpVal.len rfl (by assumption)) rfl rfl rfl ?_
  refine WL.val (OpVal.opv rfl) rfl rfl rfl ?_
  refine WL.nil ?_
  refine Kseq.go ?_
  refine W.condD rfl rfl (fun hlt => ?_) (fun hge => ?_)
  · refine W.skip (Kseq.go (W.seq (W.block ?_)))
    refine W.region ?_
    refine WL.val (OpVal.opv rfl) rfl rfl rfl ?_
    refine WL.val (OpVal.opv rfl) rfl rfl rfl ?_
    refine WL.val (OpVal.opv rfl) rfl rfl rfl ?_
    refine WL.val (OpVal.indexAddrN rfl rfl (by assumption) (by omega)) rfl rfl rfl ?_
    refine WL.val (OpVal.loadE rfl (by assumption) (by repeat (first | exact .head _ | refine .tail _ ?_)) (by omega) (by omega)) rfl rfl rfl ?_
    refine WL.val (OpVal.min2 rfl rfl) rfl rfl rfl ?_
    refine WL.val (OpVal.opv rfl) rfl rfl rfl ?_
    refine WL.nil ?_
    refine Kblock.normal (Kseq.go ?_)
    skip
    refine W.region ?_
    refine WL.val (OpVal.opv rfl) rfl rfl rfl ?_
    refine WL.val (OpVal.incr rfl (by omega)) rfl rfl rfl ?_
    refine WL.val (OpVal.opv rfl) rfl rfl rfl ?_
    refine WL.nil ?_
    skip
    exact Kloop.nextC (k + 1) (by omega) (by omega) ⟨rfl, rfl, rfl, trivial⟩ (by simp) (.refl _)
  · refine W.exit (Kseq.exit (Kloop.exit (Kblock.here (Kseq.go (W.seq ?_)))))
    have : k = xs.length - 1 := by omega
    subst this
    skip
    refine W.region ?_
    refine WL.val (OpVal.opv rfl) rfl rfl rfl ?_
    refine WL.val (OpVal.opv rfl) rfl rfl rfl ?_
    refine WL.nil ?_
    refine Kseq.go ?_
    refine W.ret ?_; skip; refine ⟨.inl rfl, [_], h, ⟨.tmp rfl, trivial⟩, (by repeat (first | exact .head _ | refine .tail _ ?_)), ?_⟩
    rfl

/-- minimum, of two -/
theorem minimum_any {h : Mem} {v : Value} {a b : Int} (hv : IsInts h v [a, b]) : FnV Try.prog 46 #[v] h (.int .i64 (min a b)) := by
  refine FnR.val ?_
  refine FnR.of_W (n := 5) Try.func46 rfl rfl (Nat.le_of_ble_eq_true rfl) fun c hr hD hF => ?_
  refine W.seq ?_
  refine W.region ?_
  refine WL.val (OpVal.opv rfl) rfl rfl rfl ?_
  refine WL.nil ?_
  refine Kseq.go (W.seq ?_)
  skip
  refine W.region ?_
  refine WL.val (OpVal.opv rfl) rfl rfl rfl ?_
  refine WL.val (OpVal.call rfl (fun m hm => min_any (hv.le (by repeat (first | exact hm.1 | replace hm := hm.2))) (by simp))) rfl rfl rfl ?_
  refine WL.val (OpVal.opv rfl) rfl rfl rfl ?_
  refine WL.nil ?_
  refine Kseq.go ?_
  refine W.ret ?_; skip; refine ⟨.inl rfl, [_], h, ⟨.tmp rfl, trivial⟩, (by repeat (first | exact .head _ | refine .tail _ ?_)), ?_⟩
  rfl

/-- has -/
theorem rangeHas_any {h : Mem} (lo hi n : Int) : FnV Try.prog 56 #[.agg #[vi lo, vi hi], .int .i64 n] h (.bool (decide (lo ≤ n ∧ n ≤ hi))) := by
  refine FnR.val ?_
  refine FnR.of_W (n := 11) Try.func56 rfl rfl (Nat.le_of_ble_eq_true rfl) fun c hr hD hF => ?_
  refine W.seq ?_
  refine W.region ?_
  refine WL.box rfl rfl rfl rfl (fun b2 => ?_)
  refine WL.val (OpVal.opv rfl) rfl rfl rfl ?_
  refine WL.nil ?_
  refine Kseq.go (W.seq ?_)
  skip
  refine W.region ?_
  refine WL.val (OpVal.opv rfl) rfl rfl rfl ?_
  refine WL.val (OpVal.fieldAddrB rfl) rfl rfl rfl ?_
  refine WL.val (OpVal.loadB rfl (.head _) rfl) rfl rfl rfl ?_
  refine WL.val (OpVal.fieldAddrB rfl) rfl rfl rfl ?_
  refine WL.val (OpVal.loadB rfl (.head _) rfl) rfl rfl rfl ?_
  refine WL.val (OpVal.call rfl (fun m hm => within_any _ _ _)) rfl rfl rfl ?_
  refine WL.val (OpVal.opv rfl) rfl rfl rfl ?_
  refine WL.nil ?_
  refine Kseq.go ?_
  refine W.ret ?_; skip; refine ⟨.inl rfl, [_], h, ⟨.tmp rfl, trivial⟩, (by repeat (first | exact .head _ | refine .tail _ ?_)), ?_⟩
  rfl

/-- wider -/
theorem wider_any {h : Mem} (lo hi n : Int) : FnV Try.prog 52 #[.agg #[vi lo, vi hi], .int .i64 n] h (.agg #[vi (min lo n), vi (max hi n)]) := by
  refine FnR.val ?_
  refine FnR.of_W (n := 15) Try.func52 rfl rfl (Nat.le_of_ble_eq_true rfl) fun c hr hD hF => ?_
  refine W.seq ?_
  refine W.region ?_
  refine WL.box rfl rfl rfl rfl (fun b2 => ?_)
  refine WL.alloc rfl rfl rfl (fun b4 => ?_)
  refine WL.nil ?_
  refine Kseq.go (W.seq ?_)
  skip
  refine W.draw 9 (by kernel_rfl) (by kernel_rfl) (by kernel_rfl) rfl ?_
  refine DJ.val [] (OpVal.fieldAddrB rfl) rfl rfl rfl rfl ?_
  refine DJ.val [] (OpVal.loadB rfl (.tail _ (.head _)) rfl) rfl rfl rfl rfl ?_
  refine DJ.val [] (OpVal.opv rfl) rfl rfl rfl rfl ?_
  refine DJ.abs (A := fun m v => IsInts m v [lo, n]) [] (OpAbs.mono (OpAbs.lit [vi lo, vi n] rfl (Nat.le_of_ble_eq_true rfl) rfl rfl (by simp [Value.cells]) (Nat.le_of_ble_eq_true rfl) rfl (by simp [Value.oneCell'])) (fun m' v' h' => ints_lit (xs := [lo, n]) h'.1)) rfl rfl rfl rfl ?_
  refine DJ.val [(8, fun m v => IsInts m v [lo, n])] (fun m8 v8 h8 => OpVal.call rfl (fun m hm => minimum_any (h8.le (by repeat (first | exact hm.1 | replace hm := hm.2))))) rfl rfl rfl rfl ?_ (hG := ⟨(by repeat (first | exact .head _ | refine .tail _ ?_)), rfl, trivial⟩)
  refine DJ.val [] (OpVal.fieldAddrB rfl) rfl rfl rfl rfl ?_
  refine DJ.val [] (OpVal.loadB rfl (.tail _ (.head _)) rfl) rfl rfl rfl rfl ?_
  refine DJ.val [] (OpVal.opv rfl) rfl rfl rfl rfl ?_
  refine DJ.val [] (OpVal.max2 rfl rfl) rfl rfl rfl rfl ?_
  refine DJ.nil ?_
  rintro m8 v8 h8
  refine WL.val (OpVal.build2 rfl rfl) rfl rfl rfl ?_
  refine WL.store [_, _] rfl (.head _) rfl rfl rfl (Nat.le_of_ble_eq_true rfl) (by first | (simp [Value.cells, Value.oneCell']; done) | exact IsArr.ones hW (by omega) | exact IsArr.ones hP (by omega) | exact IsArr.ones hS (by omega) | exact IsArr.ones hH (by omega) | exact IsArr.ones hL (by omega) | exact IsArr.ones hB (by omega) | exact IsArr.ones hT (by omega) | exact IsArr.ones hm (by omega)) rfl ?_
  refine WL.nil ?_
  refine Kseq.go ?_
  refine W.ret ?_; skip
  exact ⟨.inl rfl, [_], h, ⟨.agg inferInstance inferInstance rfl (.head _) rfl, trivial⟩, (by repeat (first | exact .head _ | refine .tail _ ?_)), rfl⟩
end Go.Proofs.Ytbmohbeocnfefaa

/- The program's functions of chapter 3, on: their contracts. -/
namespace Go.Proofs.Ytbmohbeocnfefaa
open Go Go.Eng Go.RowKit

/-- Owners in an array. -/
abbrev ownV (l : List Int) : Value := .agg ((pad l).map vi).toArray

/-- own -/
theorem ownP_any {h : Mem} {v : Value} {t : Table} {l : List Int} (hv : IsTable h v t) (hs : Sm t) (ho : Owns t l) : FnR Try.prog 39 #[v, ownV l] h (fun m r => IsInts m r (ownList t l)) := by
  obtain ⟨wv, pv, f, rfl, hW, hP, hM⟩ := hv
  obtain ⟨hs1, hs2, hs3⟩ := hs
  obtain ⟨hol, ho7, how⟩ := ho
  refine FnR.of_W (n := 27) Try.func39 rfl rfl (Nat.le_of_ble_eq_true rfl) fun c hr hD hF => ?_
  refine W.seq ?_
  refine W.region ?_
  refine WL.box rfl rfl rfl rfl (fun b2 => ?_)
  refine WL.box rfl rfl rfl rfl (fun b3 => ?_)
  refine WL.val (OpVal.opv rfl) rfl rfl rfl ?_
  refine WL.nil ?_
  refine Kseq.go (W.seq ?_)
  skip
  refine W.region ?_
  refine WL.val (OpVal.fieldAddrB rfl) rfl rfl rfl ?_
  refine WL.val (OpVal.loadB rfl (.tail _ (.head _)) rfl) rfl rfl rfl ?_
  refine WL.val (OpVal.len rfl (by assumption)) rfl rfl rfl ?_
  refine WL.make rfl rfl (by omega) (by unfold maxLen; omega) rfl rfl rfl (fun b10 => ?_)
  refine WL.val (OpVal.opv rfl) rfl rfl rfl ?_
  refine WL.nil ?_
  refine Kseq.go (W.seq (W.seq ?_))
  generalize hov : Value.slice (some ⟨b10, 0, none⟩) t.women.length t.women.length = ov
  skip
  refine W.region ?_
  refine WL.val (OpVal.fieldAddrB rfl) rfl rfl rfl ?_
  refine WL.val (OpVal.loadB rfl (.tail _ (.tail _ (.head _))) rfl) rfl rfl rfl ?_
  refine WL.val (OpVal.len rfl (by assumption)) rfl rfl rfl ?_
  refine WL.val (OpVal.opv rfl) rfl rfl rfl ?_
  refine WL.nil ?_
  refine Kseq.go (W.block ?_)
  refine W.loopA (σ := Nat) (fun k => [(2, .pointer (some ⟨b2, 0, none⟩)), (3, .pointer (some ⟨b3, 0, none⟩)), (5, ov), (13, .int .i64 (t.pieces.length : Int)), (14, .int .i64 (k : Int))]) (fun k => .row 3 1 ov t.women.length ((ownTo t l k).map vi)) (fun k => k ≤ t.pieces.length) (fun k => t.pieces.length - k) 0 ⟨rfl, rfl, rfl, rfl, rfl, trivial⟩ ?_ (Nat.zero_le _) ?_
  · rw [ownTo_zero]
    simp [toList_madeCells_one, Value.cells]
  intro k hk
  refine W.seq ?_
  refine W.region ?_
  refine WL.val (OpVal.opv rfl) rfl rfl rfl ?_
  refine WL.nil ?_
  refine Kseq.go (W.seq ?_)
  refine W.condD rfl rfl (fun hlt => ?_) (fun hge => ?_)
  · have hkl : k < l.length := by omega
    have hw := how k hkl
    obtain ⟨x, hx⟩ : ∃ x : Nat, l.getD k 0 = x := ⟨(l.getD k 0).toNat, by omega⟩
    have hxW : x < t.women.length := by omega
    have hcb := cnt_le k fun i => decide (l.getD i 0 = (x : Int))
    refine W.skip (Kseq.go (W.seq (W.block (W.seq ?_))))
    refine W.region ?_
    refine WL.val (OpVal.opv rfl) rfl rfl rfl ?_
    refine WL.val (OpVal.opv rfl) rfl rfl rfl ?_
    refine WL.nil ?_
    refine Kseq.go ?_
    skip
    refine W.region ?_
    refine WL.val (OpVal.opv rfl) rfl rfl rfl ?_
    refine WL.val (OpVal.opv rfl) rfl rfl rfl ?_
    refine WL.val (OpVal.indexAddrB rfl rfl (by omega)) rfl rfl rfl ?_
    refine WL.val ((OpVal.loadB rfl (.tail _ (.head _)) (pad_at hkl)).cast (congrArg (Value.int .i64) hx)) rfl rfl rfl ?_
    refine WL.val (OpVal.indexAddrR rfl rfl (by repeat (first | exact .head _ | refine .tail _ ?_)) (by omega)) rfl rfl rfl ?_
    refine WL.val (OpVal.loadR rfl (.head _) (by omega) (by omega) (ownTo_get hxW)) rfl rfl rfl ?_
    refine WL.val (OpVal.incr rfl (by omega)) rfl rfl rfl ?_
    refine WL.val (OpVal.indexAddrR rfl rfl (by repeat (first | exact .head _ | refine .tail _ ?_)) (by omega)) rfl rfl rfl ?_
    (refine WL.storeR rfl (.head _) rfl rfl rfl (by omega) (Nat.le_refl _) (by simp [Value.cells, Value.oneCell']) ?_)
    refine WL.nil ?_
    refine Kblock.normal (Kseq.go ?_)
    skip
    refine W.region ?_
    refine WL.val (OpVal.incr rfl (by omega)) rfl rfl rfl ?_
    refine WL.val (OpVal.opv rfl) rfl rfl rfl ?_
    refine WL.nil ?_
    skip
    refine Kloop.next (k + 1) (by omega) (by omega) ⟨rfl, rfl, rfl, rfl, rfl, trivial⟩ (by simp) (sub_eq ?_)
    exact congrArg (fun xs => Res.row 3 1 ov t.women.length xs :: _) (ownTo_step hx hxW).symm
  · refine W.exit (Kseq.exit (Kloop.exit (Kblock.here (Kseq.go (W.seq ?_)))))
    have : k = l.length := by omega
    subst this
    refine W.freezeInts (xs := ownList t l) (by simp only [ir]; rw [show (ownList t l).length = t.women.length by simp [ownList]]; exact .head _) (fun b hb => (hF b hb).elim) fun mr hmr => ?_
    skip
    refine W.region ?_
    refine WL.val (OpVal.opv rfl) rfl rfl rfl ?_
    refine WL.val (OpVal.opv rfl) rfl rfl rfl ?_
    refine WL.nil ?_
    refine Kseq.go ?_
    refine W.ret ?_; skip; refine ⟨.inl rfl, [_], mr, ⟨.tmp rfl, trivial⟩, (by repeat (first | exact .head _ | refine .tail _ ?_)), ?_⟩
    exact hmr

/-- wrong -/
theorem wrong_any {h : Mem} {v : Value} {t : Table} {l : List Int} (hv : IsTable h v t) (hs : Sm t) (ho : Owns t l) : FnR Try.prog 37 #[v, ownV l] h (fun m r => IsInts m r (wrongP t l)) := by
  have hv' := hv
  have hs' := hs
  obtain ⟨wv, pv, f, rfl, hW, hP, hM⟩ := hv
  obtain ⟨hs1, hs2, hs3⟩ := hs
  have hl7 : l.length ≤ 7 := by have := ho.len; have := ho.seven; omega
  refine FnR.of_W (n := 31) Try.func37 rfl rfl (Nat.le_of_ble_eq_true rfl) fun c hr hD hF => ?_
  refine W.seq ?_
  refine W.region ?_
  refine WL.box rfl rfl rfl rfl (fun b2 => ?_)
  refine WL.box rfl rfl rfl rfl (fun b3 => ?_)
  refine WL.val (OpVal.opv rfl) rfl rfl rfl ?_
  refine WL.nil ?_
  refine Kseq.go (W.seq (W.seq ?_))
  skip
  refine W.region ?_
  refine WL.val (OpVal.loadBW rfl (.tail _ (.head _)) rfl) rfl rfl rfl ?_
  refine WL.val (OpVal.loadBW rfl (.head _) (by simp [Value.cells, pad_len hl7])) rfl rfl rfl ?_
  refine WL.abs (OpAbs.call rfl (fun m hm => ownP_any (hv'.le (by repeat (first | exact hm.1 | replace hm := hm.2))) hs' ho)) rfl rfl rfl ?_
  rintro m9 v9 h9
  refine WL.val (OpVal.len rfl (by assumption)) rfl rfl rfl ?_
  refine WL.val (OpVal.opv rfl) rfl rfl rfl ?_
  refine WL.nil ?_
  refine Kseq.go (W.block ?_)
  have hol : (ownList t l).length = t.women.length := by simp [ownList]
  refine W.nilRow 3 1 ?_
  let q : Nat → Bool := fun w => !rightP t l w
  refine W.loop (σ := Nat × Value) (fun s => [(2, .pointer (some ⟨b2, 0, none⟩)), (4, s.2), (9, v9), (10, .int .i64 (t.women.length : Int)), (11, .int .i64 (s.1 : Int))]) (fun _ => [m9, h]) (fun s => [ir 3 s.2 (sel s.1 q), .blk b3 _ 92, .blk b2 (Value.agg #[wv, pv, .int .i64 t.wrong]).cells 43]) (fun s => s.1 ≤ t.women.length) (fun s => t.women.length - s.1) (0, .slice none 0 0) ⟨rfl, rfl, rfl, by rw [← hol]; rfl, rfl, trivial⟩ (by simp) (.refl _) (Nat.zero_le _) ?_
  rintro ⟨k, a⟩ hk
  dsimp only at hk ⊢
  have hlen := sel_len k q
  refine W.seq ?_
  refine W.region ?_
  refine WL.val (OpVal.opv rfl) rfl rfl rfl ?_
  refine WL.nil ?_
  refine Kseq.go (W.seq ?_)
  refine W.condD rfl rfl (fun hlt => ?_) (fun hge => ?_)
  · have hget : (ownList t l).getD k 0 = (own l k : Nat) := by
      have : k < t.women.length := by omega
      simp [ownList, List.getD_eq_getElem?_getD, this]
    refine W.skip (Kseq.go (W.seq (W.block (W.seq ?_))))
    refine W.region ?_
    refine WL.val (OpVal.opv rfl) rfl rfl rfl ?_
    refine WL.val (OpVal.indexAddrN rfl rfl (by assumption) (by omega)) rfl rfl rfl ?_
    refine WL.val ((OpVal.loadE rfl h9 (by repeat (first | exact .head _ | refine .tail _ ?_)) (by omega) (by omega)).cast (congrArg (Value.int .i64) hget)) rfl rfl rfl ?_
    refine WL.val (OpVal.opv rfl) rfl rfl rfl ?_
    refine WL.val (OpVal.opv rfl) rfl rfl rfl ?_
    refine WL.nil ?_
    refine Kseq.go (W.seq ?_)
    skip
    refine W.region ?_
    refine WL.val (OpVal.fieldAddrB rfl) rfl rfl rfl ?_
    refine WL.val (OpVal.loadB rfl (.tail _ (.tail _ (.head _))) rfl) rfl rfl rfl ?_
    refine WL.val (OpVal.opv rfl) rfl rfl rfl ?_
    refine WL.val (OpVal.indexAddrN rfl rfl (by assumption) (by omega)) rfl rfl rfl ?_
    refine WL.val (OpVal.fieldAddrN rfl (by assumption) (by omega)) rfl rfl rfl ?_
    refine WL.val (OpVal.loadES rfl (by assumption) (by repeat (first | exact .head _ | refine .tail _ ?_)) (by omega) (by omega)) rfl rfl rfl ?_
    refine WL.val (OpVal.opv rfl) rfl rfl rfl ?_
    refine WL.val (OpVal.call rfl (fun m hm => rangeHas_any _ _ _)) rfl rfl rfl ?_
    refine WL.val (OpVal.opv rfl) rfl rfl rfl ?_
    refine WL.nil ?_
    refine Kseq.go ?_
    refine W.cond rfl rfl (fun he => ?_) (fun hne => ?_)
    · skip
      refine W.region ?_
      refine WL.val (OpVal.opv rfl) rfl rfl rfl ?_
      refine WL.val (OpVal.opv rfl) rfl rfl rfl ?_
      refine WL.abs (OpAbs.lit [_] rfl (Nat.le_of_ble_eq_true rfl) rfl rfl (by simp [Value.cells]) (Nat.le_of_ble_eq_true rfl) rfl (by first | (simp [Value.oneCell']; done) | exact List.all_eq_true.1 rfl)) rfl rfl rfl ?_
      rintro m27 _ ⟨hc27, a27, rfl⟩
      refine WL.appInt rfl (fun _ => (.head _)) rfl (by assumption) (by repeat (first | exact .head _ | refine .tail _ ?_)) (by omega) rfl rfl rfl ?_
      intro a28 cp28
      refine WL.val (OpVal.opv rfl) rfl rfl rfl ?_
      refine WL.nil ?_
      refine Kblock.normal (Kseq.go ?_)
      skip
      refine W.region ?_
      refine WL.val (OpVal.incr rfl (by omega)) rfl rfl rfl ?_
      refine WL.val (OpVal.opv rfl) rfl rfl rfl ?_
      refine WL.nil ?_
      skip
      exact Kloop.next (k + 1, _) (by omega) (by omega) ⟨rfl, rfl, rfl, rfl, rfl, trivial⟩ (by simp) (sub_yes (q := q) he)
    · refine W.skip (Kblock.normal (Kseq.go ?_))
      skip
      refine W.region ?_
      refine WL.val (OpVal.incr rfl (by omega)) rfl rfl rfl ?_
      refine WL.val (OpVal.opv rfl) rfl rfl rfl ?_
      refine WL.nil ?_
      skip
      exact Kloop.next (k + 1, a) (by omega) (by omega) ⟨rfl, rfl, rfl, rfl, rfl, trivial⟩ (by simp) (sub_no (q := q) hne)
  · refine W.exit (Kseq.exit (Kloop.exit (Kblock.here (Kseq.go (W.seq ?_)))))
    have : k = t.women.length := by omega
    subst this
    refine W.freezeInts (.head _) (fun b hb => (hF b hb).elim) fun mr hmr => ?_
    skip
    refine W.region ?_
    refine WL.val (OpVal.opv rfl) rfl rfl rfl ?_
    refine WL.val (OpVal.opv rfl) rfl rfl rfl ?_
    refine WL.nil ?_
    refine Kseq.go ?_
    refine W.ret ?_; skip; refine ⟨.inl rfl, [_], mr, ⟨.tmp rfl, trivial⟩, (by repeat (first | exact .head _ | refine .tail _ ?_)), ?_⟩
    exact hmr

/-- astray -/
theorem astrayP_any {h : Mem} {v : Value} {t : Table} {l : List Int} (hv : IsTable h v t) (hs : Sm t) (ho : Owns t l) : FnR Try.prog 38 #[v, ownV l] h (fun m r => IsInts m r (astray t l)) := by
  obtain ⟨wv, pv, f, rfl, hW, hP, hM⟩ := hv
  obtain ⟨hs1, hs2, hs3⟩ := hs
  obtain ⟨hol, ho7, how⟩ := ho
  refine FnR.of_W (n := 27) Try.func38 rfl rfl (Nat.le_of_ble_eq_true rfl) fun c hr hD hF => ?_
  refine W.seq ?_
  refine W.region ?_
  refine WL.box rfl rfl rfl rfl (fun b2 => ?_)
  refine WL.box rfl rfl rfl rfl (fun b3 => ?_)
  refine WL.val (OpVal.opv rfl) rfl rfl rfl ?_
  refine WL.nil ?_
  refine Kseq.go (W.seq (W.seq ?_))
  skip
  refine W.region ?_
  refine WL.val (OpVal.fieldAddrB rfl) rfl rfl rfl ?_
  refine WL.val (OpVal.loadB rfl (.tail _ (.head _)) rfl) rfl rfl rfl ?_
  refine WL.val (OpVal.len rfl (by assumption)) rfl rfl rfl ?_
  refine WL.val (OpVal.opv rfl) rfl rfl rfl ?_
  refine WL.nil ?_
  refine Kseq.go (W.block ?_)
  refine W.nilRow 3 1 ?_
  let q : Nat → Bool := fun i => !decide ((t.pieces.getD i default).bundle = l.getD i 0)
  refine W.loopA (σ := Nat × Value) (fun s => [(2, .pointer (some ⟨b2, 0, none⟩)), (3, .pointer (some ⟨b3, 0, none⟩)), (4, s.2), (8, pv), (9, .int .i64 (t.pieces.length : Int)), (10, .int .i64 (s.1 : Int))]) (fun s => ir 3 s.2 (sel s.1 q)) (fun s => s.1 ≤ t.pieces.length) (fun s => t.pieces.length - s.1) (0, .slice none 0 0) ⟨rfl, rfl, rfl, rfl, rfl, rfl, trivial⟩ rfl (Nat.zero_le _) ?_
  rintro ⟨k, a⟩ hk
  dsimp only at hk ⊢
  have hlen := sel_len k q
  refine W.seq ?_
  refine W.region ?_
  refine WL.val (OpVal.opv rfl) rfl rfl rfl ?_
  refine WL.nil ?_
  refine Kseq.go (W.seq ?_)
  refine W.condD rfl rfl (fun hlt => ?_) (fun hge => ?_)
  · have hkl : k < l.length := by omega
    have hMk := hM k (by omega)
    refine W.skip (Kseq.go (W.seq (W.block (W.seq ?_))))
    refine W.region ?_
    refine WL.val (OpVal.opv rfl) rfl rfl rfl ?_
    refine WL.val (OpVal.indexAddrN rfl rfl (by assumption) (by omega)) rfl rfl rfl ?_
    refine WL.val (OpVal.loadEA rfl (by assumption) (by repeat (first | exact .head _ | refine .tail _ ?_)) (by omega)) rfl rfl rfl ?_
    refine WL.alloc rfl rfl rfl (fun b6 => ?_)
    refine WL.val (OpVal.opv rfl) rfl rfl rfl ?_
    refine WL.store [_, _] rfl (.head _) rfl rfl rfl (Nat.le_of_ble_eq_true rfl) (by first | (simp [Value.cells, Value.oneCell']; done) | exact IsArr.ones hW (by omega) | exact IsArr.ones hP (by omega) | exact IsArr.ones hS (by omega) | exact IsArr.ones hH (by omega) | exact IsArr.ones hL (by omega) | exact IsArr.ones hB (by omega) | exact IsArr.ones hT (by omega) | exact IsArr.ones hm (by omega)) rfl ?_
    refine WL.nil ?_
    refine Kseq.go (W.seq ?_)
    skip
    refine W.draw 5 (by kernel_rfl) (by kernel_rfl) (by kernel_rfl) rfl ?_
    refine DJ.val [] (OpVal.fieldAddrB rfl) rfl rfl rfl rfl ?_
    refine DJ.val [] (OpVal.loadB rfl (.head _) rfl) rfl rfl rfl rfl ?_
    refine DJ.val [] (OpVal.opv rfl) rfl rfl rfl rfl ?_
    refine DJ.val [] (OpVal.indexAddrB rfl rfl (by omega)) rfl rfl rfl rfl ?_
    refine DJ.val [] (OpVal.loadB rfl (.tail _ (.tail _ (.head _))) (pad_at hkl)) rfl rfl rfl rfl ?_
    refine DJ.nil ?_
    refine WL.val (OpVal.opv rfl) rfl rfl rfl ?_
    refine WL.nil ?_
    refine Kseq.go ?_
    refine W.cond rfl rfl (fun he => ?_) (fun hne => ?_)
    · skip
      refine W.region ?_
      refine WL.val (OpVal.opv rfl) rfl rfl rfl ?_
      refine WL.val (OpVal.opv rfl) rfl rfl rfl ?_
      refine WL.abs (OpAbs.lit [_] rfl (Nat.le_of_ble_eq_true rfl) rfl rfl (by simp [Value.cells]) (Nat.le_of_ble_eq_true rfl) rfl (by first | (simp [Value.oneCell']; done) | exact List.all_eq_true.1 rfl)) rfl rfl rfl ?_
      rintro m23 _ ⟨hc23, a23, rfl⟩
      refine WL.appInt rfl (fun _ => (.tail _ (.head _))) rfl (by assumption) (by repeat (first | exact .head _ | refine .tail _ ?_)) (by omega) rfl rfl rfl ?_
      intro a24 cp24
      refine WL.val (OpVal.opv rfl) rfl rfl rfl ?_
      refine WL.nil ?_
      refine Kblock.normal (Kseq.go ?_)
      skip
      refine W.region ?_
      refine WL.val (OpVal.incr rfl (by omega)) rfl rfl rfl ?_
      refine WL.val (OpVal.opv rfl) rfl rfl rfl ?_
      refine WL.nil ?_
      skip
      refine Kloop.next (k + 1, .slice a24 ((sel k q).length + 1) cp24) (by omega) (by omega) ⟨rfl, rfl, rfl, rfl, rfl, rfl, trivial⟩ (by simp) ?_
      dsimp only; rw [sel_yes (n := k) (p := q) he]; exact (by repeat (first | exact List.Sublist.refl _ | refine List.Sublist.cons _ ?_ | refine List.Sublist.cons_cons _ ?_))
    · refine W.skip (Kblock.normal (Kseq.go ?_))
      skip
      refine W.region ?_
      refine WL.val (OpVal.incr rfl (by omega)) rfl rfl rfl ?_
      refine WL.val (OpVal.opv rfl) rfl rfl rfl ?_
      refine WL.nil ?_
      skip
      refine Kloop.next (k + 1, a) (by omega) (by omega) ⟨rfl, rfl, rfl, rfl, rfl, rfl, trivial⟩ (by simp) ?_
      dsimp only; rw [sel_no (n := k) (p := q) hne]; exact (by repeat (first | exact List.Sublist.refl _ | refine List.Sublist.cons _ ?_ | refine List.Sublist.cons_cons _ ?_))
  · refine W.exit (Kseq.exit (Kloop.exit (Kblock.here (Kseq.go (W.seq ?_)))))
    have : k = l.length := by omega
    subst this
    refine W.freezeInts (.head _) (fun b hb => (hF b hb).elim) fun mr hmr => ?_
    skip
    refine W.region ?_
    refine WL.val (OpVal.opv rfl) rfl rfl rfl ?_
    refine WL.val (OpVal.opv rfl) rfl rfl rfl ?_
    refine WL.nil ?_
    refine Kseq.go ?_
    refine W.ret ?_; skip; refine ⟨.inl rfl, [_], mr, ⟨.tmp rfl, trivial⟩, (by repeat (first | exact .head _ | refine .tail _ ?_)), ?_⟩
    exact hmr
end Go.Proofs.Ytbmohbeocnfefaa

/- The program's functions of chapter 3, on: their contracts. -/
namespace Go.Proofs.Ytbmohbeocnfefaa
open Go Go.Eng Go.RowKit

/-- CheckTable -/
theorem check_any {h : Mem} {v : Value} {t : Table} (hv : IsTable h v t) (hs : Sm t) : FnV Try.prog 25 #[v] h (.int .i64 (fault t)) := by
  have hv' := hv
  obtain ⟨wv, pv, f, rfl, hW, hP, hM⟩ := hv
  have hs' := hs
  obtain ⟨hs1, hs2, hs3⟩ := hs
  refine FnR.val ?_
  refine FnR.of_W (n := 56) Try.func25 rfl rfl (Nat.le_of_ble_eq_true rfl) fun c hr hD hF => ?_
  refine W.seq ?_
  refine W.region ?_
  refine WL.box rfl rfl rfl rfl (fun b1 => ?_)
  refine WL.val (OpVal.opv rfl) rfl rfl rfl ?_
  refine WL.nil ?_
  refine Kseq.go (W.seq ?_)
  skip
  refine W.region ?_
  refine WL.val (OpVal.loadBW rfl (.head _) rfl) rfl rfl rfl ?_
  refine WL.val (OpVal.opv rfl) rfl rfl rfl ?_
  refine WL.val (OpVal.opv rfl) rfl rfl rfl ?_
  refine WL.nil ?_
  refine Kseq.go (W.seq (W.block (W.seq ?_)))
  let tv : Value := .agg #[wv, pv, .int .i64 t.wrong]
  refine W.toS [(1, .pointer (some ⟨b1, 0, none⟩)), (3, .func (.func 41) #[tv] #[]), (9, .bool (decide (5 < t.women.length ∨ 7 < t.pieces.length)))] ?_ ?_
  · skip
    refine W.region ?_
    refine WL.val (OpVal.fieldAddrB rfl) rfl rfl rfl ?_
    refine WL.val (OpVal.loadB rfl (.head _) rfl) rfl rfl rfl ?_
    refine WL.val (OpVal.len rfl (by assumption)) rfl rfl rfl ?_
    refine WL.val (OpVal.opv rfl) rfl rfl rfl ?_
    refine WL.val (OpVal.opv rfl) rfl rfl rfl ?_
    refine WL.split rfl rfl (fun g14 => ?_) (fun g14 => ?_)
    · refine WL.pass rfl rfl rfl ?_
      refine WL.pass rfl rfl rfl ?_
      refine WL.pass rfl rfl rfl ?_
      refine WL.pass rfl rfl rfl ?_
      refine WL.val (OpVal.opv rfl) rfl rfl rfl ?_
      refine WL.val (OpVal.opv rfl) rfl rfl rfl ?_
      refine WL.nil ?_
      skip
      exact Keff.intro ⟨rfl, rfl, congrArg (fun b => some (Value.bool b)) (by first | (simp [-List.getD_eq_getElem?_getD]; done) | (simp_all [-List.getD_eq_getElem?_getD]; done) | (simp [-List.getD_eq_getElem?_getD]; omega) | (rw [Bool.eq_iff_iff]; simp [-List.getD_eq_getElem?_getD]; omega) | (simp [-List.getD_eq_getElem?_getD] at *; omega)), trivial⟩ (fun _ h => h) (by repeat (first | exact List.Sublist.refl _ | refine List.Sublist.cons _ ?_ | refine List.Sublist.cons_cons _ ?_))
    · refine WL.val (OpVal.fieldAddrB rfl) rfl rfl rfl ?_
      refine WL.val (OpVal.loadB rfl (.head _) rfl) rfl rfl rfl ?_
      refine WL.val (OpVal.len rfl (by assumption)) rfl rfl rfl ?_
      refine WL.val (OpVal.opv rfl) rfl rfl rfl ?_
      refine WL.val (OpVal.opv rfl) rfl rfl rfl ?_
      refine WL.val (OpVal.opv rfl) rfl rfl rfl ?_
      refine WL.nil ?_
      skip
      exact Keff.intro ⟨rfl, rfl, congrArg (fun b => some (Value.bool b)) (by first | (simp [-List.getD_eq_getElem?_getD]; done) | (simp_all [-List.getD_eq_getElem?_getD]; done) | (simp [-List.getD_eq_getElem?_getD]; omega) | (rw [Bool.eq_iff_iff]; simp [-List.getD_eq_getElem?_getD]; omega) | (simp [-List.getD_eq_getElem?_getD] at *; omega)), trivial⟩ (fun _ h => h) (by repeat (first | exact List.Sublist.refl _ | refine List.Sublist.cons _ ?_ | refine List.Sublist.cons_cons _ ?_))
  refine Kseq.go ?_
  refine W.condD rfl rfl (fun h0 => ?_) (fun h0 => ?_)
  · refine W.seq ?_
    refine W.region ?_
    refine WL.val (OpVal.opv rfl) rfl rfl rfl ?_
    refine WL.nil ?_
    refine Kseq.go ?_
    refine W.ret ?_; refine Kblock.ret (Kseq.ret ?_); refine ⟨.inl rfl, [_], h, ⟨.tmp rfl, trivial⟩, (by repeat (first | exact .head _ | refine .tail _ ?_)), ?_⟩
    exact congrArg (Value.int .i64) (by unfold fault; rw [if_pos h0])
  refine W.seq ?_
  refine W.toS [(1, .pointer (some ⟨b1, 0, none⟩)), (20, .bool (!decide (0 ≤ t.wrong ∧ t.wrong ≤ 5) || ex t.women.length (fun w => womanBad (t.women.getD w default)) || ex t.pieces.length (pieceBad t)))] ?_ ?_
  · skip
    refine W.region ?_
    refine WL.val (OpVal.fieldAddrB rfl) rfl rfl rfl ?_
    refine WL.val (OpVal.loadB rfl (.head _) rfl) rfl rfl rfl ?_
    refine WL.val (OpVal.call rfl (fun m hm => within_any _ _ _)) rfl rfl rfl ?_
    refine WL.val (OpVal.opv rfl) rfl rfl rfl ?_
    refine WL.val (OpVal.opv rfl) rfl rfl rfl ?_
    refine WL.splitN rfl rfl (fun g25 => ?_) (fun g25 => ?_)
    · refine WL.pass rfl rfl rfl ?_
      refine WL.pass rfl rfl rfl ?_
      refine WL.pass rfl rfl rfl ?_
      refine WL.pass rfl rfl rfl ?_
      refine WL.val (OpVal.opv rfl) rfl rfl rfl ?_
      refine WL.val (OpVal.opv rfl) rfl rfl rfl ?_
      refine WL.pass rfl rfl rfl ?_
      refine WL.pass rfl rfl rfl ?_
      refine WL.pass rfl rfl rfl ?_
      refine WL.pass rfl rfl rfl ?_
      refine WL.pass rfl rfl rfl ?_
      refine WL.val (OpVal.opv rfl) rfl rfl rfl ?_
      refine WL.val (OpVal.opv rfl) rfl rfl rfl ?_
      refine WL.nil ?_
      skip
      exact Keff.intro ⟨rfl, congrArg (fun b => some (Value.bool b)) (by first | (simp [-List.getD_eq_getElem?_getD]; done) | (simp_all [-List.getD_eq_getElem?_getD]; done) | (simp [-List.getD_eq_getElem?_getD]; omega) | (rw [Bool.eq_iff_iff]; simp [Bool.not_not, -List.getD_eq_getElem?_getD]; omega) | (simp [Bool.not_not, -List.getD_eq_getElem?_getD] at *; omega)), trivial⟩ (fun _ h => h) (by repeat (first | exact List.Sublist.refl _ | refine List.Sublist.cons _ ?_ | refine List.Sublist.cons_cons _ ?_))
    · refine WL.val (OpVal.fieldAddrB rfl) rfl rfl rfl ?_
      refine WL.val (OpVal.loadB rfl (.head _) rfl) rfl rfl rfl ?_
      refine WL.val (OpVal.call rfl (fun m hm => allW_any (fs := #[]) (cs := #[]) (p := fun i => !womanBad (t.women.getD i default)) (hW.le (by repeat (first | exact hm.1 | replace hm := hm.2))) (fun i hi m' hm' => valid_any (t.women.getD i default)))) rfl rfl rfl ?_
      refine WL.val (OpVal.opv rfl) rfl rfl rfl ?_
      refine WL.val (OpVal.opv rfl) rfl rfl rfl ?_
      refine WL.val (OpVal.opv rfl) rfl rfl rfl ?_
      refine WL.splitB rfl rfl (fun g31 => ?_) (fun g31 => ?_)
      · refine WL.pass rfl rfl rfl ?_
        refine WL.pass rfl rfl rfl ?_
        refine WL.pass rfl rfl rfl ?_
        refine WL.pass rfl rfl rfl ?_
        refine WL.pass rfl rfl rfl ?_
        refine WL.val (OpVal.opv rfl) rfl rfl rfl ?_
        refine WL.val (OpVal.opv rfl) rfl rfl rfl ?_
        refine WL.nil ?_
        skip
        exact Keff.intro ⟨rfl, congrArg (fun b => some (Value.bool b)) (by first | (simp [-List.getD_eq_getElem?_getD]; done) | (simp_all [-List.getD_eq_getElem?_getD]; done) | (simp [Bool.not_not, -List.getD_eq_getElem?_getD]; omega) | (rw [Bool.eq_iff_iff]; simp [Bool.not_not, -List.getD_eq_getElem?_getD]; omega) | (simp [Bool.not_not, -List.getD_eq_getElem?_getD] at *; omega)), trivial⟩ (fun _ h => h) (by repeat (first | exact List.Sublist.refl _ | refine List.Sublist.cons _ ?_ | refine List.Sublist.cons_cons _ ?_))
      · refine WL.val (OpVal.fieldAddrB rfl) rfl rfl rfl ?_
        refine WL.val (OpVal.loadB rfl (.head _) rfl) rfl rfl rfl ?_
        refine WL.val (OpVal.opv rfl) rfl rfl rfl ?_
        refine WL.val (OpVal.call rfl (fun m hm => allP_any (fs := #[tv]) (cs := #[]) (p := fun i => !pieceBad t i) (hP.le (by repeat (first | exact hm.1 | replace hm := hm.2))) (fun i hi m' hm' => piece_any (p := t.pieces.getD i default) (hv'.le (MLe.trans (by repeat (first | exact hm.1 | replace hm := hm.2)) hm')) hs' ((hM i hi).le (MLe.trans (by repeat (first | exact hm.1 | replace hm := hm.2)) hm')) (hs3 i hi)))) rfl rfl rfl ?_
        refine WL.val (OpVal.opv rfl) rfl rfl rfl ?_
        refine WL.val (OpVal.opv rfl) rfl rfl rfl ?_
        refine WL.val (OpVal.opv rfl) rfl rfl rfl ?_
        refine WL.nil ?_
        skip
        exact Keff.intro ⟨rfl, congrArg (fun b => some (Value.bool b)) (by first | (simp [-List.getD_eq_getElem?_getD]; done) | (simp_all [-List.getD_eq_getElem?_getD]; done) | (simp [Bool.not_not, -List.getD_eq_getElem?_getD]; omega) | (rw [Bool.eq_iff_iff]; simp [Bool.not_not, -List.getD_eq_getElem?_getD]; omega) | (simp [Bool.not_not, -List.getD_eq_getElem?_getD] at *; omega)), trivial⟩ (fun _ h => h) (by repeat (first | exact List.Sublist.refl _ | refine List.Sublist.cons _ ?_ | refine List.Sublist.cons_cons _ ?_))
  refine Kseq.go ?_
  refine W.cond rfl rfl (fun h1 => ?_) (fun h1 => ?_)
  · refine W.seq ?_
    refine W.region ?_
    refine WL.val (OpVal.opv rfl) rfl rfl rfl ?_
    refine WL.nil ?_
    refine Kseq.go ?_
    refine W.ret ?_; refine Kblock.ret (Kseq.ret ?_); refine ⟨.inl rfl, [_], h, ⟨.tmp rfl, trivial⟩, (by repeat (first | exact .head _ | refine .tail _ ?_)), ?_⟩
    refine congrArg (Value.int .i64) ?_
    unfold fault
    rw [if_neg h0]
    simp only [Bool.or_eq_true, Bool.not_eq_true', decide_eq_false_iff_not] at h1
    rcases h1 with (h1 | h1) | h1
    all_goals (simp only [h1, if_true, not_false_eq_true]; repeat (first | rfl | split))
  have h1' : (0 ≤ t.wrong ∧ t.wrong ≤ 5) ∧ ex t.women.length (fun w => womanBad (t.women.getD w default)) = false ∧ ex t.pieces.length (pieceBad t) = false := by
    simp only [Bool.or_eq_false_iff, Bool.not_eq_false', decide_eq_true_eq] at h1
    exact ⟨h1.1.1, h1.1.2, h1.2⟩
  obtain ⟨k1, k2, k3⟩ := h1'
  refine W.skip (Kblock.normal (Kseq.go (W.seq ?_)))
  refine W.region ?_
  refine WL.val (OpVal.opv rfl) rfl rfl rfl ?_
  refine WL.nil ?_
  refine Kseq.go (W.seq (W.seq ?_))
  skip
  refine W.region ?_
  refine WL.val (OpVal.fieldAddrB rfl) rfl rfl rfl ?_
  refine WL.val (OpVal.loadB rfl (.head _) rfl) rfl rfl rfl ?_
  refine WL.val (OpVal.len rfl (by assumption)) rfl rfl rfl ?_
  refine WL.val (OpVal.opv rfl) rfl rfl rfl ?_
  refine WL.nil ?_
  refine Kseq.go (W.block ?_)
  refine W.loopC (σ := Nat) (fun k => [(1, .pointer (some ⟨b1, 0, none⟩)), (4, .int .i64 (if k = 0 then 1 else manyP t k)), (39, pv), (40, .int .i64 (t.pieces.length : Int)), (41, .int .i64 (k : Int))]) (fun k => k ≤ t.pieces.length) (fun k => t.pieces.length - k) 0 ⟨rfl, rfl, rfl, rfl, rfl, trivial⟩ (Nat.zero_le _) ?_
  intro k hk
  have hmp := manyTo_pos t k
  have e0 : (if k = 0 then 1 else manyP t k) = manyP t k := by
    split
    · rename_i e; subst e; rfl
    · rfl
  rw [e0]
  have hmp2 : 0 ≤ manyP t k ∧ manyP t k ≤ 2001 := by unfold manyP; omega
  have hwl : (womenOf t k).length ≤ t.women.length := sel_len _ _
  refine W.seq ?_
  refine W.region ?_
  refine WL.val (OpVal.opv rfl) rfl rfl rfl ?_
  refine WL.nil ?_
  refine Kseq.go (W.seq ?_)
  refine W.condD rfl rfl (fun hlt => ?_) (fun hge => ?_)
  · have hMk := hM k (by omega)
    have hmul : manyP t k * ((womenOf t k).length : Int) ≤ 2001 * 50 := Int.mul_le_mul hmp2.2 (by omega) (by omega) (by omega)
    have hmul0 : 0 ≤ manyP t k * ((womenOf t k).length : Int) := Int.mul_nonneg hmp2.1 (by omega)
    refine W.skip (Kseq.go (W.seq (W.block (W.seq ?_))))
    refine W.region ?_
    refine WL.val (OpVal.indexAddrN rfl rfl (by assumption) (by omega)) rfl rfl rfl ?_
    refine WL.val (OpVal.loadEA rfl (by assumption) (by repeat (first | exact .head _ | refine .tail _ ?_)) (by omega)) rfl rfl rfl ?_
    refine WL.alloc rfl rfl rfl (fun b6 => ?_)
    refine WL.store [_, _] rfl (.head _) rfl rfl rfl (Nat.le_of_ble_eq_true rfl) (by first | (simp [Value.cells, Value.oneCell']; done) | exact IsArr.ones hW (by omega) | exact IsArr.ones hP (by omega) | exact IsArr.ones hS (by omega) | exact IsArr.ones hH (by omega) | exact IsArr.ones hL (by omega) | exact IsArr.ones hB (by omega) | exact IsArr.ones hT (by omega) | exact IsArr.ones hm (by omega)) rfl ?_
    refine WL.nil ?_
    refine Kseq.go ?_
    skip
    refine W.region ?_
    refine WL.val (OpVal.opv rfl) rfl rfl rfl ?_
    refine WL.val (OpVal.loadBW rfl (.tail _ (.head _)) rfl) rfl rfl rfl ?_
    refine WL.val (OpVal.loadBW rfl (.head _) rfl) rfl rfl rfl ?_
    refine WL.abs (OpAbs.mono (OpAbs.call rfl (fun m hm => of_any (hv'.le (by repeat (first | exact hm.1 | replace hm := hm.2))) hs' (hMk.le (by repeat (first | exact hm.1 | replace hm := hm.2))))) (fun m r (hr : IsInts m r (womenOf t k)) => hr)) rfl rfl rfl ?_
    rintro m48 v48 h48
    refine WL.val (OpVal.len rfl (by assumption)) rfl rfl rfl ?_
    refine WL.val (OpVal.mul rfl rfl (by omega) (by omega)) rfl rfl rfl ?_
    refine WL.abs (OpAbs.lit [_, _] rfl (Nat.le_of_ble_eq_true rfl) rfl rfl (by simp [Value.cells]) (Nat.le_of_ble_eq_true rfl) rfl (by first | (simp [Value.oneCell']; done) | exact List.all_eq_true.1 rfl)) rfl rfl rfl ?_
    rintro m51 _ ⟨hc51, a51, rfl⟩
    refine WL.val (OpVal.call rfl (fun m hm => minimum_any ((ints_lit (xs := [_, 2001]) hc51).le (by repeat (first | exact hm.1 | replace hm := hm.2))))) rfl rfl rfl ?_
    refine WL.val (OpVal.opv rfl) rfl rfl rfl ?_
    refine WL.nil ?_
    refine Kblock.normal (Kseq.go ?_)
    skip
    refine W.region ?_
    refine WL.val (OpVal.incr rfl (by omega)) rfl rfl rfl ?_
    refine WL.val (OpVal.opv rfl) rfl rfl rfl ?_
    refine WL.nil ?_
    skip
    exact Kloop.nextC (k + 1) (by omega) (by omega) ⟨rfl, by rw [if_neg (Nat.succ_ne_zero k), manyP_succ]; rfl, rfl, rfl, rfl, trivial⟩ (by simp) (by repeat (first | exact List.Sublist.refl _ | refine List.Sublist.cons _ ?_ | refine List.Sublist.cons_cons _ ?_))
  · refine W.exit (Kseq.exit (Kloop.exit (Kblock.here (Kseq.go (W.seq (W.seq ?_))))))
    have : k = t.pieces.length := by omega
    subst this
    have hfin : fault t = if 2000 < many t then 3 else 0 := by
      unfold fault
      rw [if_neg h0, if_neg (by omega), if_neg (by rw [k2]; simp), if_neg (by rw [k3]; simp)]
    skip
    refine W.region ?_
    refine WL.val (OpVal.opv rfl) rfl rfl rfl ?_
    refine WL.val (OpVal.opv rfl) rfl rfl rfl ?_
    refine WL.nil ?_
    refine Kseq.go ?_
    refine W.condD rfl rfl (fun h4 => ?_) (fun h4 => ?_)
    · refine W.seq ?_
      refine W.region ?_
      refine WL.val (OpVal.opv rfl) rfl rfl rfl ?_
      refine WL.nil ?_
      refine Kseq.go ?_
      refine W.ret ?_; refine Kseq.ret ?_; refine ⟨.inl rfl, [_], h, ⟨.tmp rfl, trivial⟩, (by repeat (first | exact .head _ | refine .tail _ ?_)), ?_⟩
      exact congrArg (Value.int .i64) (by rw [hfin, if_pos (by unfold manyP at h4; unfold many; omega)])
    · refine W.skip (Kseq.go (W.seq ?_))
      refine W.region ?_
      refine WL.val (OpVal.opv rfl) rfl rfl rfl ?_
      refine WL.nil ?_
      refine Kseq.go ?_
      refine W.ret ?_; skip; refine ⟨.inl rfl, [_], h, ⟨.tmp rfl, trivial⟩, (by repeat (first | exact .head _ | refine .tail _ ?_)), ?_⟩
      exact congrArg (Value.int .i64) (by rw [hfin, if_neg (by unfold manyP at h4; unfold many; omega)])

/-- listed -/
theorem listed_any {h : Mem} {v lv : Value} {t : Table} {xs : List Int} (hv : IsTable h v t) (hs : Sm t) (h7 : t.pieces.length ≤ 7) (hl : IsInts h lv xs) :
    FnR Try.prog 36 #[v, lv] h (fun _ r => ∃ q : List Int, q.length = 7 ∧ r = .tuple #[.agg (q.map vi).toArray, .bool (areOwners t xs)] ∧ (areOwners t xs = true → q = pad xs)) := by
  have hv' := hv
  obtain ⟨wv, pv, f, rfl, hW, hP, hM⟩ := hv
  have hs' := hs
  obtain ⟨hs1, hs2, hs3⟩ := hs
  refine FnR.of_W (n := 38) Try.func36 rfl rfl (Nat.le_of_ble_eq_true rfl) fun c hr hD hF => ?_
  refine W.seq ?_
  refine W.region ?_
  refine WL.box rfl rfl rfl rfl (fun b2 => ?_)
  refine WL.alloc rfl rfl rfl (fun b4 => ?_)
  refine WL.val (OpVal.opv rfl) rfl rfl rfl ?_
  refine WL.nil ?_
  refine Kseq.go (W.seq (W.seq ?_))
  skip
  refine W.region ?_
  refine WL.val (OpVal.opv rfl) rfl rfl rfl ?_
  refine WL.val (OpVal.len rfl (by assumption)) rfl rfl rfl ?_
  refine WL.val (OpVal.fieldAddrB rfl) rfl rfl rfl ?_
  refine WL.val (OpVal.loadB rfl (.tail _ (.head _)) rfl) rfl rfl rfl ?_
  refine WL.val (OpVal.len rfl (by assumption)) rfl rfl rfl ?_
  refine WL.val (OpVal.opv rfl) rfl rfl rfl ?_
  refine WL.nil ?_
  refine Kseq.go ?_
  refine W.cond rfl rfl (fun he => ?_) (fun hne => ?_)
  · refine W.seq ?_
    refine W.region ?_
    refine WL.val (OpVal.loadBW rfl (.head _) rfl) rfl rfl rfl ?_
    refine WL.storeAll rfl (.head _) rfl rfl (by first | rfl | (simp; done) | (simp; omega) | (simp [*]; done) | assumption) (by first | rfl | (simp; done) | (simp; omega) | (simp [*]; done) | assumption) (by first | (simp [Value.oneCell']; done) | exact List.all_eq_true.1 rfl) ?_
    refine WL.val (OpVal.opv rfl) rfl rfl rfl ?_
    refine WL.nil ?_
    refine Kseq.go ?_
    refine W.ret ?_; refine Kseq.ret ?_
    refine ⟨.inl rfl, [_, .bool (areOwners t xs)], h, ⟨.agg inferInstance inferInstance rfl (.head _) rfl, .tmp (by rw [show areOwners t xs = false by simp [areOwners]; intro h; simp at he; omega]; rfl), trivial⟩, .head _, List.replicate 7 0, rfl, rfl, ?_⟩
    intro hA
    have := (areOwners_iff.1 hA).1
    simp at he; omega
  have hn : xs.length = t.pieces.length := by simp at hne; omega
  refine W.skip (Kseq.go (W.seq (W.seq ?_)))
  refine W.region ?_
  refine WL.val (OpVal.opv rfl) rfl rfl rfl ?_
  refine WL.val (OpVal.len rfl (by assumption)) rfl rfl rfl ?_
  refine WL.val (OpVal.opv rfl) rfl rfl rfl ?_
  refine WL.nil ?_
  refine Kseq.go (W.block ?_)
  refine W.loop (σ := Nat) (fun k => [(2, .pointer (some ⟨b2, 0, none⟩)), (4, .pointer (some ⟨b4, 0, none⟩)), (15, lv), (16, .int .i64 (xs.length : Int)), (17, .int .i64 (k : Int))]) (fun _ => [h]) (fun k => [.blk b4 ((pad (xs.take k)).map vi).toArray 92, .blk b2 (Value.agg #[wv, pv, .int .i64 t.wrong]).cells 43]) (fun k => k ≤ xs.length ∧ ∀ i, i < k → xs.getD i 0 ∈ womenOf t i) (fun k => xs.length - k) 0 ⟨rfl, rfl, rfl, rfl, rfl, trivial⟩ (by simp) (.refl _) ⟨Nat.zero_le _, fun i hi => absurd hi (Nat.not_lt_zero _)⟩ ?_
  rintro k ⟨hk, hall⟩
  have hpl : (pad (xs.take k)).length = 7 := pad_len (by simp; omega)
  refine W.seq ?_
  refine W.region ?_
  refine WL.val (OpVal.opv rfl) rfl rfl rfl ?_
  refine WL.nil ?_
  refine Kseq.go (W.seq ?_)
  refine W.condD rfl rfl (fun hlt => ?_) (fun hge => ?_)
  · have hMk := hM k (by omega)
    refine W.skip (Kseq.go (W.seq (W.block (W.seq ?_))))
    refine W.region ?_
    refine WL.val (OpVal.opv rfl) rfl rfl rfl ?_
    refine WL.val (OpVal.indexAddrN rfl rfl (by assumption) (by omega)) rfl rfl rfl ?_
    refine WL.val (OpVal.loadE rfl (by assumption) (by repeat (first | exact .head _ | refine .tail _ ?_)) (by omega) (by omega)) rfl rfl rfl ?_
    refine WL.val (OpVal.opv rfl) rfl rfl rfl ?_
    refine WL.val (OpVal.opv rfl) rfl rfl rfl ?_
    refine WL.nil ?_
    refine Kseq.go (W.seq (W.seq ?_))
    skip
    refine W.draw 8 (by kernel_rfl) (by kernel_rfl) (by kernel_rfl) rfl ?_
    refine DJ.val [] (OpVal.loadBW rfl (.tail _ (.head _)) rfl) rfl rfl rfl rfl ?_
    refine DJ.val [] (OpVal.fieldAddrB rfl) rfl rfl rfl rfl ?_
    refine DJ.val [] (OpVal.loadB rfl (.tail _ (.head _)) rfl) rfl rfl rfl rfl ?_
    refine DJ.val [] (OpVal.opv rfl) rfl rfl rfl rfl ?_
    refine DJ.val [] (OpVal.indexAddrN rfl rfl (by assumption) (by omega)) rfl rfl rfl rfl ?_
    refine DJ.val [] (OpVal.loadEA rfl (by assumption) (by repeat (first | exact .head _ | refine .tail _ ?_)) (by omega)) rfl rfl rfl rfl ?_
    refine DJ.abs (A := fun m r => IsInts m r (womenOf t k)) [] (OpAbs.call rfl (fun m hm => of_any (hv'.le (by repeat (first | exact hm.1 | replace hm := hm.2))) hs' (hMk.le (by repeat (first | exact hm.1 | replace hm := hm.2))))) rfl rfl rfl rfl ?_
    refine DJ.val [] (OpVal.opv rfl) rfl rfl rfl rfl ?_
    refine DJ.nil ?_
    rintro m28 v28 h28
    refine WL.val (OpVal.call rfl (fun m hm => contains_any _ (h28.le (by repeat (first | exact hm.1 | replace hm := hm.2))))) rfl rfl rfl ?_
    refine WL.val (OpVal.opv rfl) rfl rfl rfl ?_
    refine WL.nil ?_
    refine Kseq.go ?_
    refine W.cond rfl rfl (fun he => ?_) (fun hne2 => ?_)
    · refine W.seq ?_
      refine W.region ?_
      refine WL.val (OpVal.loadBW rfl (.head _) (by simp [hpl])) rfl rfl rfl ?_
      refine WL.storeAll rfl (.head _) rfl rfl (by first | rfl | (simp; done) | (simp; omega) | (simp [*]; done) | assumption) (by first | rfl | (simp; done) | (simp; omega) | (simp [*]; done) | assumption) (by first | (simp [Value.oneCell']; done) | exact List.all_eq_true.1 rfl) ?_
      refine WL.val (OpVal.opv rfl) rfl rfl rfl ?_
      refine WL.nil ?_
      refine Kseq.go ?_
      refine W.ret ?_; refine Kseq.ret (Kblock.ret (Kseq.ret (Kloop.ret (Kblock.ret (Kseq.ret ?_)))))
      have hA : areOwners t xs = false := by
        rw [Bool.eq_false_iff]
        intro hA
        have := (areOwners_iff.1 hA).2 k (by omega)
        simp at he
        exact he this
      exact ⟨.inl rfl, [_, .bool (areOwners t xs)], h, ⟨.agg inferInstance inferInstance rfl (.head _) (by simp [hpl]), .tmp (by rw [hA]; rfl), trivial⟩, (by repeat (first | exact .head _ | refine .tail _ ?_)), pad (xs.take k), hpl, rfl, fun hB => by rw [hA] at hB; cases hB⟩
    · refine W.skip (Kseq.go ?_)
      refine W.region ?_
      refine WL.val (OpVal.opv rfl) rfl rfl rfl ?_
      refine WL.val (OpVal.opv rfl) rfl rfl rfl ?_
      refine WL.val (OpVal.indexAddrB rfl rfl (by omega)) rfl rfl rfl ?_
      (refine WL.store (size := 1) ((pad (xs.take (k + 1))).map vi) rfl (.head _) rfl rfl rfl (by simp [hpl]; omega) (by simp [Value.cells, Value.oneCell']) (pad_store (by omega) (by omega)) ?_)
      refine WL.nil ?_
      refine Kblock.normal (Kseq.go ?_)
      skip
      refine W.region ?_
      refine WL.val (OpVal.incr rfl (by omega)) rfl rfl rfl ?_
      refine WL.val (OpVal.opv rfl) rfl rfl rfl ?_
      refine WL.nil ?_
      skip
      refine Kloop.next (k + 1) ⟨by omega, fun i hi => ?_⟩ (by omega) ⟨rfl, rfl, rfl, rfl, rfl, trivial⟩ (by simp) (.refl _)
      rcases Nat.lt_succ_iff_lt_or_eq.1 hi with h3 | rfl
      · exact hall i h3
      · simpa using hne2
  · refine W.exit (Kseq.exit (Kloop.exit (Kblock.here (Kseq.go (W.seq ?_)))))
    have : k = xs.length := by omega
    subst this
    rw [List.take_length] at hpl ⊢
    have hA : areOwners t xs = true := areOwners_iff.2 ⟨hn, fun i hi => hall i hi⟩
    skip
    refine W.region ?_
    refine WL.val (OpVal.loadBW rfl (.head _) (by simp [hpl])) rfl rfl rfl ?_
    refine WL.storeAll rfl (.head _) rfl rfl (by first | rfl | (simp; done) | (simp; omega) | (simp [*]; done) | assumption) (by first | rfl | (simp; done) | (simp; omega) | (simp [*]; done) | assumption) (by first | (simp [Value.oneCell']; done) | exact List.all_eq_true.1 rfl) ?_
    refine WL.val (OpVal.opv rfl) rfl rfl rfl ?_
    refine WL.nil ?_
    refine Kseq.go ?_
    refine W.ret ?_; skip
    exact ⟨.inl rfl, [_, .bool (areOwners t xs)], h, ⟨.agg inferInstance inferInstance rfl (.head _) (by simp [hpl]), .tmp (by rw [hA]; rfl), trivial⟩, .head _, pad xs, hpl, rfl, fun _ => rfl⟩
end Go.Proofs.Ytbmohbeocnfefaa

/- The program's iterator over all owners: its contract. -/
namespace Go.Proofs.Ytbmohbeocnfefaa
open Go Go.Eng Go.RowKit

abbrev arrV (q : List Int) : Array Value := (q.map vi).toArray
theorem mem3 {x y : Mem} {A B : List Mem} : ∀ m ∈ x :: y :: A, m ∈ A ++ x :: y :: B := fun m h => by
  rcases List.mem_cons.1 h with rfl | h
  · exact List.mem_append_right _ (.head _)
  · rcases List.mem_cons.1 h with rfl | h
    · exact List.mem_append_right _ (.tail _ (.head _))
    · exact List.mem_append_left _ h
theorem arr_set {q : List Int} {k : Nat} (h : k < q.length) (w : Int) : (arrV q).toList.take (0 + k) ++ ((vi w).cells.toList ++ (arrV q).toList.drop (0 + k + 1)) = (q.set k w).map vi := by
  show (q.map vi).take (0 + k) ++ ([vi w] ++ (q.map vi).drop (0 + k + 1)) = _
  rw [Nat.zero_add, List.map_set, List.set_eq_take_append_cons_drop, if_pos (by simpa using h)]; rfl
/-- choose -/
theorem choose_any {t : Table} (hs : Sm t) (h7 : t.pieces.length ≤ 7) {hm : Mem} {tv : Value} (hv : IsTable hm tv t) {b1 b2 b3 b4 l0 : Nat}
    (hb1 : IsBox hm b1 tv.cells 43) (hb2 : IsBox hm b2 #[.func (.yield l0) #[] #[]] 112) (hb4 : IsBox hm b4 #[.func (.func 64) #[] #[.pointer (some ⟨b1, 0, none⟩), .pointer (some ⟨b2, 0, none⟩), .pointer (some ⟨b3, 0, none⟩), .pointer (some ⟨b4, 0, none⟩)]] 110)
    {N : Nat} {item : Nat → Value} {St : Nat → List Mem → List Res → Prop} {Sp : List Mem → List Res → Prop} (hStm : ∀ k Ms μ, St k Ms μ → marksOf μ = []) (hSpm : ∀ Ms μ, Sp Ms μ → marksOf μ = [])
    (hY : ∀ k, k < N → ∀ Ms μ, St k Ms μ → YieldM Try.prog l0 #[item k] Ms μ fun v Ms' μ' => (v = .bool true ∧ St (k + 1) Ms' μ') ∨ (v = .bool false ∧ Sp Ms' μ')) :
    ∀ (r : Nat) (pre q : List Int), pre.length + r = t.pieces.length → Works t pre q → ∀ k0, k0 + (tails t r).length ≤ N → (∀ j, j < (tails t r).length → item (k0 + j) = ownV (pre ++ (tails t r).getD j [])) →
    ∀ Ms μ, St k0 Ms μ → FnM Try.prog 64 #[.int .i64 (pre.length : Int), .pointer (some ⟨b1, 0, none⟩), .pointer (some ⟨b2, 0, none⟩), .pointer (some ⟨b3, 0, none⟩), .pointer (some ⟨b4, 0, none⟩)] (hm :: Ms) (.blk b3 (arrV q) 92 :: μ)
      fun v Ms' μ' => ∃ q' μ1, Works t pre q' ∧ μ' = .blk b3 (arrV q') 92 :: μ1 ∧ ((v = .bool true ∧ St (k0 + (tails t r).length) Ms' μ1) ∨ (v = .bool false ∧ Sp Ms' μ1)) := by
  intro r
  induction r with
  | zero =>
    intro pre q hlen hq k0 hN hitem Ms μ hSt
    obtain ⟨wv, pv, f, rfl, hW, hP, hM⟩ := hv
    have hpl : pre.length = t.pieces.length := by omega
    have hq' := hq.done hpl h7
    have hq7 := hq.1
    refine FnM.of_W (n := 38) Try.func64 rfl rfl (Nat.le_of_ble_eq_true rfl) (by have := hStm _ _ _ hSt; exact this) fun c hr hD hF => ?_
    skip
    refine W.seq ?_
    refine W.region ?_
    refine WL.val (OpVal.opv rfl) rfl rfl rfl ?_
    refine WL.nil ?_
    refine Kseq.go (W.seq (W.seq ?_))
    skip
    refine W.region ?_
    refine WL.val (OpVal.opv rfl) rfl rfl rfl ?_
    refine WL.val (OpVal.fieldAddrB rfl) rfl rfl rfl ?_
    refine WL.val (OpVal.loadP rfl (by assumption) (by repeat (first | exact .head _ | refine .tail _ ?_)) rfl) rfl rfl rfl ?_
    refine WL.val (OpVal.len rfl (by assumption)) rfl rfl rfl ?_
    refine WL.val (OpVal.opv rfl) rfl rfl rfl ?_
    refine WL.nil ?_
    refine Kseq.go ?_
    refine W.condD rfl rfl (fun he => ?_) (fun hne => absurd (by omega) hne)
    have hyy := hY k0 (by have : (tails t 0).length = 1 := rfl; omega) Ms μ hSt
    have hit0 := hitem 0 (by show 0 < 1; omega)
    refine W.seq ?_
    refine W.region ?_
    refine WL.val (OpVal.loadP rfl (by assumption) (by repeat (first | exact .head _ | refine .tail _ ?_)) rfl) rfl rfl rfl ?_
    refine WL.val (OpVal.loadBW rfl (.head _) (by simp [hq7])) rfl rfl rfl ?_
    (refine WL.yieldM rfl rfl (fun m hm => .tail _ hm) (.r _ (Split.all μ)) (hStm _ _ _ hSt) (by rw [Nat.add_zero] at hit0; rw [hit0] at hyy; rw [hq']; simpa [tails] using hyy) rfl rfl rfl ?_; rintro v16 M1 a1 hQ)
    refine WL.val (OpVal.opv rfl) rfl rfl rfl ?_
    refine WL.nil ?_
    refine Kseq.go ?_
    refine W.ret ?_; refine Kseq.ret ?_
    refine ⟨.inl rfl, [_], M1, .blk b3 (arrV q) 92 :: a1, ⟨.tmp rfl, trivial⟩, ⟨q, a1, hq, rfl, hQ⟩, fun m hm => List.mem_append_left _ hm, .refl _, fun s hs => ?_⟩
    rcases List.mem_cons.1 hs with rfl | hs
    · rfl
    · rcases hQ with ⟨_, h⟩ | ⟨_, h⟩
      · exact none_of_marks (hStm _ _ _ h) s hs
      · exact none_of_marks (hSpm _ _ h) s hs
  | succ r ih =>
    intro pre q hlen hq k0 hN hitem Ms μ hSt
    have hv' := hv
    obtain ⟨wv, pv, f, rfl, hW, hP, hM⟩ := hv
    have hk : pre.length < t.pieces.length := by omega
    have hq7 := hq.1
    have hTl := tails_len t r
    have hke : t.pieces.length - (r + 1) = pre.length := by omega
    rw [hke] at hTl
    have hMk := hM pre.length hk
    obtain ⟨T, hTd⟩ : ∃ T, (tails t r).length = T := ⟨_, rfl⟩
    rw [hTd] at hTl ih
    refine FnM.of_W (n := 38) Try.func64 rfl rfl (Nat.le_of_ble_eq_true rfl) (by have := hStm _ _ _ hSt; exact this) fun c hr hD hF => ?_
    skip
    refine W.seq ?_
    refine W.region ?_
    refine WL.val (OpVal.opv rfl) rfl rfl rfl ?_
    refine WL.nil ?_
    refine Kseq.go (W.seq (W.seq ?_))
    skip
    refine W.region ?_
    refine WL.val (OpVal.opv rfl) rfl rfl rfl ?_
    refine WL.val (OpVal.fieldAddrB rfl) rfl rfl rfl ?_
    refine WL.val (OpVal.loadP rfl (by assumption) (by repeat (first | exact .head _ | refine .tail _ ?_)) rfl) rfl rfl rfl ?_
    refine WL.val (OpVal.len rfl (by assumption)) rfl rfl rfl ?_
    refine WL.val (OpVal.opv rfl) rfl rfl rfl ?_
    refine WL.nil ?_
    refine Kseq.go ?_
    refine W.condD rfl rfl (fun he => absurd he (by omega)) (fun hne => ?_)
    refine W.skip (Kseq.go (W.seq (W.seq ?_)))
    refine W.draw 9 (by kernel_rfl) (by kernel_rfl) (by kernel_rfl) rfl ?_
    refine DJ.val [] (OpVal.loadPW rfl (by assumption) (by repeat (first | exact .head _ | refine .tail _ ?_)) (by rfl)) rfl rfl rfl rfl ?_
    refine DJ.val [] (OpVal.fieldAddrB rfl) rfl rfl rfl rfl ?_
    refine DJ.val [] (OpVal.loadP rfl (by assumption) (by repeat (first | exact .head _ | refine .tail _ ?_)) rfl) rfl rfl rfl rfl ?_
    refine DJ.val [] (OpVal.opv rfl) rfl rfl rfl rfl ?_
    refine DJ.val [] (OpVal.indexAddrN rfl rfl (by assumption) (by omega)) rfl rfl rfl rfl ?_
    refine DJ.val [] (OpVal.loadEA rfl (by assumption) (by repeat (first | exact .head _ | refine .tail _ ?_)) (by omega)) rfl rfl rfl rfl ?_
    refine DJ.abs (A := fun m r => IsInts m r (womenOf t pre.length)) [] (OpAbs.call rfl (fun m hm => of_any (hv'.le (by repeat (first | exact hm.1 | replace hm := hm.2))) hs (hMk.le (by repeat (first | exact hm.1 | replace hm := hm.2))))) rfl rfl rfl rfl ?_
    refine DJ.val [(23, fun m r => IsInts m r (womenOf t pre.length))] (fun m23 v23 h23 => OpVal.len rfl (by assumption)) rfl rfl rfl rfl ?_ (hG := ⟨(by repeat (first | exact .head _ | refine .tail _ ?_)), rfl, trivial⟩)
    refine DJ.val [] (OpVal.opv rfl) rfl rfl rfl rfl ?_
    refine DJ.nil ?_
    rintro m23 v23 h23
    refine WL.nil ?_
    refine Kseq.go (W.block ?_)
    refine W.loop (σ := Nat × List Int × List Mem × List Res) (fun s => [(0, .int .i64 (pre.length : Int)), (1, .pointer (some ⟨b1, 0, none⟩)), (2, .pointer (some ⟨b2, 0, none⟩)), (3, .pointer (some ⟨b3, 0, none⟩)), (4, .pointer (some ⟨b4, 0, none⟩)), (23, v23), (24, .int .i64 ((womenOf t pre.length).length : Int)), (25, .int .i64 (s.1 : Int))])
      (fun s => m23 :: hm :: s.2.2.1) (fun s => .blk b3 (arrV s.2.1) 92 :: s.2.2.2) (fun s => s.1 ≤ (womenOf t pre.length).length ∧ Works t pre s.2.1 ∧ St (k0 + s.1 * T) s.2.2.1 s.2.2.2) (fun s => (womenOf t pre.length).length - s.1) (0, q, Ms, μ) ⟨rfl, rfl, rfl, rfl, rfl, rfl, rfl, rfl, trivial⟩ (fun _ h => h) (.refl _) ⟨Nat.zero_le _, hq, by simpa using hSt⟩ ?_
    rintro ⟨j, q1, Ms1, μ1⟩ ⟨hj, hq1, hSt1⟩
    dsimp only at hj hq1 hSt1 ⊢
    have hwl : (womenOf t pre.length).length ≤ t.women.length := sel_len _ _
    have hs1 := hs.1
    refine W.seq ?_
    refine W.region ?_
    refine WL.val (OpVal.opv rfl) rfl rfl rfl ?_
    refine WL.nil ?_
    refine Kseq.go (W.seq ?_)
    refine W.condD rfl rfl (fun hlt => ?_) (fun hge => ?_)
    · have hjW : j < (womenOf t pre.length).length := by omega
      have hjT : (j + 1) * T ≤ (womenOf t pre.length).length * T := Nat.mul_le_mul_right _ hjW
      have hjT' : (j + 1) * T = j * T + T := by rw [Nat.add_mul, Nat.one_mul]
      have hq17 := hq1.1
      have e : (pre ++ [(womenOf t pre.length).getD j 0]).length = pre.length + 1 := by simp
      have hset := hq1.set hk h7 ((womenOf t pre.length).getD j 0)
      have ih' := ih (pre ++ [(womenOf t pre.length).getD j 0]) (q1.set pre.length ((womenOf t pre.length).getD j 0)) (by rw [e]; omega) hset (k0 + j * T) (by omega) (fun i hi => by
        have h1 := hitem (j * T + i) (by rw [hTl]; omega)
        have h2 := tails_get (t := t) (r := r) (j := j) (i := i) (by rw [hke]; exact hjW) (by rw [hTd]; exact hi)
        rw [hke, hTd] at h2
        rw [h2] at h1
        rw [Nat.add_assoc, h1, List.append_assoc]; rfl) Ms1 μ1 hSt1
      rw [e] at ih'
      refine W.skip (Kseq.go (W.seq (W.block (W.seq ?_))))
      refine W.region ?_
      refine WL.val (OpVal.indexAddrN rfl rfl (by assumption) (by omega)) rfl rfl rfl ?_
      refine WL.val (OpVal.loadE rfl (by assumption) (by repeat (first | exact .head _ | refine .tail _ ?_)) (by omega) (by omega)) rfl rfl rfl ?_
      refine WL.val (OpVal.opv rfl) rfl rfl rfl ?_
      refine WL.nil ?_
      refine Kseq.go (W.seq ?_)
      skip
      refine W.region ?_
      refine WL.val (OpVal.opv rfl) rfl rfl rfl ?_
      refine WL.val (OpVal.opv rfl) rfl rfl rfl ?_
      refine WL.val (OpVal.indexAddrB rfl rfl (by omega)) rfl rfl rfl ?_
      (refine WL.store (size := 1) ((q1.set pre.length ((womenOf t pre.length).getD j 0)).map vi) rfl (.head _) rfl rfl rfl (by simp [hq17]; omega) (by simp [Value.cells, Value.oneCell']) (arr_set (by omega) _) ?_)
      refine WL.nil ?_
      refine Kseq.go (W.seq ?_)
      skip
      refine W.region ?_
      refine WL.val (OpVal.loadP rfl (by assumption) (by repeat (first | exact .head _ | refine .tail _ ?_)) rfl) rfl rfl rfl ?_
      refine WL.val (OpVal.opv rfl) rfl rfl rfl ?_
      refine WL.val (OpVal.incr rfl (by omega)) rfl rfl rfl ?_
      refine WL.callM rfl rfl (fun m hx => .tail _ hx) (Split.all _) (by have := hStm _ _ _ hSt1; exact this) ih' rfl rfl rfl ?_
      rintro v35 M1 a1 ⟨q2, μ2, hq2, rfl, hQ⟩
      rcases hQ with ⟨rfl, h⟩ | ⟨rfl, h⟩
      · refine WL.val (OpVal.opv rfl) rfl rfl rfl ?_
        refine WL.nil ?_
        refine Kseq.go ?_
        refine W.condF rfl rfl ?_
        refine W.skip (Kblock.normal (Kseq.go ?_))
        refine W.region ?_
        refine WL.val (OpVal.incr rfl (by omega)) rfl rfl rfl ?_
        refine WL.val (OpVal.opv rfl) rfl rfl rfl ?_
        refine WL.nil ?_
        skip
        exact Kloop.next (j + 1, q2, M1, μ2) ⟨hjW, hq2.back, by dsimp only; rw [hjT', ← Nat.add_assoc]; exact h⟩ (by dsimp only; omega) ⟨rfl, rfl, rfl, rfl, rfl, rfl, rfl, rfl, trivial⟩ mem3 (.refl _)
      · refine WL.val (OpVal.opv rfl) rfl rfl rfl ?_
        refine WL.nil ?_
        refine Kseq.go ?_
        refine W.condT rfl rfl ?_
        refine W.seq ?_
        refine W.region ?_
        refine WL.val (OpVal.opv rfl) rfl rfl rfl ?_
        refine WL.nil ?_
        refine Kseq.go ?_
        refine W.ret ?_; refine Kblock.ret (Kseq.ret (Kloop.ret (Kblock.ret (Kseq.ret ?_))))
        refine ⟨.inl rfl, [_], M1, .blk b3 (arrV q2) 92 :: μ2, ⟨.tmp rfl, trivial⟩, ⟨q2, μ2, hq2.back, rfl, .inr ⟨rfl, h⟩⟩, fun m hm => List.mem_append_left _ hm, .refl _, fun s hs => ?_⟩
        rcases List.mem_cons.1 hs with rfl | hs
        · rfl
        · exact none_of_marks (hSpm _ _ h) s hs
    · have hjW : j = (womenOf t pre.length).length := by omega
      subst hjW
      refine W.exit (Kseq.exit (Kloop.exit (Kblock.here (Kseq.go (W.seq ?_)))))
      refine W.region ?_
      refine WL.val (OpVal.opv rfl) rfl rfl rfl ?_
      refine WL.nil ?_
      refine Kseq.go ?_
      refine W.ret ?_; skip
      refine ⟨.inl rfl, [_], Ms1, .blk b3 (arrV q1) 92 :: μ1, ⟨.tmp rfl, trivial⟩, ⟨q1, μ1, hq1, rfl, .inl ⟨rfl, by rw [hTl]; exact hSt1⟩⟩, fun m hm => .tail _ (.tail _ hm), .refl _, fun s hs => ?_⟩
      rcases List.mem_cons.1 hs with rfl | hs
      · rfl
      · exact none_of_marks (hStm _ _ _ hSt1) s hs
end Go.Proofs.Ytbmohbeocnfefaa

/- The program's iterator over all owners: its contract, whole. -/
namespace Go.Proofs.Ytbmohbeocnfefaa
open Go Go.Eng Go.RowKit

def itemV (t : Table) (k : Nat) : Value := ownV ((allOwners t).getD k [])
/-- lists, its inner function -/
theorem lists1_any {t : Table} (hs : Sm t) (h7 : t.pieces.length ≤ 7) {h : Mem} {tv : Value} (hv : IsTable h tv t) {b1 : Nat} (hb1 : IsBox h b1 tv.cells 43) :
    IterM Try.prog 63 #[.pointer (some ⟨b1, 0, none⟩)] [h] (allOwners t).length (itemV t) := by
  unfold IterM
  intro l0 St Sp hStm hSpm hY Ms μ hSt
  refine FnM.of_W (n := 8) Try.func63 rfl rfl (Nat.le_of_ble_eq_true rfl) (hStm _ _ _ hSt) fun c hr hD hF => ?_
  skip
  refine W.seq ?_
  refine W.region ?_
  refine WL.box rfl rfl rfl rfl (fun b2 => ?_)
  refine WL.nil ?_
  refine Kseq.go (W.seq ?_)
  skip
  refine W.region ?_
  refine WL.alloc rfl rfl rfl (fun b3 => ?_)
  refine WL.nil ?_
  refine Kseq.go (W.seq ?_)
  skip
  refine W.region ?_
  refine WL.alloc rfl rfl rfl (fun b4 => ?_)
  refine WL.nil ?_
  refine Kseq.go (W.seq ?_)
  skip
  refine W.region ?_
  refine WL.val (OpVal.opv rfl) rfl rfl rfl ?_
  refine WL.store [_] rfl (.head _) rfl rfl rfl (Nat.le_of_ble_eq_true rfl) (by first | (simp [Value.cells, Value.oneCell']; done) | exact IsArr.ones hW (by omega) | exact IsArr.ones hP (by omega) | exact IsArr.ones hS (by omega) | exact IsArr.ones hH (by omega) | exact IsArr.ones hL (by omega) | exact IsArr.ones hB (by omega) | exact IsArr.ones hT (by omega) | exact IsArr.ones hm (by omega)) rfl ?_
  refine WL.nil ?_
  refine Kseq.go ?_
  have hfe : ∀ b, c.F b → b ∈ feet μ := hF
  refine W.freezeBox (.head _) (fun b hb => ?_) fun m4 h4 => ?_
  · simp only [feet, List.filterMap_cons, Res.foot]; exact .tail _ (.tail _ (hfe b hb))
  refine W.freezeBox (.tail _ (.head _)) (fun b hb => ?_) fun m2 h2 => ?_
  · simp only [feet, List.filterMap_cons, Res.foot]; exact .tail _ (hfe b hb)
  refine W.join fun mj hj => ?_
  have hch := choose_any (b3 := b3) hs h7 (hv.le (hj h (by simp))) (hb1.le (hj h (by simp))) (h2.le (hj m2 (by simp))) (h4.le (hj m4 (by simp))) hStm hSpm hY t.pieces.length [] (List.replicate 7 0) (by simp) (Works.zero h7) 0 (by rw [Nat.zero_add]; exact Nat.le_refl _) (fun j hj => by rw [Nat.zero_add]; rfl) Ms μ hSt
  skip
  refine W.region ?_
  refine WL.val (OpVal.loadP rfl (by assumption) (by repeat (first | exact .head _ | refine .tail _ ?_)) rfl) rfl rfl rfl ?_
  refine WL.callM rfl rfl (M0 := mj :: Ms) ?_ (Split.all _) (by have := hStm _ _ _ hSt; exact this) hch rfl rfl rfl ?_
  · intro m hm
    rcases List.mem_cons.1 hm with rfl | hm
    · exact .head _
    · exact .tail _ (.tail _ (.tail _ (.tail _ hm)))
  rintro v7 M1 a1 ⟨q2, μ2, hq2, rfl, hQ⟩
  refine WL.nil ?_
  skip
  refine ⟨.inr rfl, [], M1, μ2, trivial, ?_, fun m hm => List.mem_append_left _ hm, .cons _ (.refl _), fun s hs => ?_⟩
  · rcases hQ with ⟨_, h⟩ | ⟨_, h⟩
    · exact .inl (by rw [Nat.zero_add] at h; exact h)
    · exact .inr h
  · rcases hQ with ⟨_, h⟩ | ⟨_, h⟩
    · exact none_of_marks (hStm _ _ _ h) s hs
    · exact none_of_marks (hSpm _ _ h) s hs

/-- lists -/
theorem lists_any {t : Table} {h : Mem} {tv : Value} (hv : IsTable h tv t) : FnR Try.prog 51 #[tv] h (fun m r => ∃ b1, r = .func (.func 63) #[] #[.pointer (some ⟨b1, 0, none⟩)] ∧ IsBox m b1 tv.cells 43) := by
  obtain ⟨wv, pv, f, rfl, hW, hP, hM⟩ := hv
  refine FnR.of_W (n := 4) Try.func51 rfl rfl (Nat.le_of_ble_eq_true rfl) fun c hr hD hF => ?_
  refine W.seq ?_
  refine W.region ?_
  refine WL.box rfl rfl rfl rfl (fun b1 => ?_)
  refine WL.val (OpVal.opv rfl) rfl rfl rfl ?_
  refine WL.nil ?_
  refine Kseq.go (W.seq ?_)
  refine W.freezeBox (.head _) (fun b hb => (hF b hb).elim) fun mb hmb => ?_
  skip
  refine W.region ?_
  refine WL.val (OpVal.opv rfl) rfl rfl rfl ?_
  refine WL.val (OpVal.opv rfl) rfl rfl rfl ?_
  refine WL.nil ?_
  refine Kseq.go ?_
  refine W.ret ?_; skip; refine ⟨.inl rfl, [_], mb, ⟨.tmp rfl, trivial⟩, (by repeat (first | exact .head _ | refine .tail _ ?_)), ?_⟩
  exact ⟨_, rfl, hmb⟩
end Go.Proofs.Ytbmohbeocnfefaa

/- The program's function possible: its contract. -/
namespace Go.Proofs.Ytbmohbeocnfefaa
open Go Go.Eng Go.RowKit

/-- possible's inner function -/
theorem possibleIn_any {h : Mem} {b : Nat} {ov : Value} {out : List Int} (x : Int) (hb : IsBox h b #[ov] 33) (ho : IsInts h ov out) : FnV Try.prog 54 #[.int .i64 x, .pointer (some ⟨b, 0, none⟩)] h (.bool (decide (x ∈ out))) := by
  refine FnR.val ?_
  refine FnR.of_W (n := 7) Try.func54 rfl rfl (Nat.le_of_ble_eq_true rfl) fun c hr hD hF => ?_
  refine W.seq ?_
  refine W.region ?_
  refine WL.val (OpVal.opv rfl) rfl rfl rfl ?_
  refine WL.nil ?_
  refine Kseq.go (W.seq ?_)
  skip
  refine W.region ?_
  refine WL.val (OpVal.loadP rfl (by assumption) (by repeat (first | exact .head _ | refine .tail _ ?_)) rfl) rfl rfl rfl ?_
  refine WL.val (OpVal.opv rfl) rfl rfl rfl ?_
  refine WL.val (OpVal.call rfl (fun m hm => contains_any _ (ho.le (by repeat (first | exact hm.1 | replace hm := hm.2))))) rfl rfl rfl ?_
  refine WL.val (OpVal.opv rfl) rfl rfl rfl ?_
  refine WL.nil ?_
  refine Kseq.go ?_
  refine W.ret ?_; skip; refine ⟨.inl rfl, [_], h, ⟨.tmp rfl, trivial⟩, (by repeat (first | exact .head _ | refine .tail _ ?_)), ?_⟩
  rfl

/-- possible -/
theorem possible_any {h : Mem} {v ov : Value} {t : Table} {out : List Int} (hv : IsTable h v t) (hs : Sm t) (hp7 : t.pieces.length ≤ 7) (ho : IsInts h ov out) : FnV Try.prog 33 #[v, ov] h (.bool (possibleB t out)) := by
  have hv' := hv
  obtain ⟨wv, pv, f, rfl, hW, hP, hM⟩ := hv
  obtain ⟨oa, oc, rfl⟩ := IsArr.form ho
  refine FnR.val ?_
  refine FnR.of_W (n := 14) Try.func33 rfl rfl (Nat.le_of_ble_eq_true rfl) fun c hr hD hF => ?_
  refine W.seq ?_
  refine W.region ?_
  refine WL.box rfl rfl rfl rfl (fun b2 => ?_)
  refine WL.box rfl rfl rfl rfl (fun b3 => ?_)
  refine WL.alloc rfl rfl rfl (fun b4 => ?_)
  refine WL.nil ?_
  refine Kseq.go (W.seq (W.seq ?_))
  refine W.freezeBox (.tail _ (.head _)) (fun b hb => (hF b hb).elim) fun m3 h3 => ?_
  refine W.freezeBox (.tail _ (.head _)) (fun b hb => (hF b hb).elim) fun m2 h2 => ?_
  skip
  refine W.region ?_
  refine WL.val (OpVal.loadPW rfl (by assumption) (by repeat (first | exact .head _ | refine .tail _ ?_)) (by rfl)) rfl rfl rfl ?_
  refine WL.abs (OpAbs.call rfl (fun m hm => lists_any (hv'.le (by repeat (first | exact hm.1 | replace hm := hm.2))))) rfl rfl rfl ?_
  rintro m7 v7 h7
  refine WL.nil ?_
  refine Kseq.go (W.block ?_)
  obtain ⟨b1, rfl, h1⟩ := h7
  refine W.join fun mj hj => ?_
  have hvj := hv'.le (hj h (by simp))
  have h3j := h3.le (hj m3 (by simp))
  have h2j := h2.le (hj m2 (by simp))
  have hoj := IsInts.le ho (hj h (by simp))
  skip
  let St : Nat → List Mem → List Res → Prop := fun k Ms μ => Ms = [mj] ∧ μ = [.blk b4 #[.bool false] 4] ∧ ∀ j, j < k → rightBut t out ((allOwners t).getD j []) = false
  let Xt : Exit → List Mem → List Res → Prop := fun e Ms μ => e = .ret ∧ Ms = [mj] ∧ μ = [.blk b4 #[.bool true] 4] ∧ possibleB t out = true
  refine W.rangeFunc (M0 := [mj]) (M1 := [mj]) hr rfl (lists1_any hs hp7 hvj (h1.le (hj m7 (by simp)))) (by simp) (Split.all _) rfl St Xt ⟨rfl, rfl, fun j hj => absurd hj (Nat.not_lt_zero _)⟩ (by simp) (by rintro k Ms μ ⟨_, rfl, _⟩; rfl) (by rintro e Ms μ ⟨_, _, rfl, _⟩; rfl) rfl (by decide) (fun k hk l0 Ms' μ' hSt c' hr' hD' => ?_) (fun D Ms' μ' hSt => ?_) (fun D Ms' μ' hXt => ?_) (fun D id Ms' μ' hXt => ?_)
  · obtain ⟨rfl, rfl, hall⟩ := hSt
    have hown := owns_of (allOwners_at hk) hp7
    have hpl : (pad ((allOwners t).getD k [])).length = 7 := pad_len (by have := hown.len; omega)
    skip
    refine W.region ?_
    refine WL.alloc rfl rfl rfl (fun b5 => ?_)
    (refine WL.storeAll rfl (.head _) rfl rfl (by rw [List.size_toArray, List.length_map]; exact hpl) (by rfl) (by simp [Value.oneCell']) ?_)
    refine WL.nil ?_
    skip
    refine ⟨rfl, fun c2 hr2 hD2 => ⟨rfl, ?_⟩⟩
    refine W.block (W.seq ?_)
    refine W.region ?_
    refine WL.val (OpVal.loadPW rfl (by assumption) (by repeat (first | exact .head _ | refine .tail _ ?_)) (by rfl)) rfl rfl rfl ?_
    refine WL.val (OpVal.loadBW rfl (.head _) (by rw [List.size_toArray, List.length_map]; exact hpl)) rfl rfl rfl ?_
    refine WL.abs (OpAbs.call rfl (fun m hm => wrong_any (hvj.le (by repeat (first | exact hm.1 | replace hm := hm.2))) hs hown)) rfl rfl rfl ?_
    rintro m11 v11 h11
    refine WL.val (OpVal.opv rfl) rfl rfl rfl ?_
    refine WL.val (OpVal.call rfl (fun m hm => allI_any (fs := #[]) (cs := #[.pointer (some ⟨b3, 0, none⟩)]) (p := fun i => decide ((wrongP t ((allOwners t).getD k [])).getD i 0 ∈ out)) (h11.le (by repeat (first | exact hm.1 | replace hm := hm.2))) (fun i hi m' hm' => possibleIn_any _ (h3j.le (MLe.trans (by repeat (first | exact hm.1 | replace hm := hm.2)) hm')) (hoj.le (MLe.trans (by repeat (first | exact hm.1 | replace hm := hm.2)) hm'))))) rfl rfl rfl ?_
    refine WL.nil ?_
    refine Kseq.go ?_
    refine W.cond rfl rfl (fun he => ?_) (fun hne => ?_)
    · refine W.seq ?_
      refine W.region ?_
      refine WL.store [_] rfl (.tail _ (.head _)) rfl rfl rfl (Nat.le_of_ble_eq_true rfl) (by first | (simp [Value.cells, Value.oneCell']; done) | exact IsArr.ones hW (by omega) | exact IsArr.ones hP (by omega) | exact IsArr.ones hS (by omega) | exact IsArr.ones hH (by omega) | exact IsArr.ones hL (by omega) | exact IsArr.ones hB (by omega) | exact IsArr.ones hT (by omega) | exact IsArr.ones hm (by omega)) rfl ?_
      refine WL.nil ?_
      refine Kseq.go ?_
      refine W.ret ?_; refine Kblock.ret ?_
      exact ⟨[mj], [.blk b4 #[.bool true] 4], ⟨rfl, rfl, rfl, ex_iff.2 ⟨k, hk, he⟩⟩, by simp, (by repeat (first | exact List.Sublist.refl _ | refine List.Sublist.cons _ ?_ | refine List.Sublist.cons_cons _ ?_)), by simp [markOf]⟩
    · refine W.skip (Kblock.normal ?_)
      exact ⟨[mj], [.blk b4 #[.bool false] 4], ⟨rfl, rfl, fun j hj => by
        rcases Nat.lt_succ_iff_lt_or_eq.1 hj with h | rfl
        · exact hall j h
        · exact hne⟩, by simp, (by repeat (first | exact List.Sublist.refl _ | refine List.Sublist.cons _ ?_ | refine List.Sublist.cons_cons _ ?_)), by simp [markOf]⟩
  · obtain ⟨rfl, rfl, hall⟩ := hSt
    have hno : possibleB t out = false := ex_no.2 hall
    refine Kblock.normal (Kseq.go (W.seq ?_))
    skip
    refine W.region ?_
    refine WL.store [_] rfl (.tail _ (.head _)) rfl rfl rfl (Nat.le_of_ble_eq_true rfl) (by first | (simp [Value.cells, Value.oneCell']; done) | exact IsArr.ones hW (by omega) | exact IsArr.ones hP (by omega) | exact IsArr.ones hS (by omega) | exact IsArr.ones hH (by omega) | exact IsArr.ones hL (by omega) | exact IsArr.ones hB (by omega) | exact IsArr.ones hT (by omega) | exact IsArr.ones hm (by omega)) rfl ?_
    refine WL.nil ?_
    refine Kseq.go ?_
    refine W.ret ?_; skip
    exact ⟨.inl rfl, [_], mj, ⟨.one inferInstance rfl (.tail _ (.head _)) rfl, trivial⟩, .head _, congrArg Value.bool hno.symm⟩
  · obtain ⟨_, rfl, rfl, hyes⟩ := hXt
    (repeat (first | refine Kseq.ret ?_ | refine Kblock.ret ?_ | refine Kloop.ret ?_))
    exact ⟨.inl rfl, [_], mj, ⟨.one inferInstance rfl (.tail _ (.head _)) rfl, trivial⟩, .head _, congrArg Value.bool hyes.symm⟩
  · exact absurd hXt.1 (by simp)
end Go.Proofs.Ytbmohbeocnfefaa
