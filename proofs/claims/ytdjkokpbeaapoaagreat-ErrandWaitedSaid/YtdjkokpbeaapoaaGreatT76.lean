/- The reference's functions of chapter 11: their contracts. -/
import Derived.Test.YtdjkokpbeaapoaaGreatP25
namespace Go.Proofs.YtdjkokpbeaapoaaGreat
open Go Go.Eng Go.RowKit

/-- ref.Greatest -/
theorem greatestR_any {h : Mem} {v : Value} {r : Errand} (hv : IsErrand h v r) (h100 : r.streets.length ≤ 100) : FnR Tryz.prog 88 #[v] h (fun m q => IsInts m q (greatestE r)) := by
  obtain ⟨wv, pv, hov, sv, f, rfl, hW, hP, hM, hH, hS⟩ := hv
  have hxl : (greatestE r).length = r.streets.length := by simp [greatestE]
  have hxg : ∀ k, k < r.streets.length → (greatestE r).getD k 0 = (r.streets.getD k default).hi := fun k hk => by simp [greatestE, List.getD_eq_getElem?_getD, List.getElem?_eq_getElem hk]
  generalize greatestE r = xs at *
  refine FnR.of_W (n := 22) Tryz.func88 rfl rfl (Nat.le_of_ble_eq_true rfl) fun c hr hD hF => ?_
  refine W.seq ?_
  refine W.region ?_
  refine WL.box rfl rfl rfl rfl (fun b1 => ?_)
  refine WL.val (OpVal.opv rfl) rfl rfl rfl ?_
  refine WL.nil ?_
  refine Kseq.go (W.seq ?_)
  skip
  refine W.region ?_
  refine WL.val (OpVal.opv rfl) rfl rfl rfl ?_
  refine WL.nil ?_
  refine Kseq.go (W.seq (W.seq ?_))
  skip
  refine W.region ?_
  refine WL.val (OpVal.opv rfl) rfl rfl rfl ?_
  refine WL.nil ?_
  refine Kseq.go (W.block ?_)
  refine W.nilRow 3 1 ?_
  refine W.loopA (σ := Nat × Value) (fun s => [(1, .pointer (some ⟨b1, 0, none⟩)), (3, s.2), (4, .int .i64 (s.1 : Int))]) (fun s => ir 3 s.2 (xs.take s.1)) (fun s => s.1 ≤ xs.length) (fun s => xs.length - s.1) (0, .slice none 0 0) ⟨rfl, rfl, rfl, trivial⟩ rfl (Nat.zero_le _) ?_
  rintro ⟨k, a⟩ hk
  dsimp only at hk ⊢
  have htl : (xs.take k).length = k := by simp; omega
  refine W.seq (W.seq ?_)
  refine W.region ?_
  refine WL.val (OpVal.opv rfl) rfl rfl rfl ?_
  refine WL.val (OpVal.fieldAddrB rfl) rfl rfl rfl ?_
  refine WL.val (OpVal.loadB rfl (.tail _ (.head _)) rfl) rfl rfl rfl ?_
  refine WL.val (OpVal.len rfl (by assumption)) rfl rfl rfl ?_
  refine WL.val (OpVal.opv rfl) rfl rfl rfl ?_
  refine WL.nil ?_
  refine Kseq.go ?_
  refine W.condD rfl rfl (fun hlt => ?_) (fun hge => ?_)
  · have hkx : k < r.streets.length := by omega
    refine W.skip (Kseq.go (W.seq (W.block ?_)))
    refine W.region ?_
    refine WL.val (OpVal.opv rfl) rfl rfl rfl ?_
    refine WL.val (OpVal.fieldAddrB rfl) rfl rfl rfl ?_
    refine WL.val (OpVal.loadB rfl (.tail _ (.head _)) rfl) rfl rfl rfl ?_
    refine WL.val (OpVal.opv rfl) rfl rfl rfl ?_
    refine WL.val (OpVal.indexAddrN rfl rfl hS (by omega)) rfl rfl rfl ?_
    refine WL.val (OpVal.fieldAddrN rfl hS (by omega)) rfl rfl rfl ?_
    refine WL.val (OpVal.cast (OpVal.loadE rfl hS (by repeat (first | exact .head _ | refine .tail _ ?_)) (by omega) (by omega)) (show _ = vi (xs.getD k 0) from congrArg (Value.int .i64) (hxg k hkx).symm)) rfl rfl rfl ?_
    refine WL.abs (OpAbs.lit [_] rfl (Nat.le_of_ble_eq_true rfl) rfl rfl (by simp [Value.cells]) (Nat.le_of_ble_eq_true rfl) rfl (by first | (simp [Value.oneCell']; done) | exact List.all_eq_true.1 rfl)) rfl rfl rfl ?_
    rintro m19 _ ⟨hc19, a19, rfl⟩
    refine WL.appInt rfl (fun _ => (.head _)) rfl (by assumption) (by repeat (first | exact .head _ | refine .tail _ ?_)) (by omega) rfl rfl rfl ?_
    intro a20 cp20
    refine WL.val (OpVal.opv rfl) rfl rfl rfl ?_
    refine WL.nil ?_
    refine Kblock.normal (Kseq.go ?_)
    skip
    refine W.region ?_
    refine WL.val (OpVal.opv rfl) rfl rfl rfl ?_
    refine WL.val (OpVal.incr rfl (by omega)) rfl rfl rfl ?_
    refine WL.val (OpVal.opv rfl) rfl rfl rfl ?_
    refine WL.nil ?_
    skip
    refine Kloop.next (k + 1, .slice a20 ((xs.take k).length + 1) cp20) (by omega) (by omega) ⟨rfl, rfl, rfl, trivial⟩ (by simp) ?_
    dsimp only
    rw [take_succ_getD (by omega)]
    exact (by repeat (first | exact List.Sublist.refl _ | refine List.Sublist.cons _ ?_ | refine List.Sublist.cons_cons _ ?_))
  · refine W.exit (Kseq.exit (Kloop.exit (Kblock.here (Kseq.go (W.seq ?_)))))
    have : k = xs.length := by omega
    subst this
    refine W.freezeInts (.head _) (fun b hb => (hF b hb).elim) fun mr hmr => ?_
    skip
    refine W.region ?_
    refine WL.val (OpVal.opv rfl) rfl rfl rfl ?_
    refine WL.val (OpVal.opv rfl) rfl rfl rfl ?_
    refine WL.nil ?_
    refine Kseq.go ?_
    refine W.ret ?_; skip; refine ⟨.inl rfl, [_], mr, ⟨.tmp rfl, trivial⟩, (by repeat (first | exact .head _ | refine .tail _ ?_)), ?_⟩
    rwa [List.take_length] at hmr
/-- ref.Street -/
theorem streetR_any {h : Mem} {v : Value} {r : Errand} {a b : Nat} (hv : IsErrand h v r) (hn : r.n ≤ 50) (hab : a ≠ b) (ha : a ≤ r.n) (hb : b ≤ r.n) : FnV Tryz.prog 106 #[v, vi a, vi b] h (vi (streetN r.n a b : Int)) := by
  obtain ⟨wv, pv, hov, sv, f, rfl, hW, hP, hM, hH, hS⟩ := hv
  have hnw : r.table.women.length = r.n := rfl
  refine FnR.val ?_
  refine FnR.of_W (n := 43) Tryz.func106 rfl rfl (Nat.le_of_ble_eq_true rfl) fun c hr hD hF => ?_
  refine W.seq ?_
  refine W.region ?_
  refine WL.box rfl rfl rfl rfl (fun b3 => ?_)
  refine WL.val (OpVal.opv rfl) rfl rfl rfl ?_
  refine WL.nil ?_
  refine Kseq.go (W.seq ?_)
  skip
  refine W.region ?_
  refine WL.val (OpVal.opv rfl) rfl rfl rfl ?_
  refine WL.nil ?_
  refine Kseq.go (W.seq (W.seq ?_))
  skip
  refine W.region ?_
  refine WL.val (OpVal.opv rfl) rfl rfl rfl ?_
  refine WL.nil ?_
  refine Kseq.go (W.block ?_)
  have hlo : min a b < max a b := by omega
  have hhi : max a b ≤ r.n := by omega
  have e1 : min (a : Int) b = ((min a b : Nat) : Int) := by omega
  have e2 : max (a : Int) b = ((max a b : Nat) : Int) := by omega
  unfold streetN streetL
  generalize min a b = lo at *
  generalize max a b = hi at *
  refine W.loopC (σ := Nat) (fun k => [(1, vi a), (2, vi b), (3, .pointer (some ⟨b3, 0, none⟩)), (7, vi (sumTo r.n k : Int)), (8, .int .i64 (k : Int))]) (fun k => k ≤ lo) (fun k => lo - k) 0 ⟨rfl, rfl, rfl, rfl, rfl, trivial⟩ (Nat.zero_le _) ?_
  intro k hk
  have hsb := sumTo_le hn k
  refine W.seq (W.seq ?_)
  refine W.region ?_
  refine WL.val (OpVal.opv rfl) rfl rfl rfl ?_
  refine WL.val (OpVal.fieldAddrB rfl) rfl rfl rfl ?_
  refine WL.val (OpVal.fieldAddrB rfl) rfl rfl rfl ?_
  refine WL.val (OpVal.loadB rfl (.head _) rfl) rfl rfl rfl ?_
  refine WL.val (OpVal.len rfl (by assumption)) rfl rfl rfl ?_
  refine WL.val (OpVal.opv rfl) rfl rfl rfl ?_
  refine WL.nil ?_
  refine Kseq.go ?_
  refine W.condD rfl rfl (fun hlt => ?_) (fun hge => absurd hge (by omega))
  refine W.skip (Kseq.go (W.seq (W.block (W.seq ?_))))
  refine W.region ?_
  refine WL.val (OpVal.opv rfl) rfl rfl rfl ?_
  refine WL.val (OpVal.incr rfl (by omega)) rfl rfl rfl ?_
  refine WL.val (OpVal.opv rfl) rfl rfl rfl ?_
  refine WL.nil ?_
  refine Kseq.go (W.block ?_)
  refine W.loopC (σ := Nat) (fun j => [(1, vi a), (2, vi b), (3, .pointer (some ⟨b3, 0, none⟩)), (7, vi ((sumTo r.n k + (j - k - 1) : Nat) : Int)), (8, .int .i64 (k : Int)), (9, .int .i64 (j : Int))]) (fun j => k < j ∧ j ≤ r.n + 1 ∧ (k = lo → j ≤ hi)) (fun j => r.n + 1 - j) (k + 1) ⟨rfl, rfl, rfl, congrArg (fun z : Nat => some (vi (z : Int))) (by omega), rfl, rfl, trivial⟩ ⟨by omega, by omega, fun _ => by omega⟩ ?_
  rintro j ⟨h1, h2, h3⟩
  refine W.seq (W.seq ?_)
  refine W.region ?_
  refine WL.val (OpVal.opv rfl) rfl rfl rfl ?_
  refine WL.val (OpVal.fieldAddrB rfl) rfl rfl rfl ?_
  refine WL.val (OpVal.fieldAddrB rfl) rfl rfl rfl ?_
  refine WL.val (OpVal.loadB rfl (.head _) rfl) rfl rfl rfl ?_
  refine WL.val (OpVal.len rfl (by assumption)) rfl rfl rfl ?_
  refine WL.val (OpVal.opv rfl) rfl rfl rfl ?_
  refine WL.nil ?_
  refine Kseq.go ?_
  refine W.condD rfl rfl (fun hlt2 => ?_) (fun hge2 => ?_)
  · refine W.skip (Kseq.go (W.seq (W.block (W.seq (W.seq ?_)))))
    refine W.toS [(1, vi a), (2, vi b), (3, .pointer (some ⟨b3, 0, none⟩)), (7, vi ((sumTo r.n k + (j - k - 1) : Nat) : Int)), (8, .int .i64 (k : Int)), (9, .int .i64 (j : Int)), (39, .bool (decide (k = lo) && decide (j = hi)))] ?_ ?_
    · skip
      refine W.region ?_
      refine WL.val (OpVal.opv rfl) rfl rfl rfl ?_
      refine WL.val (OpVal.opv rfl) rfl rfl rfl ?_
      refine WL.val (OpVal.opv rfl) rfl rfl rfl ?_
      refine WL.val (OpVal.cast (OpVal.min2 rfl rfl) (congrArg (Value.int .i64) e1)) rfl rfl rfl ?_
      refine WL.val (OpVal.opv rfl) rfl rfl rfl ?_
      refine WL.val (OpVal.opv rfl) rfl rfl rfl ?_
      refine WL.split rfl rfl (fun g33 => ?_) (fun g33 => ?_)
      · refine WL.val (OpVal.opv rfl) rfl rfl rfl ?_
        refine WL.val (OpVal.opv rfl) rfl rfl rfl ?_
        refine WL.val (OpVal.opv rfl) rfl rfl rfl ?_
        refine WL.val (OpVal.cast (OpVal.max2 rfl rfl) (congrArg (Value.int .i64) e2)) rfl rfl rfl ?_
        refine WL.val (OpVal.opv rfl) rfl rfl rfl ?_
        refine WL.val (OpVal.opv rfl) rfl rfl rfl ?_
        refine WL.nil ?_
        skip
        exact Keff.intro ⟨rfl, rfl, rfl, rfl, rfl, rfl, congrArg (fun b => some (Value.bool b)) (by first | (simp [true_and, -List.getD_eq_getElem?_getD]; done) | (simp_all [-List.getD_eq_getElem?_getD]; done) | (simp [true_and, -List.getD_eq_getElem?_getD]; omega) | (rw [Bool.eq_iff_iff]; simp [true_and, -List.getD_eq_getElem?_getD]; omega) | (simp [true_and, -List.getD_eq_getElem?_getD] at *; omega)), trivial⟩ (by simp) (by repeat (first | exact List.Sublist.refl _ | refine List.Sublist.cons _ ?_ | refine List.Sublist.cons_cons _ ?_))
      · refine WL.pass rfl rfl rfl ?_
        refine WL.pass rfl rfl rfl ?_
        refine WL.pass rfl rfl rfl ?_
        refine WL.pass rfl rfl rfl ?_
        refine WL.pass rfl rfl rfl ?_
        refine WL.val (OpVal.opv rfl) rfl rfl rfl ?_
        refine WL.nil ?_
        skip
        exact Keff.intro ⟨rfl, rfl, rfl, rfl, rfl, rfl, congrArg (fun b => some (Value.bool b)) (by first | (simp [true_and, -List.getD_eq_getElem?_getD]; done) | (simp_all [-List.getD_eq_getElem?_getD]; done) | (simp [true_and, -List.getD_eq_getElem?_getD]; omega) | (rw [Bool.eq_iff_iff]; simp [true_and, -List.getD_eq_getElem?_getD]; omega) | (simp [true_and, -List.getD_eq_getElem?_getD] at *; omega)), trivial⟩ (by simp) (by repeat (first | exact List.Sublist.refl _ | refine List.Sublist.cons _ ?_ | refine List.Sublist.cons_cons _ ?_))
    refine Kseq.go ?_
    refine W.cond rfl rfl (fun he => ?_) (fun hne => ?_)
    · refine W.seq ?_
      refine W.region ?_
      refine WL.val (OpVal.opv rfl) rfl rfl rfl ?_
      refine WL.val (OpVal.opv rfl) rfl rfl rfl ?_
      refine WL.nil ?_
      refine Kseq.go ?_
      refine W.ret ?_; refine Kseq.ret (Kblock.ret (Kseq.ret (Kloop.ret (Kblock.ret (Kblock.ret (Kseq.ret (Kloop.ret (Kblock.ret (Kseq.ret ?_))))))))); refine ⟨.inl rfl, [_], h, ⟨.tmp rfl, trivial⟩, (by repeat (first | exact .head _ | refine .tail _ ?_)), ?_⟩
      simp only [Bool.and_eq_true, decide_eq_true_eq] at he
      obtain ⟨rfl, rfl⟩ := he
      rfl
    · simp only [Bool.and_eq_false_iff, decide_eq_false_iff_not] at hne
      refine W.skip (Kseq.go ?_)
      refine W.region ?_
      refine WL.val (OpVal.opv rfl) rfl rfl rfl ?_
      refine WL.val (OpVal.incr rfl (by omega)) rfl rfl rfl ?_
      refine WL.val (OpVal.opv rfl) rfl rfl rfl ?_
      refine WL.nil ?_
      refine Kblock.normal (Kseq.go ?_)
      skip
      refine W.region ?_
      refine WL.val (OpVal.opv rfl) rfl rfl rfl ?_
      refine WL.val (OpVal.incr rfl (by omega)) rfl rfl rfl ?_
      refine WL.val (OpVal.opv rfl) rfl rfl rfl ?_
      refine WL.nil ?_
      skip
      exact Kloop.nextC (j + 1) ⟨by omega, by omega, fun hkl => by have := h3 hkl; rcases hne with h4 | h4 <;> omega⟩ (by omega) ⟨rfl, rfl, rfl, congrArg (fun z : Int => some (vi z)) (by omega), rfl, rfl, trivial⟩ (by simp) (.refl _)
  · have hkl : k ≠ lo := fun e => by have := h3 e; omega
    have es : sumTo r.n (k + 1) = sumTo r.n k + (r.n - k) := rfl
    refine W.exit (Kseq.exit (Kloop.exit (Kblock.here (Kblock.normal (Kseq.go ?_)))))
    skip
    refine W.region ?_
    refine WL.val (OpVal.opv rfl) rfl rfl rfl ?_
    refine WL.val (OpVal.incr rfl (by omega)) rfl rfl rfl ?_
    refine WL.val (OpVal.opv rfl) rfl rfl rfl ?_
    refine WL.nil ?_
    skip
    exact Kloop.nextC (k + 1) (by omega) (by omega) ⟨rfl, rfl, rfl, congrArg (fun z : Nat => some (vi (z : Int))) (by omega), rfl, trivial⟩ (by simp) (.refl _)
/-- ref.Minutes -/
theorem minutesR_any {h : Mem} {v tv lv : Value} {r : Errand} {tr walk : List Int} (hv : IsErrand h v r) (hV : ValidE r) (ht : TruthE r tr) (hw : Walk r.n walk) (htv : IsInts h tv tr) (hl : IsInts h lv walk) : FnR Tryz.prog 87 #[v, tv, lv] h (fun m q => IsInts m q (minutes r tr walk)) := by
  have hv' := hv
  obtain ⟨wv, pv, hov, sv, f, rfl, hW, hP, hM, hH, hS⟩ := hv
  have hn := hV.women
  have hlb := hl.bd
  have h7 := hw.len
  refine FnR.of_W (n := 50) Tryz.func87 rfl rfl (Nat.le_of_ble_eq_true rfl) fun c hr hD hF => ?_
  refine W.seq ?_
  refine W.region ?_
  refine WL.box rfl rfl rfl rfl (fun b3 => ?_)
  refine WL.val (OpVal.opv rfl) rfl rfl rfl ?_
  refine WL.nil ?_
  refine Kseq.go (W.seq ?_)
  skip
  refine W.region ?_
  refine WL.val (OpVal.opv rfl) rfl rfl rfl ?_
  refine WL.nil ?_
  refine Kseq.go (W.seq ?_)
  skip
  refine W.draw 7 (by kernel_rfl) (by kernel_rfl) (by kernel_rfl) rfl ?_
  refine DJ.val [] (OpVal.fieldAddrB rfl) rfl rfl rfl rfl ?_
  refine DJ.val [] (OpVal.fieldAddrB rfl) rfl rfl rfl rfl ?_
  refine DJ.val [] (OpVal.loadB rfl (.head _) rfl) rfl rfl rfl rfl ?_
  refine DJ.val [] (OpVal.len rfl (by assumption)) rfl rfl rfl rfl ?_
  refine DJ.val [] (OpVal.fieldAddrB rfl) rfl rfl rfl rfl ?_
  refine DJ.val [] (OpVal.loadB rfl (.head _) rfl) rfl rfl rfl rfl ?_
  refine DJ.val [] (OpVal.opv rfl) rfl rfl rfl rfl ?_
  refine DJ.nil ?_
  refine WL.val (OpVal.opv rfl) rfl rfl rfl ?_
  refine WL.nil ?_
  refine Kseq.go (W.seq (W.seq ?_))
  skip
  refine W.region ?_
  refine WL.val (OpVal.opv rfl) rfl rfl rfl ?_
  refine WL.nil ?_
  refine Kseq.go (W.block ?_)
  refine W.nilRow 3 1 ?_
  refine W.loopA (σ := Nat × Value) (fun s => [(1, tv), (2, lv), (3, .pointer (some ⟨b3, 0, none⟩)), (7, s.2), (8, vi (placeAt r.n walk s.1)), (9, vi (minuteAt r tr walk s.1)), (10, .int .i64 (s.1 : Int))]) (fun s => ir 3 s.2 (minutesTo r tr walk s.1)) (fun s => s.1 ≤ walk.length) (fun s => walk.length - s.1) (0, .slice none 0 0) ⟨rfl, rfl, rfl, rfl, rfl, rfl, rfl, trivial⟩ rfl (Nat.zero_le _) ?_
  rintro ⟨k, a⟩ hk
  dsimp only at hk ⊢
  have hml := minutesTo_len r tr walk k
  refine W.seq (W.seq ?_)
  refine W.region ?_
  refine WL.val (OpVal.opv rfl) rfl rfl rfl ?_
  refine WL.val (OpVal.opv rfl) rfl rfl rfl ?_
  refine WL.val (OpVal.len rfl (by assumption)) rfl rfl rfl ?_
  refine WL.val (OpVal.opv rfl) rfl rfl rfl ?_
  refine WL.nil ?_
  refine Kseq.go ?_
  refine W.condD rfl rfl (fun hlt => ?_) (fun hge => ?_)
  · have hkw : k < walk.length := by omega
    obtain ⟨k1, k2, k3, k4, k5⟩ := hw.step hkw
    have hst := hw.street hn hkw
    have hb := minuteAt_bound hV ht hw k (by omega)
    have hsm := ht.small hV (i := streetN r.n (placeAt r.n walk k).toNat (walk.getD k 0).toNat) (by rw [hV.streetsLen]; exact hst)
    have hhl := hV.homeLen
    have hcall : ∀ m, MLe h m → FnV Tryz.prog 106 #[.agg (ecs wv pv hov sv r), vi (placeAt r.n walk k), vi (walk.getD k 0)] m (vi (streetN r.n (placeAt r.n walk k).toNat (walk.getD k 0).toNat : Int)) := fun m hm => by
      have := streetR_any (a := (placeAt r.n walk k).toNat) (b := (walk.getD k 0).toNat) (hv'.le hm) (by omega) (by omega) (by omega) (by omega)
      rw [show (((placeAt r.n walk k).toNat : Nat) : Int) = placeAt r.n walk k by omega, show (((walk.getD k 0).toNat : Nat) : Int) = walk.getD k 0 by omega] at this
      exact this
    have hsl : streetN r.n (placeAt r.n walk k).toNat (walk.getD k 0).toNat < tr.length := by rw [ht.len, hV.streetsLen]; exact hst
    refine W.skip (Kseq.go (W.seq (W.block (W.seq ?_))))
    refine W.region ?_
    refine WL.val (OpVal.opv rfl) rfl rfl rfl ?_
    refine WL.val (OpVal.opv rfl) rfl rfl rfl ?_
    refine WL.val (OpVal.indexAddrN rfl rfl (by assumption) (by omega)) rfl rfl rfl ?_
    refine WL.val (OpVal.loadE rfl (by assumption) (by repeat (first | exact .head _ | refine .tail _ ?_)) (by omega) (by omega)) rfl rfl rfl ?_
    refine WL.val (OpVal.opv rfl) rfl rfl rfl ?_
    refine WL.nil ?_
    refine Kseq.go (W.seq ?_)
    skip
    refine W.draw 15 (by kernel_rfl) (by kernel_rfl) (by kernel_rfl) rfl ?_
    refine DJ.val [] (OpVal.opv rfl) rfl rfl rfl rfl ?_
    refine DJ.val [] (OpVal.opv rfl) rfl rfl rfl rfl ?_
    refine DJ.val [] (OpVal.loadBW rfl (.tail _ (.head _)) rfl) rfl rfl rfl rfl ?_
    refine DJ.val [] (OpVal.opv rfl) rfl rfl rfl rfl ?_
    refine DJ.val [] (OpVal.opv rfl) rfl rfl rfl rfl ?_
    refine DJ.val [] (OpVal.call rfl (fun m hm => hcall m (by repeat (first | exact hm.1 | replace hm := hm.2)))) rfl rfl rfl rfl ?_
    refine DJ.val [] (OpVal.indexAddrN rfl rfl htv hsl) rfl rfl rfl rfl ?_
    refine DJ.val [] (OpVal.loadE rfl htv (by repeat (first | exact .head _ | refine .tail _ ?_)) hsl (by omega)) rfl rfl rfl rfl ?_
    refine DJ.val [] (OpVal.add rfl rfl (by omega) (by omega)) rfl rfl rfl rfl ?_
    refine DJ.val [] (OpVal.fieldAddrB rfl) rfl rfl rfl rfl ?_
    refine DJ.val [] (OpVal.loadB rfl (.tail _ (.head _)) rfl) rfl rfl rfl rfl ?_
    refine DJ.val [] (OpVal.opv rfl) rfl rfl rfl rfl ?_
    refine DJ.val [] (OpVal.indexAddr rfl rfl hH (by omega) (by omega)) rfl rfl rfl rfl ?_
    refine DJ.val [] (OpVal.fieldAddrN rfl hH (by omega)) rfl rfl rfl rfl ?_
    refine DJ.val [] (OpVal.loadE rfl hH (by repeat (first | exact .head _ | refine .tail _ ?_)) (by omega) (by omega)) rfl rfl rfl rfl ?_
    refine DJ.nil ?_
    refine WL.val (OpVal.cast (OpVal.max2 rfl rfl) (show _ = vi (minuteAt r tr walk (k + 1)) from congrArg (Value.int .i64) (by simp only [minuteAt]; omega))) rfl rfl rfl ?_
    refine WL.val (OpVal.opv rfl) rfl rfl rfl ?_
    refine WL.nil ?_
    refine Kseq.go ?_
    skip
    refine W.region ?_
    refine WL.val (OpVal.opv rfl) rfl rfl rfl ?_
    refine WL.val (OpVal.opv rfl) rfl rfl rfl ?_
    refine WL.abs (OpAbs.lit [_] rfl (Nat.le_of_ble_eq_true rfl) rfl rfl (by simp [Value.cells]) (Nat.le_of_ble_eq_true rfl) rfl (by first | (simp [Value.oneCell']; done) | exact List.all_eq_true.1 rfl)) rfl rfl rfl ?_
    rintro m46 _ ⟨hc46, a46, rfl⟩
    refine WL.appInt rfl (fun _ => (.head _)) rfl (by assumption) (by repeat (first | exact .head _ | refine .tail _ ?_)) (by omega) rfl rfl rfl ?_
    intro a47 cp47
    refine WL.val (OpVal.opv rfl) rfl rfl rfl ?_
    refine WL.val (OpVal.opv rfl) rfl rfl rfl ?_
    refine WL.val (OpVal.opv rfl) rfl rfl rfl ?_
    refine WL.nil ?_
    refine Kblock.normal (Kseq.go ?_)
    skip
    refine W.region ?_
    refine WL.val (OpVal.opv rfl) rfl rfl rfl ?_
    refine WL.val (OpVal.incr rfl (by omega)) rfl rfl rfl ?_
    refine WL.val (OpVal.opv rfl) rfl rfl rfl ?_
    refine WL.nil ?_
    skip
    refine Kloop.next (k + 1, .slice a47 ((minutesTo r tr walk k).length + 1) cp47) (by omega) (by omega) ⟨rfl, rfl, rfl, rfl, rfl, rfl, rfl, trivial⟩ (by simp) ?_
    dsimp only
    rw [minutesTo_succ]
    exact (by repeat (first | exact List.Sublist.refl _ | refine List.Sublist.cons _ ?_ | refine List.Sublist.cons_cons _ ?_))
  · refine W.exit (Kseq.exit (Kloop.exit (Kblock.here (Kseq.go (W.seq ?_)))))
    have : k = walk.length := by omega
    subst this
    refine W.freezeInts (.head _) (fun b hb => (hF b hb).elim) fun mr hmr => ?_
    skip
    refine W.region ?_
    refine WL.val (OpVal.opv rfl) rfl rfl rfl ?_
    refine WL.val (OpVal.opv rfl) rfl rfl rfl ?_
    refine WL.nil ?_
    refine Kseq.go ?_
    refine W.ret ?_; skip; refine ⟨.inl rfl, [_], mr, ⟨.tmp rfl, trivial⟩, (by repeat (first | exact .head _ | refine .tail _ ?_)), ?_⟩
    exact hmr
/-- The first call that may be too late, or -1. -/
def lateR (r : Errand) (walk : List Int) : Int := if lateN r walk = walk.length then -1 else (lateN r walk : Int)
/-- ref.Late -/
theorem lateR_any {h : Mem} {v lv : Value} {r : Errand} {walk : List Int} (hv : IsErrand h v r) (hV : ValidE r) (hw : Walk r.n walk) (hl : IsInts h lv walk) : FnV Tryz.prog 59 #[v, lv] h (vi (lateR r walk)) := by
  have hv' := hv
  obtain ⟨wv, pv, hov, sv, f, rfl, hW, hP, hM, hH, hS⟩ := hv
  have hlb := hl.bd
  have h7 := hw.len
  have hml := minutes_len r (greatestE r) walk
  refine FnR.val ?_
  refine FnR.of_W (n := 33) Tryz.func59 rfl rfl (Nat.le_of_ble_eq_true rfl) fun c hr hD hF => ?_
  refine W.seq ?_
  refine W.region ?_
  refine WL.box rfl rfl rfl rfl (fun b2 => ?_)
  refine WL.val (OpVal.opv rfl) rfl rfl rfl ?_
  refine WL.nil ?_
  refine Kseq.go (W.seq ?_)
  skip
  refine W.draw 4 (by kernel_rfl) (by kernel_rfl) (by kernel_rfl) rfl ?_
  refine DJ.val [] (OpVal.loadBW rfl (.head _) rfl) rfl rfl rfl rfl ?_
  refine DJ.val [] (OpVal.loadBW rfl (.head _) rfl) rfl rfl rfl rfl ?_
  refine DJ.abs (A := fun m q => IsInts m q (greatestE r)) [] (OpAbs.call rfl (fun m hm => greatestR_any (hv'.le (by repeat (first | exact hm.1 | replace hm := hm.2))) (by have := hV.streetsLen; have := streets_le hV.women; omega))) rfl rfl rfl rfl ?_
  refine DJ.val [] (OpVal.opv rfl) rfl rfl rfl rfl ?_
  refine DJ.nil ?_
  rintro m9 v9 h9
  refine WL.abs (OpAbs.call rfl (fun m hm => minutesR_any (hv'.le (by repeat (first | exact hm.1 | replace hm := hm.2))) hV (greatest_truth hV) hw (h9.le (by repeat (first | exact hm.1 | replace hm := hm.2))) (hl.le (by repeat (first | exact hm.1 | replace hm := hm.2))))) rfl rfl rfl ?_
  rintro m11 v11 h11
  refine WL.val (OpVal.opv rfl) rfl rfl rfl ?_
  refine WL.nil ?_
  refine Kseq.go (W.seq (W.seq ?_))
  skip
  refine W.region ?_
  refine WL.val (OpVal.opv rfl) rfl rfl rfl ?_
  refine WL.nil ?_
  refine Kseq.go (W.block ?_)
  refine W.loopC (σ := Nat) (fun k => [(1, lv), (2, .pointer (some ⟨b2, 0, none⟩)), (5, v11), (6, .int .i64 (k : Int))]) (fun k => k ≤ walk.length ∧ ∀ j, j < k → inTime r walk j = true) (fun k => walk.length - k) 0 ⟨rfl, rfl, rfl, rfl, trivial⟩ ⟨Nat.zero_le _, fun j hj => absurd hj (Nat.not_lt_zero _)⟩ ?_
  rintro k ⟨hk, hall⟩
  refine W.seq (W.seq ?_)
  refine W.region ?_
  refine WL.val (OpVal.opv rfl) rfl rfl rfl ?_
  refine WL.val (OpVal.opv rfl) rfl rfl rfl ?_
  refine WL.val (OpVal.len rfl (by assumption)) rfl rfl rfl ?_
  refine WL.val (OpVal.opv rfl) rfl rfl rfl ?_
  refine WL.nil ?_
  refine Kseq.go ?_
  refine W.condD rfl rfl (fun hlt => ?_) (fun hge => ?_)
  · have hkw : k < walk.length := by omega
    have hwk := hw.lt k hkw
    have hhl := hV.homeLen
    refine W.skip (Kseq.go (W.seq (W.block (W.seq ?_))))
    refine W.draw 13 (by kernel_rfl) (by kernel_rfl) (by kernel_rfl) rfl ?_
    refine DJ.val [] (OpVal.opv rfl) rfl rfl rfl rfl ?_
    refine DJ.val [] (OpVal.opv rfl) rfl rfl rfl rfl ?_
    refine DJ.val [] (OpVal.indexAddrN rfl rfl h11 (by omega)) rfl rfl rfl rfl ?_
    refine DJ.val [] (OpVal.cast (OpVal.loadE rfl h11 (by repeat (first | exact .head _ | refine .tail _ ?_)) (by omega) (by omega)) (congrArg (Value.int .i64) (minutes_get hkw))) rfl rfl rfl rfl ?_
    refine DJ.val [] (OpVal.fieldAddrB rfl) rfl rfl rfl rfl ?_
    refine DJ.val [] (OpVal.loadB rfl (.head _) rfl) rfl rfl rfl rfl ?_
    refine DJ.val [] (OpVal.opv rfl) rfl rfl rfl rfl ?_
    refine DJ.val [] (OpVal.opv rfl) rfl rfl rfl rfl ?_
    refine DJ.val [] (OpVal.indexAddrN rfl rfl hl (by omega)) rfl rfl rfl rfl ?_
    refine DJ.val [] (OpVal.loadE rfl hl (by repeat (first | exact .head _ | refine .tail _ ?_)) (by omega) (by omega)) rfl rfl rfl rfl ?_
    refine DJ.val [] (OpVal.indexAddr rfl rfl hH (by omega) (by omega)) rfl rfl rfl rfl ?_
    refine DJ.val [] (OpVal.fieldAddrN rfl hH (by omega)) rfl rfl rfl rfl ?_
    refine DJ.val [] (OpVal.loadE rfl hH (by repeat (first | exact .head _ | refine .tail _ ?_)) (by omega) (by omega)) rfl rfl rfl rfl ?_
    refine DJ.nil ?_
    refine WL.val (OpVal.opv rfl) rfl rfl rfl ?_
    refine WL.nil ?_
    refine Kseq.go ?_
    refine W.condD rfl rfl (fun he => ?_) (fun hne => ?_)
    · refine W.seq ?_
      refine W.region ?_
      refine WL.val (OpVal.opv rfl) rfl rfl rfl ?_
      refine WL.val (OpVal.opv rfl) rfl rfl rfl ?_
      refine WL.nil ?_
      refine Kseq.go ?_
      refine W.ret ?_; refine Kblock.ret (Kseq.ret (Kloop.ret (Kblock.ret (Kseq.ret ?_)))); refine ⟨.inl rfl, [_], h, ⟨.tmp rfl, trivial⟩, (by repeat (first | exact .head _ | refine .tail _ ?_)), ?_⟩
      have e : lateN r walk = k := fstNo_at hkw hall (decide_eq_false (by omega))
      exact congrArg (Value.int .i64) (by unfold lateR; rw [if_neg (by omega), e])
    · refine W.skip (Kblock.normal (Kseq.go ?_))
      refine W.region ?_
      refine WL.val (OpVal.opv rfl) rfl rfl rfl ?_
      refine WL.val (OpVal.incr rfl (by omega)) rfl rfl rfl ?_
      refine WL.val (OpVal.opv rfl) rfl rfl rfl ?_
      refine WL.nil ?_
      skip
      refine Kloop.nextC (k + 1) ⟨by omega, fun j hj => ?_⟩ (by omega) ⟨rfl, rfl, rfl, rfl, trivial⟩ (by simp) (.refl _)
      rcases Nat.lt_succ_iff_lt_or_eq.1 hj with h3 | rfl
      · exact hall j h3
      · exact decide_eq_true (by omega)
  · refine W.exit (Kseq.exit (Kloop.exit (Kblock.here (Kseq.go (W.seq ?_)))))
    skip
    refine W.region ?_
    refine WL.val (OpVal.opv rfl) rfl rfl rfl ?_
    refine WL.nil ?_
    refine Kseq.go ?_
    refine W.ret ?_; skip; refine ⟨.inl rfl, [_], h, ⟨.tmp rfl, trivial⟩, (by repeat (first | exact .head _ | refine .tail _ ?_)), ?_⟩
    have e : lateN r walk = walk.length := fstNo_all (fun j hj => hall j (by omega))
    exact congrArg (Value.int .i64) (by unfold lateR; rw [if_pos e])
end Go.Proofs.YtdjkokpbeaapoaaGreat
