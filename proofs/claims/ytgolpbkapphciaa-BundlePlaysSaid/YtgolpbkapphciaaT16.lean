/- The program's iterator over all owners: its contract. -/
import Derived.Test.YtgolpbkapphciaaT15
import Derived.Test.YtgolpbkapphciaaP3
namespace Go.Proofs.Ytgolpbkapphciaa
open Go Go.Eng Go.RowKit

abbrev arrV (q : List Int) : Array Value := (q.map vi).toArray
theorem mem3 {x y : Mem} {A B : List Mem} : ∀ m ∈ x :: y :: A, m ∈ A ++ x :: y :: B := fun m h => by
  rcases List.mem_cons.1 h with rfl | h
  · exact List.mem_append_right _ (.head _)
  · rcases List.mem_cons.1 h with rfl | h
    · exact List.mem_append_right _ (.tail _ (.head _))
    · exact List.mem_append_left _ h
theorem arr_set {q : List Int} {k : Nat} (h : k < q.length) (w : Int) : (arrV q).toList.take (0 + k) ++ ((vi w).cells.toList ++ (arrV q).toList.drop (0 + k + 1)) = (q.set k w).map vi := by
  show (q.map vi).take (0 + k) ++ ([vi w] ++ (q.map vi).drop (0 + k + 1)) = _
  rw [Nat.zero_add, List.map_set, List.set_eq_take_append_cons_drop, if_pos (by simpa using h)]; rfl
/-- choose -/
theorem choose_any {t : Table} (hs : Sm t) (h7 : t.pieces.length ≤ 7) {hm : Mem} {tv : Value} (hv : IsTable hm tv t) {b1 b2 b3 b4 l0 : Nat}
    (hb1 : IsBox hm b1 tv.cells 35) (hb2 : IsBox hm b2 #[.func (.yield l0) #[] #[]] 140) (hb4 : IsBox hm b4 #[.func (.func 110) #[] #[.pointer (some ⟨b1, 0, none⟩), .pointer (some ⟨b2, 0, none⟩), .pointer (some ⟨b3, 0, none⟩), .pointer (some ⟨b4, 0, none⟩)]] 138)
    {N : Nat} {item : Nat → Value} {St : Nat → List Mem → List Res → Prop} {Sp : List Mem → List Res → Prop} (hStm : ∀ k Ms μ, St k Ms μ → marksOf μ = []) (hSpm : ∀ Ms μ, Sp Ms μ → marksOf μ = [])
    (hY : ∀ k, k < N → ∀ Ms μ, St k Ms μ → YieldM Try.prog l0 #[item k] Ms μ fun v Ms' μ' => (v = .bool true ∧ St (k + 1) Ms' μ') ∨ (v = .bool false ∧ Sp Ms' μ')) :
    ∀ (r : Nat) (pre q : List Int), pre.length + r = t.pieces.length → Works t pre q → ∀ k0, k0 + (tails t r).length ≤ N → (∀ j, j < (tails t r).length → item (k0 + j) = ownV (pre ++ (tails t r).getD j [])) →
    ∀ Ms μ, St k0 Ms μ → FnM Try.prog 110 #[.int .i64 (pre.length : Int), .pointer (some ⟨b1, 0, none⟩), .pointer (some ⟨b2, 0, none⟩), .pointer (some ⟨b3, 0, none⟩), .pointer (some ⟨b4, 0, none⟩)] (hm :: Ms) (.blk b3 (arrV q) 121 :: μ)
      fun v Ms' μ' => ∃ q' μ1, Works t pre q' ∧ μ' = .blk b3 (arrV q') 121 :: μ1 ∧ ((v = .bool true ∧ St (k0 + (tails t r).length) Ms' μ1) ∨ (v = .bool false ∧ Sp Ms' μ1)) := by
  intro r
  induction r with
  | zero =>
    intro pre q hlen hq k0 hN hitem Ms μ hSt
    obtain ⟨wv, pv, f, rfl, hW, hP, hM⟩ := hv
    have hpl : pre.length = t.pieces.length := by omega
    have hq' := hq.done hpl h7
    have hq7 := hq.1
    refine FnM.of_W (n := 38) Try.func110 rfl rfl (Nat.le_of_ble_eq_true rfl) (by have := hStm _ _ _ hSt; exact this) fun c hr hD hF => ?_
    skip
    refine W.seq ?_
    refine W.region ?_
    refine WL.val (OpVal.opv rfl) rfl rfl rfl ?_
    refine WL.nil ?_
    refine Kseq.go (W.seq (W.seq ?_))
    skip
    refine W.region ?_
    refine WL.val (OpVal.opv rfl) rfl rfl rfl ?_
    refine WL.val (OpVal.fieldAddrB rfl) rfl rfl rfl ?_
    refine WL.val (OpVal.loadP rfl (by assumption) (by repeat (first | exact .head _ | refine .tail _ ?_)) rfl) rfl rfl rfl ?_
    refine WL.val (OpVal.len rfl (by assumption)) rfl rfl rfl ?_
    refine WL.val (OpVal.opv rfl) rfl rfl rfl ?_
    refine WL.nil ?_
    refine Kseq.go ?_
    refine W.condD rfl rfl (fun he => ?_) (fun hne => absurd (by omega) hne)
    have hyy := hY k0 (by have : (tails t 0).length = 1 := rfl; omega) Ms μ hSt
    have hit0 := hitem 0 (by show 0 < 1; omega)
    refine W.seq ?_
    refine W.region ?_
    refine WL.val (OpVal.loadP rfl (by assumption) (by repeat (first | exact .head _ | refine .tail _ ?_)) rfl) rfl rfl rfl ?_
    refine WL.val (OpVal.loadBW rfl (.head _) (by simp [hq7])) rfl rfl rfl ?_
    (refine WL.yieldM rfl rfl (fun m hm => .tail _ hm) (.r _ (Split.all μ)) (hStm _ _ _ hSt) (by rw [Nat.add_zero] at hit0; rw [hit0] at hyy; rw [hq']; simpa [tails] using hyy) rfl rfl rfl ?_; rintro v16 M1 a1 hQ)
    refine WL.val (OpVal.opv rfl) rfl rfl rfl ?_
    refine WL.nil ?_
    refine Kseq.go ?_
    refine W.ret ?_; refine Kseq.ret ?_
    refine ⟨.inl rfl, [_], M1, .blk b3 (arrV q) 121 :: a1, ⟨.tmp rfl, trivial⟩, ⟨q, a1, hq, rfl, hQ⟩, fun m hm => List.mem_append_left _ hm, .refl _, fun s hs => ?_⟩
    rcases List.mem_cons.1 hs with rfl | hs
    · rfl
    · rcases hQ with ⟨_, h⟩ | ⟨_, h⟩
      · exact none_of_marks (hStm _ _ _ h) s hs
      · exact none_of_marks (hSpm _ _ h) s hs
  | succ r ih =>
    intro pre q hlen hq k0 hN hitem Ms μ hSt
    have hv' := hv
    obtain ⟨wv, pv, f, rfl, hW, hP, hM⟩ := hv
    have hk : pre.length < t.pieces.length := by omega
    have hq7 := hq.1
    have hTl := tails_len t r
    have hke : t.pieces.length - (r + 1) = pre.length := by omega
    rw [hke] at hTl
    have hMk := hM pre.length hk
    obtain ⟨T, hTd⟩ : ∃ T, (tails t r).length = T := ⟨_, rfl⟩
    rw [hTd] at hTl ih
    refine FnM.of_W (n := 38) Try.func110 rfl rfl (Nat.le_of_ble_eq_true rfl) (by have := hStm _ _ _ hSt; exact this) fun c hr hD hF => ?_
    skip
    refine W.seq ?_
    refine W.region ?_
    refine WL.val (OpVal.opv rfl) rfl rfl rfl ?_
    refine WL.nil ?_
    refine Kseq.go (W.seq (W.seq ?_))
    skip
    refine W.region ?_
    refine WL.val (OpVal.opv rfl) rfl rfl rfl ?_
    refine WL.val (OpVal.fieldAddrB rfl) rfl rfl rfl ?_
    refine WL.val (OpVal.loadP rfl (by assumption) (by repeat (first | exact .head _ | refine .tail _ ?_)) rfl) rfl rfl rfl ?_
    refine WL.val (OpVal.len rfl (by assumption)) rfl rfl rfl ?_
    refine WL.val (OpVal.opv rfl) rfl rfl rfl ?_
    refine WL.nil ?_
    refine Kseq.go ?_
    refine W.condD rfl rfl (fun he => absurd he (by omega)) (fun hne => ?_)
    refine W.skip (Kseq.go (W.seq (W.seq ?_)))
    refine W.draw 9 (by kernel_rfl) (by kernel_rfl) (by kernel_rfl) rfl ?_
    refine DJ.val [] (OpVal.loadPW rfl (by assumption) (by repeat (first | exact .head _ | refine .tail _ ?_)) (by rfl)) rfl rfl rfl rfl ?_
    refine DJ.val [] (OpVal.fieldAddrB rfl) rfl rfl rfl rfl ?_
    refine DJ.val [] (OpVal.loadP rfl (by assumption) (by repeat (first | exact .head _ | refine .tail _ ?_)) rfl) rfl rfl rfl rfl ?_
    refine DJ.val [] (OpVal.opv rfl) rfl rfl rfl rfl ?_
    refine DJ.val [] (OpVal.indexAddrN rfl rfl (by assumption) (by omega)) rfl rfl rfl rfl ?_
    refine DJ.val [] (OpVal.loadEA rfl (by assumption) (by repeat (first | exact .head _ | refine .tail _ ?_)) (by omega)) rfl rfl rfl rfl ?_
    refine DJ.abs (A := fun m r => IsInts m r (womenOf t pre.length)) [] (OpAbs.call rfl (fun m hm => of_any (hv'.le (by repeat (first | exact hm.1 | replace hm := hm.2))) hs (hMk.le (by repeat (first | exact hm.1 | replace hm := hm.2))))) rfl rfl rfl rfl ?_
    refine DJ.val [(23, fun m r => IsInts m r (womenOf t pre.length))] (fun m23 v23 h23 => OpVal.len rfl (by assumption)) rfl rfl rfl rfl ?_ (hG := ⟨(by repeat (first | exact .head _ | refine .tail _ ?_)), rfl, trivial⟩)
    refine DJ.val [] (OpVal.opv rfl) rfl rfl rfl rfl ?_
    refine DJ.nil ?_
    rintro m23 v23 h23
    refine WL.nil ?_
    refine Kseq.go (W.block ?_)
    refine W.loop (σ := Nat × List Int × List Mem × List Res) (fun s => [(0, .int .i64 (pre.length : Int)), (1, .pointer (some ⟨b1, 0, none⟩)), (2, .pointer (some ⟨b2, 0, none⟩)), (3, .pointer (some ⟨b3, 0, none⟩)), (4, .pointer (some ⟨b4, 0, none⟩)), (23, v23), (24, .int .i64 ((womenOf t pre.length).length : Int)), (25, .int .i64 (s.1 : Int))])
      (fun s => m23 :: hm :: s.2.2.1) (fun s => .blk b3 (arrV s.2.1) 121 :: s.2.2.2) (fun s => s.1 ≤ (womenOf t pre.length).length ∧ Works t pre s.2.1 ∧ St (k0 + s.1 * T) s.2.2.1 s.2.2.2) (fun s => (womenOf t pre.length).length - s.1) (0, q, Ms, μ) ⟨rfl, rfl, rfl, rfl, rfl, rfl, rfl, rfl, trivial⟩ (fun _ h => h) (.refl _) ⟨Nat.zero_le _, hq, by simpa using hSt⟩ ?_
    rintro ⟨j, q1, Ms1, μ1⟩ ⟨hj, hq1, hSt1⟩
    dsimp only at hj hq1 hSt1 ⊢
    have hwl : (womenOf t pre.length).length ≤ t.women.length := sel_len _ _
    have hs1 := hs.1
    refine W.seq ?_
    refine W.region ?_
    refine WL.val (OpVal.opv rfl) rfl rfl rfl ?_
    refine WL.nil ?_
    refine Kseq.go (W.seq ?_)
    refine W.condD rfl rfl (fun hlt => ?_) (fun hge => ?_)
    · have hjW : j < (womenOf t pre.length).length := by omega
      have hjT : (j + 1) * T ≤ (womenOf t pre.length).length * T := Nat.mul_le_mul_right _ hjW
      have hjT' : (j + 1) * T = j * T + T := by rw [Nat.add_mul, Nat.one_mul]
      have hq17 := hq1.1
      have e : (pre ++ [(womenOf t pre.length).getD j 0]).length = pre.length + 1 := by simp
      have hset := hq1.set hk h7 ((womenOf t pre.length).getD j 0)
      have ih' := ih (pre ++ [(womenOf t pre.length).getD j 0]) (q1.set pre.length ((womenOf t pre.length).getD j 0)) (by rw [e]; omega) hset (k0 + j * T) (by omega) (fun i hi => by
        have h1 := hitem (j * T + i) (by rw [hTl]; omega)
        have h2 := tails_get (t := t) (r := r) (j := j) (i := i) (by rw [hke]; exact hjW) (by rw [hTd]; exact hi)
        rw [hke, hTd] at h2
        rw [h2] at h1
        rw [Nat.add_assoc, h1, List.append_assoc]; rfl) Ms1 μ1 hSt1
      rw [e] at ih'
      refine W.skip (Kseq.go (W.seq (W.block (W.seq ?_))))
      refine W.region ?_
      refine WL.val (OpVal.indexAddrN rfl rfl (by assumption) (by omega)) rfl rfl rfl ?_
      refine WL.val (OpVal.loadE rfl (by assumption) (by repeat (first | exact .head _ | refine .tail _ ?_)) (by omega) (by omega)) rfl rfl rfl ?_
      refine WL.val (OpVal.opv rfl) rfl rfl rfl ?_
      refine WL.nil ?_
      refine Kseq.go (W.seq ?_)
      skip
      refine W.region ?_
      refine WL.val (OpVal.opv rfl) rfl rfl rfl ?_
      refine WL.val (OpVal.opv rfl) rfl rfl rfl ?_
      refine WL.val (OpVal.indexAddrB rfl rfl (by omega)) rfl rfl rfl ?_
      (refine WL.store (size := 1) ((q1.set pre.length ((womenOf t pre.length).getD j 0)).map vi) rfl (.head _) rfl rfl rfl (by simp [hq17]; omega) (by simp [Value.cells, Value.oneCell']) (arr_set (by omega) _) ?_)
      refine WL.nil ?_
      refine Kseq.go (W.seq ?_)
      skip
      refine W.region ?_
      refine WL.val (OpVal.loadP rfl (by assumption) (by repeat (first | exact .head _ | refine .tail _ ?_)) rfl) rfl rfl rfl ?_
      refine WL.val (OpVal.opv rfl) rfl rfl rfl ?_
      refine WL.val (OpVal.incr rfl (by omega)) rfl rfl rfl ?_
      refine WL.callM rfl rfl (fun m hx => .tail _ hx) (Split.all _) (by have := hStm _ _ _ hSt1; exact this) ih' rfl rfl rfl ?_
      rintro v35 M1 a1 ⟨q2, μ2, hq2, rfl, hQ⟩
      rcases hQ with ⟨rfl, h⟩ | ⟨rfl, h⟩
      · refine WL.val (OpVal.opv rfl) rfl rfl rfl ?_
        refine WL.nil ?_
        refine Kseq.go ?_
        refine W.condF rfl rfl ?_
        refine W.skip (Kblock.normal (Kseq.go ?_))
        refine W.region ?_
        refine WL.val (OpVal.incr rfl (by omega)) rfl rfl rfl ?_
        refine WL.val (OpVal.opv rfl) rfl rfl rfl ?_
        refine WL.nil ?_
        skip
        exact Kloop.next (j + 1, q2, M1, μ2) ⟨hjW, hq2.back, by dsimp only; rw [hjT', ← Nat.add_assoc]; exact h⟩ (by dsimp only; omega) ⟨rfl, rfl, rfl, rfl, rfl, rfl, rfl, rfl, trivial⟩ mem3 (.refl _)
      · refine WL.val (OpVal.opv rfl) rfl rfl rfl ?_
        refine WL.nil ?_
        refine Kseq.go ?_
        refine W.condT rfl rfl ?_
        refine W.seq ?_
        refine W.region ?_
        refine WL.val (OpVal.opv rfl) rfl rfl rfl ?_
        refine WL.nil ?_
        refine Kseq.go ?_
        refine W.ret ?_; refine Kblock.ret (Kseq.ret (Kloop.ret (Kblock.ret (Kseq.ret ?_))))
        refine ⟨.inl rfl, [_], M1, .blk b3 (arrV q2) 121 :: μ2, ⟨.tmp rfl, trivial⟩, ⟨q2, μ2, hq2.back, rfl, .inr ⟨rfl, h⟩⟩, fun m hm => List.mem_append_left _ hm, .refl _, fun s hs => ?_⟩
        rcases List.mem_cons.1 hs with rfl | hs
        · rfl
        · exact none_of_marks (hSpm _ _ h) s hs
    · have hjW : j = (womenOf t pre.length).length := by omega
      subst hjW
      refine W.exit (Kseq.exit (Kloop.exit (Kblock.here (Kseq.go (W.seq ?_)))))
      refine W.region ?_
      refine WL.val (OpVal.opv rfl) rfl rfl rfl ?_
      refine WL.nil ?_
      refine Kseq.go ?_
      refine W.ret ?_; skip
      refine ⟨.inl rfl, [_], Ms1, .blk b3 (arrV q1) 121 :: μ1, ⟨.tmp rfl, trivial⟩, ⟨q1, μ1, hq1, rfl, .inl ⟨rfl, by rw [hTl]; exact hSt1⟩⟩, fun m hm => .tail _ (.tail _ hm), .refl _, fun s hs => ?_⟩
      rcases List.mem_cons.1 hs with rfl | hs
      · rfl
      · exact none_of_marks (hStm _ _ _ hSt1) s hs
end Go.Proofs.Ytgolpbkapphciaa
