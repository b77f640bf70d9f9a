/- The statement SickSources: its contract. -/
import Derived.Test.YtdnbkjgbehakpaaGreatP39
import Derived.Test.YtdnbkjgbehakpaaGreatT141
import Derived.Test.YtdnbkjgbehakpaaGreatT147
namespace Go.Proofs.YtdnbkjgbehakpaaGreat
open Go Go.Eng Go.RowKit

theorem src_prove {r : House} (hV : ValidH r) (hne : ask6 r ≠ []) : proveBoilB r 0 (srcL r) (srcL r).length = true :=
  (proveBoil_iff hV).2 ⟨hne, isHour_iff.2 ⟨Int.le_refl _, hV.last.1⟩, srcL_rising hV, Int.le_refl _, src_safe hV⟩
/-- SickSources -/
theorem sickSources_any {h : Mem} {v : Value} {r : House} {n : Nat} (hv : IsHouse h v r) (hn : n < 256) : FnV Tryz.prog 14 #[v, .int .u8 n] h (.bool true) := by
  have hv' := hv
  obtain ⟨wv, pv, kv, tv, bv, sv, f, rfl, hA⟩ := hv
  have hP := hA.P
  have hK := hA.K
  have hTab := hA.table
  refine FnR.val ?_
  refine FnR.of_W (n := 134) Tryz.func14 rfl rfl (Nat.le_of_ble_eq_true rfl) fun c hr hD hF => ?_
  refine W.seq ?_; refine W.region ?_
  refine WL.box rfl rfl rfl rfl (fun b2 => ?_)
  refine .o rfl rfl rfl rfl ?_; refine WL.nil ?_
  refine Kseq.go (W.seq (W.seq ?_))
  refine W.freezeBox (.head _) (fun b hb => (hF b hb).elim) fun m2 h2 => ?_
  cases hR : ready6 r with
  | false =>
    refine W.region ?_; refine .val (.loadPW rfl h2 (by repeat constructor) rfl) rfl rfl rfl ?_; refine .val (.cast (.call rfl (fun m hm => ready6_any (hv'.le (by repeat (first | exact hm.1 | replace hm := hm.2))))) (congrArg Value.bool hR)) rfl rfl rfl ?_; refine .o rfl rfl rfl rfl ?_; refine WL.nil ?_; refine Kseq.go ?_; refine W.condT rfl rfl ?_; refine W.seq ?_; refine W.region ?_; refine .val (.call rfl (fun m hm => awake6_any)) rfl rfl rfl ?_; refine .o rfl rfl rfl rfl ?_; refine WL.nil ?_; refine Kseq.go ?_
    refine W.ret ?_; refine Kseq.ret ?_; refine ⟨.inl rfl, [_], h, ⟨.tmp rfl, trivial⟩, (by repeat constructor), ?_⟩
    rfl
  | true =>
  obtain ⟨hV, hs, hf0, _⟩ := ready6_iff hR
  have hE0 : askE r.table = 0 := askE_zero.2 ⟨hV.table, hV.some⟩
  have hnp := hV.table.pieces
  have hwl : (whoTo r.table r.table.pieces.length).length = r.table.pieces.length := by simp [whoTo]
  have hla := hV.last
  obtain ⟨L, hL⟩ : ∃ L : Nat, r.last = (L : Int) := ⟨r.last.toNat, by omega⟩
  have hk : n % (L + 1) < L + 1 := Nat.mod_lt _ (by omega)
  refine W.region ?_; refine .val (.loadPW rfl h2 (by repeat constructor) rfl) rfl rfl rfl ?_; refine .val (.cast (.call rfl (fun m hm => ready6_any (hv'.le (by repeat (first | exact hm.1 | replace hm := hm.2))))) (congrArg Value.bool hR)) rfl rfl rfl ?_; refine .o rfl rfl rfl rfl ?_; refine WL.nil ?_; refine Kseq.go ?_; refine W.condF rfl rfl ?_
  refine W.skip (Kseq.go (W.seq ?_))
  refine W.region ?_; refine .o rfl rfl rfl rfl ?_; refine WL.nil ?_
  refine Kseq.go (W.seq ?_)
  refine W.region ?_; refine .val (.fieldAddrB rfl) rfl rfl rfl ?_; refine .val (.loadPA (vs := [wv, pv, vi r.table.wrong]) rfl h2 (by repeat constructor) rfl rfl) rfl rfl rfl ?_; refine WL.abs (OpAbs.call rfl (fun m hm => table_any (hTab.le (by repeat (first | exact hm.1 | replace hm := hm.2))) hs.table)) rfl rfl rfl ?_
  rintro m24 v24 h24
  refine WL.abs (OpAbs.call rfl (fun m hm => whoseT_any (h24.le (by repeat (first | exact hm.1 | replace hm := hm.2))) hs.table)) rfl rfl rfl ?_
  rintro m25 _ ⟨lw, rfl, hlw⟩
  rw [hE0, if_pos rfl] at hlw
  rw [hE0]
  iterate 5 refine .o rfl rfl rfl rfl ?_
  refine WL.nil ?_
  refine Kseq.go (W.seq (W.seq ?_))
  obtain ⟨vs, hvs, hvA⟩ := hlw
  have hsk := hs.sick
  refine W.region ?_; refine .o rfl rfl rfl rfl ?_; refine .val (OpVal.neqF6 rfl rfl) rfl rfl rfl ?_
  iterate 2 refine .o rfl rfl rfl rfl ?_
  refine .val (.len rfl hvA) rfl rfl rfl ?_; refine .val (.fieldAddrB rfl) rfl rfl rfl ?_; refine .val (.fieldAddrB rfl) rfl rfl rfl ?_; refine .val (.loadP rfl h2 (by repeat constructor) rfl) rfl rfl rfl ?_; refine .val (.len rfl hP) rfl rfl rfl ?_; refine .val (.cast (.opv rfl) (show _ = Value.bool false from congrArg (fun b => Value.bool (!b)) (decide_eq_true (by omega)))) rfl rfl rfl ?_; refine .o rfl rfl rfl rfl ?_; refine WL.nil ?_; refine Kseq.go ?_; refine W.condF rfl rfl ?_
  refine W.skip (Kseq.go (W.seq (W.seq ?_)))
  refine W.region ?_; refine .o rfl rfl rfl rfl ?_; refine WL.nil ?_
  refine Kseq.go (W.block ?_)
  refine W.nilRow 3 1 ?_
  let g : Nat → Nat → Bool := fun i k => decide (r.sick.getD k 0 ∈ whoP r.table i)
  let p : Nat → Bool := fun i => ex r.sick.length (g i)
  refine W.loop (σ := Nat × Value) (fun s => [(1, .int .u8 (n : Int)), (2, .pointer (some ⟨b2, 0, none⟩)), (5, s.2), (6, lw), (8, vi (s.1 : Int))]) (fun _ => [m25, m2, h]) (fun s => [ir 3 s.2 (sel s.1 p)]) (fun s => s.1 ≤ r.table.pieces.length) (fun s => r.table.pieces.length - s.1) (0, .slice none 0 0) ⟨rfl, rfl, rfl, rfl, rfl, trivial⟩ (by simp) (.refl _) (Nat.zero_le _) ?_
  rintro ⟨i, a⟩ hi
  dsimp only at hi ⊢
  have hlen := sel_len i p
  refine W.seq (W.seq ?_)
  refine W.region ?_
  iterate 2 refine .o rfl rfl rfl rfl ?_
  refine .val (.len rfl hvA) rfl rfl rfl ?_; refine .o rfl rfl rfl rfl ?_; refine WL.nil ?_; refine Kseq.go ?_
  refine W.condD rfl rfl (fun hlt => ?_) (fun hge => ?_)
  · have hil : i < r.table.pieces.length := by omega
    have hwi := hvs.2 i (by omega)
    rw [show (whoTo r.table r.table.pieces.length).getD i [] = whoP r.table i by unfold whoTo; simp [List.getD_eq_getElem?_getD, hil]] at hwi
    refine W.skip (Kseq.go (W.seq (W.block (W.seq ?_))))
    refine W.region ?_; refine .o rfl rfl rfl rfl ?_; refine WL.nil ?_
    refine Kseq.go (W.seq (W.seq ?_))
    refine W.region ?_; refine .o rfl rfl rfl rfl ?_; refine WL.nil ?_
    refine Kseq.go (W.block ?_)
    refine W.loopC (σ := Nat) (fun k => [(1, .int .u8 (n : Int)), (2, .pointer (some ⟨b2, 0, none⟩)), (5, a), (6, lw), (8, vi (i : Int)), (9, .bool (ex k (g i))), (10, vi (k : Int))]) (fun k => k ≤ r.sick.length) (fun k => r.sick.length - k) 0 ⟨rfl, rfl, rfl, rfl, rfl, rfl, rfl, trivial⟩ (Nat.zero_le _) ?_
    intro k hk2
    refine W.seq (W.seq ?_)
    refine W.region ?_; refine .o rfl rfl rfl rfl ?_; refine .val (.fieldAddrB rfl) rfl rfl rfl ?_; refine .val (.loadP rfl h2 (by repeat constructor) rfl) rfl rfl rfl ?_; refine .val (.len rfl hK) rfl rfl rfl ?_; refine .o rfl rfl rfl rfl ?_; refine WL.nil ?_; refine Kseq.go ?_
    refine W.condD rfl rfl (fun hlt2 => ?_) (fun hge2 => ?_)
    · have hkl : k < r.sick.length := by omega
      have hes : ex (k + 1) (g i) = (ex k (g i) || g i k) := ex_succ ..
      obtain ⟨x0, hx0⟩ : ∃ x, ex k (g i) = x := ⟨_, rfl⟩
      rw [hx0] at hes ⊢
      cases x0 with
      | true =>
        refine W.skip (Kseq.go (W.seq (W.block ?_)))
        refine W.draw 11 (by kernel_rfl) (by kernel_rfl) (by kernel_rfl) rfl ?_; refine .val [] (.opv rfl) rfl rfl rfl rfl ?_; refine .val [] (.opv rfl) rfl rfl rfl rfl ?_; refine DJ.pass rfl rfl rfl rfl ?_; refine DJ.pass rfl rfl rfl rfl ?_; refine DJ.pass rfl rfl rfl rfl ?_; refine DJ.pass rfl rfl rfl rfl ?_; refine DJ.pass rfl rfl rfl rfl ?_; refine DJ.pass rfl rfl rfl rfl ?_; refine DJ.pass rfl rfl rfl rfl ?_; refine DJ.pass rfl rfl rfl rfl ?_; refine DJ.pass rfl rfl rfl rfl ?_; refine DJ.nil ?_; refine WL.pass rfl rfl rfl ?_
        iterate 2 refine .o rfl rfl rfl rfl ?_
        refine WL.nil ?_
        refine Kblock.normal (Kseq.go ?_)
        refine W.region ?_; refine .o rfl rfl rfl rfl ?_; refine .val (.incr rfl (by omega)) rfl rfl rfl ?_; refine .o rfl rfl rfl rfl ?_; refine WL.nil ?_
        exact Kloop.nextC (k + 1) (by omega) (by omega) ⟨rfl, rfl, rfl, rfl, rfl, congrArg (fun b => some (Value.bool b)) hes.symm, rfl, trivial⟩ (by simp) (.refl _)
      | false =>
        refine W.skip (Kseq.go (W.seq (W.block ?_)))
        refine W.draw 11 (by kernel_rfl) (by kernel_rfl) (by kernel_rfl) rfl ?_; refine .val [] (.opv rfl) rfl rfl rfl rfl ?_; refine .val [] (.opv rfl) rfl rfl rfl rfl ?_; refine .val [] (.opv rfl) rfl rfl rfl rfl ?_; refine .val [] (.opv rfl) rfl rfl rfl rfl ?_; refine .val [] (.indexAddrN rfl rfl hvA (by omega)) rfl rfl rfl rfl ?_; refine .val [] (.cast (.loadE rfl hvA (by repeat constructor) (by omega) (by omega)) (show _ = vs.getD i undef from rfl)) rfl rfl rfl rfl ?_; refine .val [] (.fieldAddrB rfl) rfl rfl rfl rfl ?_; refine .val [] (.loadP rfl h2 (by repeat constructor) rfl) rfl rfl rfl rfl ?_; refine .val [] (.opv rfl) rfl rfl rfl rfl ?_; refine .val [] (.indexAddrN rfl rfl hK hkl) rfl rfl rfl rfl ?_; refine .val [] (.loadE rfl hK (by repeat constructor) hkl (by omega)) rfl rfl rfl rfl ?_; refine DJ.nil ?_; refine .val (.cast (.call rfl (fun m hm => has_any _ (hwi.le (by repeat (first | exact hm.1 | replace hm := hm.2))))) (show _ = Value.bool (g i k) from rfl)) rfl rfl rfl ?_
        iterate 2 refine .o rfl rfl rfl rfl ?_
        refine WL.nil ?_
        refine Kblock.normal (Kseq.go ?_)
        refine W.region ?_; refine .o rfl rfl rfl rfl ?_; refine .val (.incr rfl (by omega)) rfl rfl rfl ?_; refine .o rfl rfl rfl rfl ?_; refine WL.nil ?_
        exact Kloop.nextC (k + 1) (by omega) (by omega) ⟨rfl, rfl, rfl, rfl, rfl, congrArg (fun b => some (Value.bool b)) (hes.trans (Bool.false_or _)).symm, rfl, trivial⟩ (by simp) (.refl _)
    · refine W.exit (Kseq.exit (Kloop.exit (Kblock.here (Kseq.go (W.seq ?_)))))
      have hkk : k = r.sick.length := by omega
      subst hkk
      refine W.region ?_; refine .o rfl rfl rfl rfl ?_; refine WL.nil ?_; refine Kseq.go ?_
      refine W.cond rfl rfl (fun hb => ?_) (fun hb => ?_)
      · skip
        refine W.region ?_
        iterate 2 refine .o rfl rfl rfl rfl ?_
        refine WL.abs (OpAbs.lit [_] rfl (Nat.le_of_ble_eq_true rfl) rfl rfl (by simp [Value.cells]) (Nat.le_of_ble_eq_true rfl) rfl (by first | (simp [Value.oneCell']; done) | exact List.all_eq_true.1 rfl)) rfl rfl rfl ?_
        rintro m68 _ ⟨hc68, a68, rfl⟩
        refine WL.appInt rfl (fun _ => (.head _)) rfl (by assumption) (by repeat constructor) (by omega) rfl rfl rfl ?_
        intro a69 cp69
        refine .o rfl rfl rfl rfl ?_; refine WL.nil ?_
        refine Kblock.normal (Kseq.go ?_)
        refine W.region ?_; refine .o rfl rfl rfl rfl ?_; refine .val (.incr rfl (by omega)) rfl rfl rfl ?_; refine .o rfl rfl rfl rfl ?_; refine WL.nil ?_
        exact Kloop.next (i + 1, _) (by dsimp only; omega) (by dsimp only; omega) ⟨rfl, rfl, rfl, rfl, rfl, trivial⟩ (by simp) (by dsimp only; rw [sel_yes (p := p) hb]; exact (by repeat (first | exact List.Sublist.refl _ | refine List.Sublist.cons _ ?_ | refine List.Sublist.cons_cons _ ?_)))
      · refine W.skip (Kblock.normal (Kseq.go ?_))
        refine W.region ?_; refine .o rfl rfl rfl rfl ?_; refine .val (.incr rfl (by omega)) rfl rfl rfl ?_; refine .o rfl rfl rfl rfl ?_; refine WL.nil ?_
        exact Kloop.next (i + 1, a) (by dsimp only; omega) (by dsimp only; omega) ⟨rfl, rfl, rfl, rfl, rfl, trivial⟩ (by simp) (by dsimp only; rw [sel_no (p := p) hb]; exact (by repeat (first | exact List.Sublist.refl _ | refine List.Sublist.cons _ ?_ | refine List.Sublist.cons_cons _ ?_)))
  refine W.exit (Kseq.exit (Kloop.exit (Kblock.here (Kseq.go (W.seq ?_)))))
  have hii : i = r.table.pieces.length := by omega
  subst hii
  refine W.freezeInts (.head _) (fun b hb => (hF b hb).elim) fun mr hmr => ?_
  have hsrc : IsInts mr a (srcL r) := hmr
  have hsl : (srcL r).length ≤ 50 := by have h1 := sel_len r.table.pieces.length p; show (sel r.table.pieces.length p).length ≤ 50; omega
  clear hmr
  refine W.region ?_; refine .val (.loadPW rfl h2 (by repeat constructor) rfl) rfl rfl rfl ?_
  refine WL.alloc rfl rfl rfl (fun b11 => ?_)
  (refine WL.store [wv, pv, vi r.table.wrong, kv, vi r.others, vi r.last, tv, bv, sv] rfl (.head _) rfl rfl rfl (Nat.le_of_ble_eq_true rfl) (by simp [Value.cells]; exact ⟨IsArr.one hA.W, IsArr.one hA.P, rfl, IsArr.one hA.K, rfl, rfl, IsArr.one hA.T, IsArr.one hA.B, IsArr.one hA.S⟩) rfl ?_)
  refine WL.nil ?_
  refine Kseq.go (W.seq ?_)
  refine W.region ?_; refine .val (.fieldAddrB rfl) rfl rfl rfl ?_
  refine WL.store [_, _, _, _, _, _, _, _, _] rfl (.head _) rfl rfl rfl (Nat.le_of_ble_eq_true rfl) (by first | (simp [Value.cells, Value.oneCell']; done) | exact IsArr.ones hW (by omega) | exact IsArr.ones hP (by omega) | exact IsArr.ones hS (by omega) | exact IsArr.ones hH (by omega) | exact IsArr.ones hL (by omega) | exact IsArr.ones hB (by omega) | exact IsArr.ones hT (by omega) | exact IsArr.ones hm (by omega)) rfl ?_
  refine .val (.fieldAddrB rfl) rfl rfl rfl ?_
  refine WL.store [_, _, _, _, _, _, _, _, _] rfl (.head _) rfl rfl rfl (Nat.le_of_ble_eq_true rfl) (by first | (simp [Value.cells, Value.oneCell']; done) | exact IsArr.ones hW (by omega) | exact IsArr.ones hP (by omega) | exact IsArr.ones hS (by omega) | exact IsArr.ones hH (by omega) | exact IsArr.ones hL (by omega) | exact IsArr.ones hB (by omega) | exact IsArr.ones hT (by omega) | exact IsArr.ones hm (by omega)) rfl ?_
  refine WL.nil ?_
  refine Kseq.go (W.seq ?_)
  refine W.freezeBox (.head _) (fun b hb => (hF b hb).elim) fun m11 h11 => ?_
  refine W.join fun mj hj => ?_
  have hAj := hA.le (hj h (by simp))
  have hX : IsHouse mj (.agg #[wv, pv, vi r.table.wrong, .slice none 0 0, vi r.others, vi r.last, tv, bv, .slice none 0 0]) (withSick r []) := ⟨wv, pv, _, tv, bv, _, f, rfl, ⟨hAj.W, hAj.P, hAj.M, IsArr.nil _ 1 _, hAj.T, hAj.B, IsSigns.nil _⟩⟩
  have hsj := IsInts.le hsrc (hj mr (by simp))
  have h2j := h2.le (hj m2 (by simp))
  have h11j := h11.le (hj m11 (by simp))
  have hvj := hv'.le (hj h (by simp))
  clear h2 h11 hsrc
  refine W.weaken [(1, .int .u8 (n : Int)), (2, .pointer (some ⟨b2, 0, none⟩)), (5, a), (11, .pointer (some ⟨b11, 0, none⟩))] [mj] [] (by repeat (first | exact trivial | refine ⟨rfl, ?_⟩)) (by simp) (List.nil_sublist _) ?_
  have hVx : ValidH (withSick r []) := withSick_valid hV (rising_of .nil (fun _ hx => by cases hx))
  have hsx := withSick_sm hs (l := []) (by simp)
  have hEx := ask6E_sick hV (l := []) (rising_of .nil (fun _ hx => by cases hx))
  have hthw := hV.thW
  have hth := hV.th
  have hU : (carry6 (withSick r [])).length = r.th := carry6_len _
  have hUi := fun i (hi : i < r.th) => none_carry hV hi
  have hbn := none_boil r
  refine W.region ?_; refine .val (.loadPW rfl h11j (by repeat constructor) rfl) rfl rfl rfl ?_; refine WL.abs (OpAbs.call rfl (fun m hm => houseL_any (hX.le (by repeat (first | exact hm.1 | replace hm := hm.2))) hsx)) rfl rfl rfl ?_
  rintro m75 v75 h75
  refine WL.abs (OpAbs.call rfl (fun m hm => carry6_any (h75.le (by repeat (first | exact hm.1 | replace hm := hm.2))) hsx)) rfl rfl rfl ?_
  rintro m76 _ ⟨lv1, rfl, hlv1⟩
  rw [hEx, if_pos rfl] at hlv1
  rw [hEx]
  iterate 5 refine .o rfl rfl rfl rfl ?_
  refine WL.nil ?_
  refine Kseq.go (W.seq ?_)
  refine W.join fun mk hk2 => ?_
  have g1 := hlv1.le (hk2 _ (by simp))
  have hXk := hX.le (hk2 mj (by simp))
  have hvk := hvj.le (hk2 mj (by simp))
  have h2k := h2j.le (hk2 mj (by simp))
  have h11k := h11j.le (hk2 mj (by simp))
  have hsk2 := IsInts.le hsj (hk2 mj (by simp))
  refine W.weaken [(1, .int .u8 (n : Int)), (2, .pointer (some ⟨b2, 0, none⟩)), (5, a), (11, .pointer (some ⟨b11, 0, none⟩)), (12, lv1), (13, vi 0)] [mk] [] (by repeat (first | exact trivial | refine ⟨rfl, ?_⟩)) (by simp) (List.nil_sublist _) ?_
  have hih : isHour (withSick r []) ((n % (L + 1) : Nat) : Int) = true := isHour_iff.2 ⟨Int.natCast_nonneg _, by show _ ≤ r.last; omega⟩
  refine W.draw 13 (by kernel_rfl) (by kernel_rfl) (by kernel_rfl) rfl ?_; refine .val [] (.loadPW rfl h11k (by repeat constructor) rfl) rfl rfl rfl rfl ?_; refine DJ.abs (A := fun m x => IsHouse m x (withSick r [])) [] (OpAbs.call rfl (fun m hm => houseL_any (hXk.le (by repeat (first | exact hm.1 | replace hm := hm.2))) hsx)) rfl rfl rfl rfl ?_; refine .val [] (.opv rfl) rfl rfl rfl rfl ?_; refine .val [] (.conv rfl (i64_in (by omega) (by omega))) rfl rfl rfl rfl ?_; refine .val [] (.fieldAddrB rfl) rfl rfl rfl rfl ?_; refine .val [] (.cast (.loadP rfl h2k (by repeat constructor) rfl) (congrArg (Value.int .i64) hL)) rfl rfl rfl rfl ?_; refine .val [] (.cast (.add rfl rfl (by omega) (by omega)) (show _ = vi ((L + 1 : Nat) : Int) from rfl)) rfl rfl rfl rfl ?_; refine .val [] (.cast (.rem rfl rfl (by omega) (by omega)) (show vi ((n : Int) % ((L + 1 : Nat) : Int)) = vi ((n % (L + 1) : Nat) : Int) from rfl)) rfl rfl rfl rfl ?_
  refine DJ.abs (A := fun m x => ∃ lv, x = .tuple #[lv, vi 0] ∧ IsInts m lv []) [(81, fun m x => IsHouse m x (withSick r []))] (fun m81 v81 h81 => OpAbs.mono (OpAbs.call rfl (fun m hm => boil6_any ((n % (L + 1) : Nat) : Int) (h81.le (by repeat (first | exact hm.1 | replace hm := hm.2))) hsx)) (fun m x hx => by obtain ⟨lv, e, _, h2⟩ := hx; rw [hih, hEx] at e h2; exact ⟨lv, e, h2 rfl _ (hbn _)⟩)) rfl rfl rfl rfl ?_ (hG := ⟨(by repeat constructor), rfl, trivial⟩)
  refine DJ.abs (A := fun m x => ∃ lv, x = .tuple #[lv, vi 0] ∧ IsInts m lv []) [(88, fun m x => ∃ lv, x = .tuple #[lv, vi 0] ∧ IsInts m lv [])] (fun m88 v88 h88 => OpAbs.ofVal (OpVal.opv rfl) (.head _) h88) rfl rfl rfl rfl ?_ (hG := ⟨(by repeat constructor), rfl, trivial⟩)
  refine DJ.abs (A := fun m x => IsInts m x []) [(79, fun m x => ∃ lv, x = .tuple #[lv, vi 0] ∧ IsInts m lv [])] (fun m79 v79 h79 => by obtain ⟨lv, rfl, hl⟩ := h79; exact OpAbs.ofVal (OpVal.opv rfl) (.head _) hl) rfl rfl rfl rfl ?_ (hG := ⟨(by repeat constructor), rfl, trivial⟩)
  refine DJ.val [(79, fun m x => ∃ lv, x = .tuple #[lv, vi 0] ∧ IsInts m lv [])] (fun m79 v79 h79 => (by obtain ⟨lv, rfl, hl⟩ := h79; exact OpVal.cast (.opv rfl) (show _ = vi 0 from rfl))) rfl rfl rfl rfl ?_ (hG := ⟨(by repeat constructor), rfl, trivial⟩)
  refine DJ.abs (A := fun m x => IsInts m x []) [(89, fun m x => IsInts m x [])] (fun m89 v89 h89 => OpAbs.ofVal (A := fun m x => IsInts m x []) (OpVal.opv rfl) (.head _) h89) rfl rfl rfl rfl ?_ (hG := ⟨(by repeat constructor), rfl, trivial⟩)
  refine DJ.nil ?_
  rintro m14 v14 h14
  rintro m89 v89 h89
  rintro m79 v79 h79
  rintro m88 v88 h88
  rintro m81 v81 h81
  refine .o rfl rfl rfl rfl ?_; refine WL.nil ?_
  refine Kseq.go (W.seq (W.seq ?_))
  have hgb := g1.bd
  refine W.region ?_; refine .o rfl rfl rfl rfl ?_; refine .val (OpVal.neqF6 rfl rfl) rfl rfl rfl ?_
  iterate 2 refine .o rfl rfl rfl rfl ?_
  refine .val (OpVal.neqF6 rfl rfl) rfl rfl rfl ?_
  iterate 3 refine .o rfl rfl rfl rfl ?_
  refine .val (.cast (.len rfl h14) (show _ = vi 0 from rfl)) rfl rfl rfl ?_; refine .val (OpVal.neqF6 rfl rfl) rfl rfl rfl ?_
  iterate 3 refine .o rfl rfl rfl rfl ?_
  refine .val (.len rfl g1) rfl rfl rfl ?_; refine .val (.loadPW rfl h2k (by repeat constructor) rfl) rfl rfl rfl ?_; refine .val (.cast (.call rfl (fun m hm => thingsR_any (hvk.le (by repeat (first | exact hm.1 | replace hm := hm.2))))) (congrArg (Value.int .i64) hthw)) rfl rfl rfl ?_; refine .val (.cast (.opv rfl) (show _ = Value.bool false from congrArg (fun b => Value.bool (!b)) (decide_eq_true (by omega)))) rfl rfl rfl ?_; refine .o rfl rfl rfl rfl ?_; refine WL.nil ?_; refine Kseq.go ?_; refine W.condF rfl rfl ?_
  refine W.skip (Kseq.go (W.seq (W.seq ?_)))
  refine W.region ?_; refine .o rfl rfl rfl rfl ?_; refine WL.nil ?_
  refine Kseq.go (W.block ?_)
  refine W.loop (σ := Nat) (fun i => [(2, .pointer (some ⟨b2, 0, none⟩)), (5, a), (12, lv1), (16, vi (i : Int))]) (fun _ => [mk]) (fun _ => []) (fun i => i ≤ r.th) (fun i => r.th - i) 0 ⟨rfl, rfl, rfl, rfl, trivial⟩ (by intro y hy; simp at hy; subst hy; repeat (first | exact .head _ | refine .tail _ ?_)) (List.nil_sublist _) (Nat.zero_le _) ?_
  intro i hi2
  refine W.seq (W.seq ?_)
  refine W.region ?_
  iterate 2 refine .o rfl rfl rfl rfl ?_
  refine .val (.len rfl g1) rfl rfl rfl ?_; refine .o rfl rfl rfl rfl ?_; refine WL.nil ?_; refine Kseq.go ?_
  refine W.condD rfl rfl (fun hlt3 => ?_) (fun hge3 => ?_)
  · have hil : i < r.th := by omega
    refine W.skip (Kseq.go (W.seq (W.block (W.seq ?_))))
    refine W.region ?_
    iterate 2 refine .o rfl rfl rfl rfl ?_
    refine .val (.indexAddrN rfl rfl g1 (by omega)) rfl rfl rfl ?_; refine .val (.cast (.loadE rfl g1 (by repeat constructor) (by omega) (by omega)) (congrArg vi (hUi i hil))) rfl rfl rfl ?_; refine .val (OpVal.neqF6 rfl rfl) rfl rfl rfl ?_; refine WL.nil ?_; refine Kseq.go ?_; refine W.condF rfl rfl ?_
    refine W.skip (Kblock.normal (Kseq.go ?_))
    refine W.region ?_; refine .o rfl rfl rfl rfl ?_; refine .val (.incr rfl (by omega)) rfl rfl rfl ?_; refine .o rfl rfl rfl rfl ?_; refine WL.nil ?_
    exact Kloop.next (i + 1) (by omega) (by omega) ⟨rfl, rfl, rfl, rfl, trivial⟩ (by simp) (by repeat (first | exact List.Sublist.refl _ | refine List.Sublist.cons _ ?_ | refine List.Sublist.cons_cons _ ?_))
  refine W.exit (Kseq.exit (Kloop.exit (Kblock.here (Kseq.go (W.seq (W.seq ?_))))))
  refine W.region ?_; refine .val (.loadPW rfl h2k (by repeat constructor) rfl) rfl rfl rfl ?_; refine WL.abs (OpAbs.call rfl (fun m hm => truthsR6_any (hvk.le (by repeat (first | exact hm.1 | replace hm := hm.2))) hV hs)) rfl rfl rfl ?_
  rintro m121 v121 h121
  have htb := h121.bd
  obtain ⟨vs0, hvs0, hvA0⟩ := h121
  by_cases h0 : ask6 r = []
  · have hl0 : (truths6 r).length = 0 := by rw [(truths_nil hV).2 h0]; rfl
    refine .val (.cast (.len rfl hvA0) (congrArg (fun x : Nat => vi (x : Int)) hl0)) rfl rfl rfl ?_; refine .val (OpVal.eqT6 rfl rfl) rfl rfl rfl ?_; refine WL.nil ?_; refine Kseq.go ?_; refine W.condT rfl rfl ?_; refine W.seq ?_; refine W.region ?_; refine .val (.call rfl (fun m hm => awake6_any)) rfl rfl rfl ?_; refine .o rfl rfl rfl rfl ?_; refine WL.nil ?_; refine Kseq.go ?_
    refine W.ret ?_; refine Kseq.ret ?_; refine ⟨.inl rfl, [_], mk, ⟨.tmp rfl, trivial⟩, (by repeat constructor), ?_⟩
    rfl
  · have hl0 : (truths6 r).length ≠ 0 := fun h1 => h0 ((truths_nil hV).1 (List.length_eq_zero_iff.1 h1))
    have hpr := src_prove hV h0
    refine .val (.len rfl hvA0) rfl rfl rfl ?_; refine .val (.cast (.opv rfl) (congrArg Value.bool (decide_eq_false (by omega)))) rfl rfl rfl ?_; refine WL.nil ?_; refine Kseq.go ?_; refine W.condF rfl rfl ?_
    refine W.skip (Kseq.go (W.seq ?_))
    refine W.region ?_; refine .val (.loadPW rfl h2k (by repeat constructor) rfl) rfl rfl rfl ?_; refine WL.abs (OpAbs.call rfl (fun m hm => houseL_any (hvk.le (by repeat (first | exact hm.1 | replace hm := hm.2))) hs)) rfl rfl rfl ?_
    rintro m126 v126 h126
    iterate 2 refine .o rfl rfl rfl rfl ?_
    refine .val (.len rfl hsk2) rfl rfl rfl ?_; refine .val (.cast (.call rfl (fun m hm => proveBoil_any (hour := 0) _ (h126.le (by repeat (first | exact hm.1 | replace hm := hm.2))) hs (hsk2.le (by repeat (first | exact hm.1 | replace hm := hm.2))) (by omega))) (congrArg Value.bool hpr)) rfl rfl rfl ?_; refine .o rfl rfl rfl rfl ?_; refine .val (.call rfl (fun m hm => awake6_any)) rfl rfl rfl ?_
    iterate 2 refine .o rfl rfl rfl rfl ?_
    refine WL.nil ?_; refine Kseq.go ?_
    refine W.ret ?_; refine ⟨.inl rfl, [_], mk, ⟨.tmp rfl, trivial⟩, (by repeat constructor), ?_⟩
    rfl
end Go.Proofs.YtdnbkjgbehakpaaGreat
