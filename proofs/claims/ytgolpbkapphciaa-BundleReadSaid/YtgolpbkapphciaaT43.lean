/- The statement BundleLies: its contract. -/
import Derived.Test.YtgolpbkapphciaaT42
import Derived.Test.YtgolpbkapphciaaT38
namespace Go.Proofs.Ytgolpbkapphciaa
open Go Go.Eng Go.RowKit

theorem women_pos {t : Table} (hV : Valid t) (hp : 0 < t.pieces.length) : 0 < t.women.length := by
  obtain ⟨l, hl⟩ := owners_some hV
  have hla := areOwners_iff.1 (allOwners_are hl)
  obtain ⟨w, h1, _, _⟩ := mem_sel.1 (hla.2 0 (by rw [hla.1]; exact hp))
  omega
theorem aN_bounds {t : Table} (hV : Valid t) (h0 : ask t ≠ []) : 0 ≤ loQ (aN t) (ask t) (ask t).length ∧ loQ (aN t) (ask t) (ask t).length ≤ 7 ∧ 0 ≤ hiQ (aN t) (ask t) (ask t).length ∧ hiQ (aN t) (ask t) (ask t).length ≤ 7 := by
  have hb : ∀ l ∈ ask t, 0 ≤ aN t l ∧ aN t l ≤ 7 := fun l hl => by
    have h1 := sel_len l.length fun i => !decide ((t.pieces.getD i default).bundle = l.getD i 0)
    have h2 := ask_lens hl
    have h3 := hV.pieces
    unfold aN astray
    omega
  obtain ⟨l1, h1, e1⟩ := loA_mem (g := aN t) h0
  obtain ⟨l2, h2, e2⟩ := hiA_mem (g := aN t) h0
  have a1 := hb _ h1
  have a2 := hb _ h2
  unfold loA at e1
  unfold hiA at e2
  omega
theorem astrayT_at {h : Mem} {v : Value} {t : Table} {lo hi : Int} (hv : IsTable h v t) (hs : Sm t) (hE : askE t = 0) (h1 : loQ (aN t) (ask t) (ask t).length = lo) (h2 : hiQ (aN t) (ask t) (ask t).length = hi) : FnV Try.prog 39 #[v] h (.tuple #[.agg #[vi lo, vi hi], vi 0]) := by
  subst h1 h2
  have := astrayT_any hv hs
  rwa [if_pos hE] at this
/-- BundleLies -/
theorem bundleLies_any {h : Mem} {v : Value} {t : Table} {n n2 : Nat} (hv : IsTable h v t) (hn : n < 256) (hn2 : n2 < 256) : FnV Try.prog 11 #[v, .int .u8 n, .int .u8 n2] h (.bool true) := by
  have hv' := hv
  obtain ⟨wv, pv, f, rfl, hW, hP, hM⟩ := hv
  refine FnR.val ?_
  refine FnR.of_W (n := 149) Try.func11 rfl rfl (Nat.le_of_ble_eq_true rfl) fun c hr hD hF => ?_
  refine W.seq ?_
  refine W.region ?_
  refine WL.box rfl rfl rfl rfl (fun b3 => ?_)
  refine WL.val (OpVal.opv rfl) rfl rfl rfl ?_
  refine WL.nil ?_
  refine Kseq.go (W.seq (W.seq ?_))
  refine W.freezeBox (.head _) (fun b hb => (hF b hb).elim) fun m1 h1 => ?_
  by_cases hR : readyB t = false
  · skip
    refine W.region ?_
    refine WL.val (OpVal.loadPW rfl (by assumption) (by repeat (first | exact .head _ | refine .tail _ ?_)) (by rfl)) rfl rfl rfl ?_
    refine WL.val (OpVal.cast (OpVal.call rfl (fun m hm => ready_any (hv'.le (by repeat (first | exact hm.1 | replace hm := hm.2))))) (congrArg Value.bool hR)) rfl rfl rfl ?_
    refine WL.val (OpVal.opv rfl) rfl rfl rfl ?_
    refine WL.val (OpVal.opv rfl) rfl rfl rfl ?_
    refine WL.pass rfl rfl rfl ?_
    refine WL.pass rfl rfl rfl ?_
    refine WL.pass rfl rfl rfl ?_
    refine WL.pass rfl rfl rfl ?_
    refine WL.val (OpVal.opv rfl) rfl rfl rfl ?_
    refine WL.nil ?_
    refine Kseq.go ?_
    refine W.condT rfl rfl ?_
    refine W.seq ?_
    refine W.region ?_
    refine WL.val (OpVal.call rfl (fun m hm => awake_any)) rfl rfl rfl ?_
    refine WL.val (OpVal.opv rfl) rfl rfl rfl ?_
    refine WL.nil ?_
    refine Kseq.go ?_
    refine W.ret ?_; refine Kseq.ret ?_; refine ⟨.inl rfl, [_], h, ⟨.tmp rfl, trivial⟩, (by repeat (first | exact .head _ | refine .tail _ ?_)), ?_⟩
    rfl
  have hR : readyB t = true := by simpa using hR
  by_cases hp0 : t.pieces.length = 0
  · skip
    refine W.region ?_
    refine WL.val (OpVal.loadPW rfl (by assumption) (by repeat (first | exact .head _ | refine .tail _ ?_)) (by rfl)) rfl rfl rfl ?_
    refine WL.val (OpVal.cast (OpVal.call rfl (fun m hm => ready_any (hv'.le (by repeat (first | exact hm.1 | replace hm := hm.2))))) (congrArg Value.bool hR)) rfl rfl rfl ?_
    refine WL.val (OpVal.opv rfl) rfl rfl rfl ?_
    refine WL.val (OpVal.opv rfl) rfl rfl rfl ?_
    refine WL.val (OpVal.fieldAddrB rfl) rfl rfl rfl ?_
    refine WL.val (OpVal.loadP rfl (by assumption) (by repeat (first | exact .head _ | refine .tail _ ?_)) rfl) rfl rfl rfl ?_
    refine WL.val (OpVal.len rfl hP) rfl rfl rfl ?_
    refine WL.val (OpVal.cast (OpVal.opv rfl) (congrArg Value.bool (decide_eq_true (by omega)))) rfl rfl rfl ?_
    refine WL.val (OpVal.opv rfl) rfl rfl rfl ?_
    refine WL.nil ?_
    refine Kseq.go ?_
    refine W.condT rfl rfl ?_
    refine W.seq ?_
    refine W.region ?_
    refine WL.val (OpVal.call rfl (fun m hm => awake_any)) rfl rfl rfl ?_
    refine WL.val (OpVal.opv rfl) rfl rfl rfl ?_
    refine WL.nil ?_
    refine Kseq.go ?_
    refine W.ret ?_; refine Kseq.ret ?_; refine ⟨.inl rfl, [_], h, ⟨.tmp rfl, trivial⟩, (by repeat (first | exact .head _ | refine .tail _ ?_)), ?_⟩
    rfl
  skip
  refine W.region ?_
  refine WL.val (OpVal.loadPW rfl (by assumption) (by repeat (first | exact .head _ | refine .tail _ ?_)) (by rfl)) rfl rfl rfl ?_
  refine WL.val (OpVal.cast (OpVal.call rfl (fun m hm => ready_any (hv'.le (by repeat (first | exact hm.1 | replace hm := hm.2))))) (congrArg Value.bool hR)) rfl rfl rfl ?_
  refine WL.val (OpVal.opv rfl) rfl rfl rfl ?_
  refine WL.val (OpVal.opv rfl) rfl rfl rfl ?_
  refine WL.val (OpVal.fieldAddrB rfl) rfl rfl rfl ?_
  refine WL.val (OpVal.loadP rfl (by assumption) (by repeat (first | exact .head _ | refine .tail _ ?_)) rfl) rfl rfl rfl ?_
  refine WL.val (OpVal.len rfl hP) rfl rfl rfl ?_
  refine WL.val (OpVal.cast (OpVal.opv rfl) (congrArg Value.bool (decide_eq_false (by omega)))) rfl rfl rfl ?_
  refine WL.val (OpVal.opv rfl) rfl rfl rfl ?_
  refine WL.nil ?_
  refine Kseq.go ?_
  refine W.condF rfl rfl ?_
  obtain ⟨hTh, hVa⟩ := readyB_iff.1 hR
  have hs : Sm t := ThinB.sm hTh
  have hs1 := hs.1
  have hs2 := hs.2.1
  have hw0 := women_pos hVa (by omega)
  have hpl : n % t.pieces.length < t.pieces.length := Nat.mod_lt _ (by omega)
  have hwl : n2 % t.women.length < t.women.length := Nat.mod_lt _ (by omega)
  obtain ⟨wa, wc, rfl⟩ := IsArr.form hW
  obtain ⟨pa, pc, rfl⟩ := IsArr.form hP
  have hPc := hP.toCells
  have hfl := fsOf_len f t.pieces
  have hal := fsOf_all hM
  have hcl := pcs_len hfl
  have est := setB_store hfl hpl (n2 % t.women.length : Nat)
  have hL2 := setB_len t.pieces (n % t.pieces.length) (n2 % t.women.length : Nat)
  have hcl2 : (pcs (fsOf f t.pieces) (setB t.pieces (n % t.pieces.length) (n2 % t.women.length : Nat))).length = t.pieces.length := by rw [pcs_len (by rw [hfl, hL2]), hL2]
  generalize hfs : fsOf f t.pieces = fs at *
  refine W.skip (Kseq.go (W.seq ?_))
  skip
  refine W.region ?_
  refine WL.val (OpVal.loadPW rfl (by assumption) (by repeat (first | exact .head _ | refine .tail _ ?_)) (by rfl)) rfl rfl rfl ?_
  refine WL.alloc rfl rfl rfl (fun b7 => ?_)
  refine WL.store [_, _, _] rfl (.head _) rfl rfl rfl (Nat.le_of_ble_eq_true rfl) (by first | (simp [Value.cells, Value.oneCell']; done) | exact IsArr.ones hW (by omega) | exact IsArr.ones hP (by omega)) rfl ?_
  refine WL.nil ?_
  refine Kseq.go (W.seq ?_)
  skip
  refine W.region ?_
  (refine WL.lit (vs := []) [] rfl (Nat.le_of_ble_eq_true rfl) rfl rfl (by simp) (Nat.le_of_ble_eq_true rfl) rfl rfl rfl rfl (fun b27 => ?_))
  refine WL.val (OpVal.fieldAddrB rfl) rfl rfl rfl ?_
  refine WL.val (OpVal.loadP rfl (by assumption) (by repeat (first | exact .head _ | refine .tail _ ?_)) rfl) rfl rfl rfl ?_
  (refine WL.append (e := 62) (k := 2) (bytes := 32) (xs := []) (ys := flatv (pcs fs t.pieces)) (N := 0) (m2 := t.pieces.length) (μ' := fun v' => [kr 62 2 v' (pcs fs t.pieces), .blk b7 _ 25]) rfl (fun v' => by simp only [kr, hcl, Nat.zero_add, List.nil_append]; exact .head _) rfl hPc (by repeat (first | exact .head _ | refine .tail _ ?_)) rfl (by omega) (by unfold maxLen; omega) (by omega) rfl rfl rfl ?_; intro a30 c30)
  refine WL.val (OpVal.fieldAddrB rfl) rfl rfl rfl ?_
  refine WL.store [_, _, _] rfl (.tail _ (.head _)) rfl rfl rfl (Nat.le_of_ble_eq_true rfl) (by first | (simp [Value.cells, Value.oneCell']; done) | exact IsArr.ones hW (by omega) | exact IsArr.ones hP (by omega)) rfl ?_
  refine WL.nil ?_
  refine Kseq.go (W.seq ?_)
  skip
  refine W.draw 14 (by kernel_rfl) (by kernel_rfl) (by kernel_rfl) rfl ?_
  refine DJ.val [] (OpVal.fieldAddrB rfl) rfl rfl rfl rfl ?_
  refine DJ.val [] (OpVal.loadB rfl (.tail _ (.head _)) rfl) rfl rfl rfl rfl ?_
  refine DJ.val [] (OpVal.opv rfl) rfl rfl rfl rfl ?_
  refine DJ.val [] (OpVal.conv rfl (i64_in (by omega) (by omega))) rfl rfl rfl rfl ?_
  refine DJ.val [] (OpVal.fieldAddrB rfl) rfl rfl rfl rfl ?_
  refine DJ.val [] (OpVal.loadB rfl (.tail _ (.head _)) rfl) rfl rfl rfl rfl ?_
  refine DJ.val [] (OpVal.cast (OpVal.lenR rfl (.head _)) (congrArg (fun x : Nat => vi (x : Int)) hcl)) rfl rfl rfl rfl ?_
  refine DJ.val [] (OpVal.cast (OpVal.rem rfl rfl (by omega) (by omega)) (show vi ((n : Int) % (t.pieces.length : Int)) = vi ((n % t.pieces.length : Nat) : Int) from rfl)) rfl rfl rfl rfl ?_
  refine DJ.val [] (OpVal.opv rfl) rfl rfl rfl rfl ?_
  refine DJ.val [] (OpVal.conv rfl (i64_in (by omega) (by omega))) rfl rfl rfl rfl ?_
  refine DJ.val [] (OpVal.fieldAddrB rfl) rfl rfl rfl rfl ?_
  refine DJ.val [] (OpVal.loadP rfl (by assumption) (by repeat (first | exact .head _ | refine .tail _ ?_)) rfl) rfl rfl rfl rfl ?_
  refine DJ.val [] (OpVal.len rfl hW) rfl rfl rfl rfl ?_
  refine DJ.val [] (OpVal.cast (OpVal.rem rfl rfl (by omega) (by omega)) (show vi ((n2 : Int) % (t.women.length : Int)) = vi ((n2 % t.women.length : Nat) : Int) from rfl)) rfl rfl rfl rfl ?_
  refine DJ.nil ?_
  refine WL.val (OpVal.indexAddrR rfl rfl (.head _) (by omega)) rfl rfl rfl ?_
  refine WL.val (OpVal.fieldAddrR rfl (.head _) (by rw [hcl]; exact hpl)) rfl rfl rfl ?_
  (refine WL.storeR (T := 62) (k := 2) (xs := flatv (pcs fs t.pieces)) (μ' := [kr 62 2 _ (pcs fs (setB t.pieces (n % t.pieces.length) (n2 % t.women.length : Nat))), .blk b7 _ 25]) rfl (by unfold kr; rw [← est, hcl, hcl2]; exact .head _) rfl rfl rfl (by omega) (Nat.le_of_ble_eq_true rfl) (by simp [Value.cells, Value.oneCell']) ?_)
  refine WL.nil ?_
  refine Kseq.go (W.seq ?_)
  refine W.freezeK (.head _) (fun b hb => (hF b hb).elim) (by omega) (pcs_size _ _) (pcs_one hal) fun m2 hm2 => ?_
  have hp2 := pieces_of (by rw [hfl, hL2]) hm2
  clear hm2
  refine W.join fun mj hj => ?_
  subst hfs
  have hbw : 0 ≤ ((n2 % t.women.length : Nat) : Int) ∧ ((n2 % t.women.length : Nat) : Int) < t.women.length := by omega
  have hx := own_table (n := t.wrong) (hj h (by simp)) hL2 (setB_map t.pieces (n % t.pieces.length) (n2 % t.women.length : Nat)) (hW.le (hj h (by simp))) hM (hp2.le (hj m2 (by simp)))
  have hxe : (⟨t.women, setB t.pieces (n % t.pieces.length) (n2 % t.women.length : Nat), t.wrong⟩ : Table) = lies t (n % t.pieces.length) (n2 % t.women.length : Nat) := rfl
  rw [hxe] at hx
  have hEx := lies_askE hVa (p := n % t.pieces.length) hbw
  have hAx := lies_ask t (n % t.pieces.length) (n2 % t.women.length : Nat)
  have hWx := lies_who t (n % t.pieces.length) (n2 % t.women.length : Nat) t.pieces.length
  have hNx := lies_near t (n % t.pieces.length) (n2 % t.women.length : Nat)
  have hsx : Sm (lies t (n % t.pieces.length) (n2 % t.women.length : Nat)) := by
    refine ⟨hs1, by show (setB _ _ _).length ≤ _; rw [hL2]; exact hs2, fun i hi => ?_⟩
    have hi' : i < t.pieces.length := by rw [← hL2]; exact hi
    show ((setB _ _ _).getD i default).marks.length ≤ _
    rw [setB_marks]
    exact hs.2.2 i hi'
  have hVx := lies_valid hVa (p := n % t.pieces.length) hbw
  have hlx : (lies t (n % t.pieces.length) (n2 % t.women.length : Nat)).pieces.length = t.pieces.length := hL2
  generalize lies t (n % t.pieces.length) (n2 % t.women.length : Nat) = x at *
  skip
  skip
  refine W.region ?_
  refine WL.val (OpVal.loadPW rfl (by assumption) (by repeat (first | exact .head _ | refine .tail _ ?_)) (by rfl)) rfl rfl rfl ?_
  refine WL.abs (OpAbs.call rfl (fun m hm => table_any (hv'.le (by repeat (first | exact hm.1 | replace hm := hm.2))) hs)) rfl rfl rfl ?_
  rintro m50 v50 h50
  refine WL.abs (OpAbs.call rfl (fun m hm => whoseT_any (h50.le (by repeat (first | exact hm.1 | replace hm := hm.2))) hs)) rfl rfl rfl ?_
  rintro m51 _ ⟨lv1, rfl, hl1⟩
  refine WL.val (OpVal.opv rfl) rfl rfl rfl ?_
  refine WL.val (OpVal.opv rfl) rfl rfl rfl ?_
  refine WL.val (OpVal.opv rfl) rfl rfl rfl ?_
  refine WL.val (OpVal.opv rfl) rfl rfl rfl ?_
  refine WL.val (OpVal.opv rfl) rfl rfl rfl ?_
  refine WL.nil ?_
  refine Kseq.go (W.seq ?_)
  skip
  refine W.region ?_
  refine WL.val (OpVal.loadBW rfl (.head _) rfl) rfl rfl rfl ?_
  refine WL.abs (OpAbs.call rfl (fun m hm => table_any (hx.le (by repeat (first | exact hm.1 | replace hm := hm.2))) hsx)) rfl rfl rfl ?_
  rintro m56 v56 h56
  refine WL.abs (OpAbs.call rfl (fun m hm => whoseT_any (h56.le (by repeat (first | exact hm.1 | replace hm := hm.2))) hsx)) rfl rfl rfl ?_
  rintro m57 _ ⟨lv2, rfl, hl2⟩
  refine WL.val (OpVal.opv rfl) rfl rfl rfl ?_
  refine WL.val (OpVal.opv rfl) rfl rfl rfl ?_
  refine WL.val (OpVal.opv rfl) rfl rfl rfl ?_
  refine WL.val (OpVal.opv rfl) rfl rfl rfl ?_
  refine WL.val (OpVal.opv rfl) rfl rfl rfl ?_
  refine WL.nil ?_
  refine Kseq.go (W.seq ?_)
  rw [hEx] at hl2 ⊢
  rw [hlx, hWx] at hl2
  by_cases hE : askE t = 0
  · have h0 := askE_ne hE
    have h0x : ask x ≠ [] := by rw [hAx]; exact h0
    have b1' := aN_bounds hVa h0
    have b2' := aN_bounds hVx h0x
    have c1 := near_lo (g := aN t) (g' := aN x) h0 (fun l _ => (hNx l).2)
    have c2 := near_lo (g := aN x) (g' := aN t) h0 (fun l _ => (hNx l).1)
    have c3 := near_hi (g := aN t) (g' := aN x) h0 (fun l _ => (hNx l).1)
    have c4 := near_hi (g := aN x) (g' := aN t) h0 (fun l _ => (hNx l).2)
    rw [hAx] at b2'
    rw [if_pos hE] at hl1 hl2
    obtain ⟨lo1, hlo1⟩ : ∃ z, loQ (aN t) (ask t) (ask t).length = z := ⟨_, rfl⟩
    obtain ⟨hi1, hhi1⟩ : ∃ z, hiQ (aN t) (ask t) (ask t).length = z := ⟨_, rfl⟩
    obtain ⟨lo2, hlo2⟩ : ∃ z, loQ (aN x) (ask t) (ask t).length = z := ⟨_, rfl⟩
    obtain ⟨hi2, hhi2⟩ : ∃ z, hiQ (aN x) (ask t) (ask t).length = z := ⟨_, rfl⟩
    rw [hlo1, hlo2] at c1 c2
    rw [hhi1, hhi2] at c3 c4
    rw [hlo1, hhi1] at b1'
    rw [hlo2, hhi2] at b2'
    rw [← hAx] at hlo2 hhi2
    rw [hE]
    skip
    refine W.region ?_
    refine WL.val (OpVal.loadPW rfl (by assumption) (by repeat (first | exact .head _ | refine .tail _ ?_)) (by rfl)) rfl rfl rfl ?_
    refine WL.abs (OpAbs.call rfl (fun m hm => table_any (hv'.le (by repeat (first | exact hm.1 | replace hm := hm.2))) hs)) rfl rfl rfl ?_
    rintro m62 v62 h62
    refine WL.val (OpVal.call rfl (fun m hm => astrayT_at (h62.le (by repeat (first | exact hm.1 | replace hm := hm.2))) hs hE hlo1 hhi1)) rfl rfl rfl ?_
    refine WL.val (OpVal.opv rfl) rfl rfl rfl ?_
    refine WL.val (OpVal.opv rfl) rfl rfl rfl ?_
    refine WL.val (OpVal.opv rfl) rfl rfl rfl ?_
    refine WL.alloc rfl rfl rfl (fun b12 => ?_)
    refine WL.store [_, _] rfl (.head _) rfl rfl rfl (Nat.le_of_ble_eq_true rfl) (by first | (simp [Value.cells, Value.oneCell']; done) | exact IsArr.ones hW (by omega) | exact IsArr.ones hP (by omega)) rfl ?_
    refine WL.val (OpVal.opv rfl) rfl rfl rfl ?_
    refine WL.nil ?_
    refine Kseq.go (W.seq ?_)
    skip
    refine W.region ?_
    refine WL.val (OpVal.loadBW rfl (.tail _ (.head _)) rfl) rfl rfl rfl ?_
    refine WL.abs (OpAbs.call rfl (fun m hm => table_any (hx.le (by repeat (first | exact hm.1 | replace hm := hm.2))) hsx)) rfl rfl rfl ?_
    rintro m68 v68 h68
    refine WL.val (OpVal.call rfl (fun m hm => astrayT_at (h68.le (by repeat (first | exact hm.1 | replace hm := hm.2))) hsx (hEx.trans hE) hlo2 hhi2)) rfl rfl rfl ?_
    refine WL.val (OpVal.opv rfl) rfl rfl rfl ?_
    refine WL.val (OpVal.opv rfl) rfl rfl rfl ?_
    refine WL.val (OpVal.opv rfl) rfl rfl rfl ?_
    refine WL.alloc rfl rfl rfl (fun b14 => ?_)
    refine WL.store [_, _] rfl (.head _) rfl rfl rfl (Nat.le_of_ble_eq_true rfl) (by first | (simp [Value.cells, Value.oneCell']; done) | exact IsArr.ones hW (by omega) | exact IsArr.ones hP (by omega)) rfl ?_
    refine WL.val (OpVal.opv rfl) rfl rfl rfl ?_
    refine WL.nil ?_
    refine Kseq.go (W.seq (W.seq ?_))
    skip
    refine W.region ?_
    refine WL.val (OpVal.opv rfl) rfl rfl rfl ?_
    refine WL.val (OpVal.neqF rfl rfl) rfl rfl rfl ?_
    refine WL.nil ?_
    refine Kseq.go ?_
    refine W.condF rfl rfl ?_
    refine W.skip (Kseq.go (W.seq ?_))
    skip
    refine W.region ?_
    refine WL.val (OpVal.opv rfl) rfl rfl rfl ?_
    refine WL.val (OpVal.eqT rfl rfl) rfl rfl rfl ?_
    refine WL.val (OpVal.opv rfl) rfl rfl rfl ?_
    refine WL.val (OpVal.opv rfl) rfl rfl rfl ?_
    refine WL.val (OpVal.opv rfl) rfl rfl rfl ?_
    refine WL.val (OpVal.cast (OpVal.call rfl (fun m hm => subsets_any (hl1.le (by repeat (first | exact hm.1 | replace hm := hm.2))) (hl2.le (by repeat (first | exact hm.1 | replace hm := hm.2))))) (congrArg Value.bool (subs_refl _))) rfl rfl rfl ?_
    refine WL.val (OpVal.opv rfl) rfl rfl rfl ?_
    refine WL.val (OpVal.opv rfl) rfl rfl rfl ?_
    refine WL.val (OpVal.opv rfl) rfl rfl rfl ?_
    refine WL.val (OpVal.opv rfl) rfl rfl rfl ?_
    refine WL.val (OpVal.cast (OpVal.call rfl (fun m hm => subsets_any (hl2.le (by repeat (first | exact hm.1 | replace hm := hm.2))) (hl1.le (by repeat (first | exact hm.1 | replace hm := hm.2))))) (congrArg Value.bool (subs_refl _))) rfl rfl rfl ?_
    refine WL.val (OpVal.opv rfl) rfl rfl rfl ?_
    refine WL.val (OpVal.opv rfl) rfl rfl rfl ?_
    refine WL.val (OpVal.opv rfl) rfl rfl rfl ?_
    refine WL.val (OpVal.eqT rfl rfl) rfl rfl rfl ?_
    refine WL.val (OpVal.opv rfl) rfl rfl rfl ?_
    refine WL.val (OpVal.opv rfl) rfl rfl rfl ?_
    refine WL.val (OpVal.opv rfl) rfl rfl rfl ?_
    refine WL.val (OpVal.eqT rfl rfl) rfl rfl rfl ?_
    refine WL.val (OpVal.opv rfl) rfl rfl rfl ?_
    refine WL.val (OpVal.opv rfl) rfl rfl rfl ?_
    refine WL.val (OpVal.fieldAddrB rfl) rfl rfl rfl ?_
    refine WL.val (OpVal.loadB rfl (.head _) rfl) rfl rfl rfl ?_
    refine WL.val (OpVal.fieldAddrB rfl) rfl rfl rfl ?_
    refine WL.val (OpVal.loadB rfl (.tail _ (.head _)) rfl) rfl rfl rfl ?_
    refine WL.val (OpVal.sub rfl rfl (by omega) (by omega)) rfl rfl rfl ?_
    refine WL.val (OpVal.cast (OpVal.opv rfl) (congrArg Value.bool (decide_eq_true (by omega)))) rfl rfl rfl ?_
    refine WL.val (OpVal.opv rfl) rfl rfl rfl ?_
    refine WL.val (OpVal.opv rfl) rfl rfl rfl ?_
    refine WL.val (OpVal.fieldAddrB rfl) rfl rfl rfl ?_
    refine WL.val (OpVal.loadB rfl (.head _) rfl) rfl rfl rfl ?_
    refine WL.val (OpVal.fieldAddrB rfl) rfl rfl rfl ?_
    refine WL.val (OpVal.loadB rfl (.tail _ (.head _)) rfl) rfl rfl rfl ?_
    refine WL.val (OpVal.add rfl rfl (by omega) (by omega)) rfl rfl rfl ?_
    refine WL.val (OpVal.cast (OpVal.opv rfl) (congrArg Value.bool (decide_eq_true (by omega)))) rfl rfl rfl ?_
    refine WL.val (OpVal.opv rfl) rfl rfl rfl ?_
    refine WL.val (OpVal.opv rfl) rfl rfl rfl ?_
    refine WL.val (OpVal.fieldAddrB rfl) rfl rfl rfl ?_
    refine WL.val (OpVal.loadB rfl (.head _) rfl) rfl rfl rfl ?_
    refine WL.val (OpVal.fieldAddrB rfl) rfl rfl rfl ?_
    refine WL.val (OpVal.loadB rfl (.tail _ (.head _)) rfl) rfl rfl rfl ?_
    refine WL.val (OpVal.sub rfl rfl (by omega) (by omega)) rfl rfl rfl ?_
    refine WL.val (OpVal.cast (OpVal.opv rfl) (congrArg Value.bool (decide_eq_true (by omega)))) rfl rfl rfl ?_
    refine WL.val (OpVal.opv rfl) rfl rfl rfl ?_
    refine WL.val (OpVal.opv rfl) rfl rfl rfl ?_
    refine WL.val (OpVal.fieldAddrB rfl) rfl rfl rfl ?_
    refine WL.val (OpVal.loadB rfl (.head _) rfl) rfl rfl rfl ?_
    refine WL.val (OpVal.fieldAddrB rfl) rfl rfl rfl ?_
    refine WL.val (OpVal.loadB rfl (.tail _ (.head _)) rfl) rfl rfl rfl ?_
    refine WL.val (OpVal.add rfl rfl (by omega) (by omega)) rfl rfl rfl ?_
    refine WL.val (OpVal.cast (OpVal.opv rfl) (congrArg Value.bool (decide_eq_true (by omega)))) rfl rfl rfl ?_
    refine WL.val (OpVal.opv rfl) rfl rfl rfl ?_
    refine WL.val (OpVal.opv rfl) rfl rfl rfl ?_
    refine WL.val (OpVal.call rfl (fun m hm => awake_any)) rfl rfl rfl ?_
    refine WL.val (OpVal.opv rfl) rfl rfl rfl ?_
    refine WL.val (OpVal.opv rfl) rfl rfl rfl ?_
    refine WL.nil ?_
    refine Kseq.go ?_
    refine W.ret ?_; skip; refine ⟨.inl rfl, [_], h, ⟨.tmp rfl, trivial⟩, (by repeat (first | exact .head _ | refine .tail _ ?_)), ?_⟩
    rfl
  · obtain ⟨hE11, hnil⟩ := askE_valid hVa hE
    have hEx1 : ¬ askE x = 0 := by rw [hEx]; exact hE
    skip
    refine W.region ?_
    refine WL.val (OpVal.loadPW rfl (by assumption) (by repeat (first | exact .head _ | refine .tail _ ?_)) (by rfl)) rfl rfl rfl ?_
    refine WL.abs (OpAbs.call rfl (fun m hm => table_any (hv'.le (by repeat (first | exact hm.1 | replace hm := hm.2))) hs)) rfl rfl rfl ?_
    rintro m62 v62 h62
    refine WL.val (OpVal.cast (OpVal.call rfl (fun m hm => astrayT_any (h62.le (by repeat (first | exact hm.1 | replace hm := hm.2))) hs)) (if_neg hE)) rfl rfl rfl ?_
    refine WL.val (OpVal.opv rfl) rfl rfl rfl ?_
    refine WL.val (OpVal.opv rfl) rfl rfl rfl ?_
    refine WL.val (OpVal.opv rfl) rfl rfl rfl ?_
    refine WL.alloc rfl rfl rfl (fun b12 => ?_)
    refine WL.store [_, _] rfl (.head _) rfl rfl rfl (Nat.le_of_ble_eq_true rfl) (by first | (simp [Value.cells, Value.oneCell']; done) | exact IsArr.ones hW (by omega) | exact IsArr.ones hP (by omega)) rfl ?_
    refine WL.val (OpVal.opv rfl) rfl rfl rfl ?_
    refine WL.nil ?_
    refine Kseq.go (W.seq ?_)
    skip
    refine W.region ?_
    refine WL.val (OpVal.loadBW rfl (.tail _ (.head _)) rfl) rfl rfl rfl ?_
    refine WL.abs (OpAbs.call rfl (fun m hm => table_any (hx.le (by repeat (first | exact hm.1 | replace hm := hm.2))) hsx)) rfl rfl rfl ?_
    rintro m68 v68 h68
    refine WL.val (OpVal.cast (OpVal.call rfl (fun m hm => astrayT_any (h68.le (by repeat (first | exact hm.1 | replace hm := hm.2))) hsx)) ((if_neg hEx1).trans (by rw [hEx]))) rfl rfl rfl ?_
    refine WL.val (OpVal.opv rfl) rfl rfl rfl ?_
    refine WL.val (OpVal.opv rfl) rfl rfl rfl ?_
    refine WL.val (OpVal.opv rfl) rfl rfl rfl ?_
    refine WL.alloc rfl rfl rfl (fun b14 => ?_)
    refine WL.store [_, _] rfl (.head _) rfl rfl rfl (Nat.le_of_ble_eq_true rfl) (by first | (simp [Value.cells, Value.oneCell']; done) | exact IsArr.ones hW (by omega) | exact IsArr.ones hP (by omega)) rfl ?_
    refine WL.val (OpVal.opv rfl) rfl rfl rfl ?_
    refine WL.nil ?_
    refine Kseq.go (W.seq (W.seq ?_))
    rw [hE11]
    skip
    refine W.region ?_
    refine WL.val (OpVal.opv rfl) rfl rfl rfl ?_
    refine WL.val (OpVal.cast (OpVal.opv rfl) (congrArg (fun b => Value.bool (!b)) (decide_eq_false (by decide)))) rfl rfl rfl ?_
    refine WL.nil ?_
    refine Kseq.go ?_
    refine W.condT rfl rfl ?_
    refine W.seq ?_
    refine W.region ?_
    refine WL.val (OpVal.opv rfl) rfl rfl rfl ?_
    refine WL.val (OpVal.eqT rfl rfl) rfl rfl rfl ?_
    refine WL.val (OpVal.opv rfl) rfl rfl rfl ?_
    refine WL.val (OpVal.opv rfl) rfl rfl rfl ?_
    refine WL.val (OpVal.opv rfl) rfl rfl rfl ?_
    refine WL.val (OpVal.eqT rfl rfl) rfl rfl rfl ?_
    refine WL.val (OpVal.opv rfl) rfl rfl rfl ?_
    refine WL.val (OpVal.opv rfl) rfl rfl rfl ?_
    refine WL.val (OpVal.opv rfl) rfl rfl rfl ?_
    refine WL.val (OpVal.opv rfl) rfl rfl rfl ?_
    refine WL.val (OpVal.eqT rfl rfl) rfl rfl rfl ?_
    refine WL.val (OpVal.opv rfl) rfl rfl rfl ?_
    refine WL.val (OpVal.opv rfl) rfl rfl rfl ?_
    refine WL.val (OpVal.opv rfl) rfl rfl rfl ?_
    refine WL.val (OpVal.opv rfl) rfl rfl rfl ?_
    refine WL.val (OpVal.eqT rfl rfl) rfl rfl rfl ?_
    refine WL.val (OpVal.opv rfl) rfl rfl rfl ?_
    refine WL.val (OpVal.opv rfl) rfl rfl rfl ?_
    refine WL.val (OpVal.call rfl (fun m hm => awake_any)) rfl rfl rfl ?_
    refine WL.val (OpVal.opv rfl) rfl rfl rfl ?_
    refine WL.val (OpVal.opv rfl) rfl rfl rfl ?_
    refine WL.nil ?_
    refine Kseq.go ?_
    refine W.ret ?_; refine Kseq.ret ?_; refine ⟨.inl rfl, [_], h, ⟨.tmp rfl, trivial⟩, (by repeat (first | exact .head _ | refine .tail _ ?_)), ?_⟩
    rfl
end Go.Proofs.Ytgolpbkapphciaa
