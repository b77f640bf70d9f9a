/- The statement BundleNoFewer: its contract. -/
import Derived.Test.YtgolpbkapphciaaT47
import Derived.Test.YtgolpbkapphciaaT43
namespace Go.Proofs.Ytgolpbkapphciaa
open Go Go.Eng Go.RowKit

theorem moves_len (t : Table) (x : List Int) : (movesOf t x).length = (astray t x).length := by simp [movesOf]
theorem moves_get {t : Table} {x : List Int} {k : Nat} (hk : k < (astray t x).length) : (movesOf t x).getD k default = ⟨(aAt t x k : Int), (t.pieces.getD (aAt t x k) default).bundle, x.getD (aAt t x k) 0⟩ := by
  have h1 := (aAt_lt hk).2.1
  have e : (movesOf t x).getD k default = ⟨(astray t x).getD k 0, (t.pieces.getD ((astray t x).getD k 0).toNat default).bundle, x.getD ((astray t x).getD k 0).toNat 0⟩ := by
    simp [movesOf, List.getD_eq_getElem?_getD, List.getElem?_eq_getElem hk]
  rw [e, h1, Int.toNat_natCast]
theorem fewest_at {h : Mem} {v : Value} {t : Table} (hv : IsTable h v t) (hs : Sm t) (hE : askE t = 0) : FnR Try.prog 60 #[v] h (fun m r => ∃ lv, r = .tuple #[lv, vi 0] ∧ IsInts m lv (fewest t (ask t))) := by
  have := fewestT_any hv hs
  rw [hE] at this
  simpa using this
theorem moves_at {h : Mem} {v : Value} {t : Table} (hv : IsTable h v t) (hs : Sm t) (hE : askE t = 0) : FnR Try.prog 61 #[v] h (fun m r => ∃ lv, r = .tuple #[lv, vi 0] ∧ IsMoves m lv (movesOf t (fewest t (ask t)))) := by
  have := movesT_any hv hs
  rw [hE] at this
  simpa using this
/-- BundleNoFewer -/
theorem bundleNoFewer_any {h : Mem} {v : Value} {t : Table} {n : Nat} (hv : IsTable h v t) (hn : n < 65536) : FnV Try.prog 20 #[v, .int .u16 n] h (.bool true) := by
  have hv' := hv
  obtain ⟨wv, pv, f, rfl, hW, hP, hM⟩ := hv
  refine FnR.val ?_
  refine FnR.of_W (n := 191) Try.func20 rfl rfl (Nat.le_of_ble_eq_true rfl) fun c hr hD hF => ?_
  refine W.seq ?_
  refine W.region ?_
  refine WL.box rfl rfl rfl rfl (fun b2 => ?_)
  refine WL.val (OpVal.opv rfl) rfl rfl rfl ?_
  refine WL.nil ?_
  refine Kseq.go (W.seq (W.seq ?_))
  refine W.freezeBox (.head _) (fun b hb => (hF b hb).elim) fun m1 h1 => ?_
  skip
  refine W.region ?_
  refine WL.val (OpVal.loadPW rfl (by assumption) (by repeat (first | exact .head _ | refine .tail _ ?_)) (by rfl)) rfl rfl rfl ?_
  refine WL.val (OpVal.call rfl (fun m hm => ready_any (hv'.le (by repeat (first | exact hm.1 | replace hm := hm.2))))) rfl rfl rfl ?_
  refine WL.val (OpVal.opv rfl) rfl rfl rfl ?_
  refine WL.nil ?_
  refine Kseq.go ?_
  refine W.cond rfl rfl (fun he => ?_) (fun hne => ?_)
  · refine W.seq ?_
    refine W.region ?_
    refine WL.val (OpVal.call rfl (fun m hm => awake_any)) rfl rfl rfl ?_
    refine WL.val (OpVal.opv rfl) rfl rfl rfl ?_
    refine WL.nil ?_
    refine Kseq.go ?_
    refine W.ret ?_; refine Kseq.ret ?_; refine ⟨.inl rfl, [_], h, ⟨.tmp rfl, trivial⟩, (by repeat (first | exact .head _ | refine .tail _ ?_)), ?_⟩
    rfl
  obtain ⟨hTh, hVa⟩ := readyB_iff.1 (by simpa using hne)
  have hs : Sm t := ThinB.sm hTh
  have hs1 := hs.1
  have hs2 := hs.2.1
  refine W.skip (Kseq.go (W.seq ?_))
  skip
  refine W.region ?_
  refine WL.val (OpVal.loadPW rfl (by assumption) (by repeat (first | exact .head _ | refine .tail _ ?_)) (by rfl)) rfl rfl rfl ?_
  refine WL.abs (OpAbs.call rfl (fun m hm => sure_any (hv'.le (by repeat (first | exact hm.1 | replace hm := hm.2))) hs)) rfl rfl rfl ?_
  rintro m26 _ ⟨av, rfl, hav⟩
  refine WL.val (OpVal.opv rfl) rfl rfl rfl ?_
  refine WL.val (OpVal.opv rfl) rfl rfl rfl ?_
  refine WL.val (OpVal.opv rfl) rfl rfl rfl ?_
  refine WL.val (OpVal.opv rfl) rfl rfl rfl ?_
  refine WL.val (OpVal.opv rfl) rfl rfl rfl ?_
  refine WL.nil ?_
  refine Kseq.go (W.seq ?_)
  rw [← askE_sure]
  by_cases hE : askE t = 0
  · have hE' : sureE t = 0 := by rw [← askE_sure]; exact hE
    obtain ⟨_, hTne, hSL, hask, hf0⟩ := sure_ok hE'
    have h0 := askE_ne hE
    rw [hSL, ← hask] at hav
    have hlenpos : 0 < (ask t).length := List.length_pos_iff.2 h0
    have hlen2 : (ask t).length ≤ 2000 := Nat.le_trans (List.length_filter_le _ _) (allOwners_many hVa.many).2
    have hxm := fewest_mem h0
    have hlo0 := fewest_lo h0
    have hfst := @fewest_first t h0
    have hxl := ask_lens hxm
    have hpr : (areOwners t (fewest t (ask t)) && isTruthP t (fewest t (ask t))) = true := by rw [ask_are hxm, (List.mem_filter.1 hxm).2]; rfl
    obtain ⟨hVy, hEy, hAy⟩ := behind_play hVa hxm
    have hSy := behind_same t (fewest t (ask t))
    have hb := aN_bounds hVa h0
    have hmin := fun l hl => (le_loA (g := aN t) (c := loQ (aN t) (ask t) (ask t).length) h0).1 (Int.le_refl _) l hl
    obtain ⟨lo1, hlo1⟩ : ∃ z, loQ (aN t) (ask t) (ask t).length = z := ⟨_, rfl⟩
    obtain ⟨hi1, hhi1⟩ : ∃ z, hiQ (aN t) (ask t) (ask t).length = z := ⟨_, rfl⟩
    rw [hlo1] at hlo0 hmin hb
    skip
    refine W.region ?_
    refine WL.val (OpVal.loadPW rfl (by assumption) (by repeat (first | exact .head _ | refine .tail _ ?_)) (by rfl)) rfl rfl rfl ?_
    refine WL.abs (OpAbs.call rfl (fun m hm => table_any (hv'.le (by repeat (first | exact hm.1 | replace hm := hm.2))) hs)) rfl rfl rfl ?_
    rintro m31 v31 h31
    refine WL.abs (OpAbs.call rfl (fun m hm => fewest_at (h31.le (by repeat (first | exact hm.1 | replace hm := hm.2))) hs hE)) rfl rfl rfl ?_
    rintro m32 _ ⟨xv, rfl, hxv⟩
    refine WL.val (OpVal.opv rfl) rfl rfl rfl ?_
    refine WL.val (OpVal.opv rfl) rfl rfl rfl ?_
    refine WL.val (OpVal.opv rfl) rfl rfl rfl ?_
    refine WL.val (OpVal.opv rfl) rfl rfl rfl ?_
    refine WL.val (OpVal.opv rfl) rfl rfl rfl ?_
    refine WL.nil ?_
    refine Kseq.go (W.seq ?_)
    skip
    refine W.region ?_
    refine WL.val (OpVal.loadPW rfl (by assumption) (by repeat (first | exact .head _ | refine .tail _ ?_)) (by rfl)) rfl rfl rfl ?_
    refine WL.abs (OpAbs.call rfl (fun m hm => table_any (hv'.le (by repeat (first | exact hm.1 | replace hm := hm.2))) hs)) rfl rfl rfl ?_
    rintro m37 v37 h37
    refine WL.abs (OpAbs.call rfl (fun m hm => moves_at (h37.le (by repeat (first | exact hm.1 | replace hm := hm.2))) hs hE)) rfl rfl rfl ?_
    rintro m38 _ ⟨mv, rfl, hmv⟩
    refine WL.val (OpVal.opv rfl) rfl rfl rfl ?_
    refine WL.val (OpVal.opv rfl) rfl rfl rfl ?_
    refine WL.val (OpVal.opv rfl) rfl rfl rfl ?_
    refine WL.val (OpVal.opv rfl) rfl rfl rfl ?_
    refine WL.val (OpVal.opv rfl) rfl rfl rfl ?_
    refine WL.nil ?_
    refine Kseq.go (W.seq (W.seq ?_))
    have hav' := hav
    obtain ⟨ls, hls, hA⟩ := hav'
    have hol : n % (ask t).length < (ask t).length := Nat.mod_lt _ hlenpos
    have hom := getD_mem' hol
    have hoi := hls.2 _ hol
    have hoLen := ask_lens hom
    have hoMin := hmin _ hom
    have hoFst := hfst hom
    rw [hE]
    generalize fewest t (ask t) = x at *
    skip
    refine W.region ?_
    refine WL.val (OpVal.opv rfl) rfl rfl rfl ?_
    refine WL.val (OpVal.neqF rfl rfl) rfl rfl rfl ?_
    refine WL.nil ?_
    refine Kseq.go ?_
    refine W.condF rfl rfl ?_
    refine W.skip (Kseq.go (W.seq ?_))
    skip
    refine W.region ?_
    refine WL.val (OpVal.opv rfl) rfl rfl rfl ?_
    refine WL.val (OpVal.opv rfl) rfl rfl rfl ?_
    refine WL.val (OpVal.conv rfl (i64_in (by omega) (by omega))) rfl rfl rfl ?_
    refine WL.val (OpVal.opv rfl) rfl rfl rfl ?_
    refine WL.val (OpVal.len rfl hA) rfl rfl rfl ?_
    refine WL.val (OpVal.cast (OpVal.rem rfl rfl (by omega) (by omega)) (show vi ((n : Int) % ((ask t).length : Int)) = vi ((n % (ask t).length : Nat) : Int) from rfl)) rfl rfl rfl ?_
    refine WL.val (OpVal.indexAddrN rfl rfl hA hol) rfl rfl rfl ?_
    refine WL.val (OpVal.loadE rfl hA (by repeat (first | exact .head _ | refine .tail _ ?_)) hol (by omega)) rfl rfl rfl ?_
    refine WL.val (OpVal.opv rfl) rfl rfl rfl ?_
    refine WL.nil ?_
    refine Kseq.go (W.seq ?_)
    generalize n % (ask t).length = q at *
    generalize (ask t).getD q [] = other at *
    skip
    refine W.region ?_
    refine WL.val (OpVal.loadPW rfl (by assumption) (by repeat (first | exact .head _ | refine .tail _ ?_)) (by rfl)) rfl rfl rfl ?_
    refine WL.abs (OpAbs.call rfl (fun m hm => table_any (hv'.le (by repeat (first | exact hm.1 | replace hm := hm.2))) hs)) rfl rfl rfl ?_
    rintro m64 v64 h64
    refine WL.val (OpVal.call rfl (fun m hm => astrayT_at (h64.le (by repeat (first | exact hm.1 | replace hm := hm.2))) hs hE hlo1 hhi1)) rfl rfl rfl ?_
    refine WL.val (OpVal.opv rfl) rfl rfl rfl ?_
    refine WL.val (OpVal.opv rfl) rfl rfl rfl ?_
    refine WL.val (OpVal.opv rfl) rfl rfl rfl ?_
    refine WL.alloc rfl rfl rfl (fun b12 => ?_)
    refine WL.store [_, _] rfl (.head _) rfl rfl rfl (Nat.le_of_ble_eq_true rfl) (by first | (simp [Value.cells, Value.oneCell']; done) | exact IsArr.ones hW (by omega) | exact IsArr.ones hP (by omega)) rfl ?_
    refine WL.val (OpVal.opv rfl) rfl rfl rfl ?_
    refine WL.nil ?_
    refine Kseq.go (W.seq (W.seq ?_))
    have hmvA : IsArr m38 3 mv (movesOf t x).length _ := hmv
    have hml := moves_len t x
    have haL : ((astray t x).length : Int) = lo1 := hlo0
    skip
    refine W.draw 25 (by kernel_rfl) (by kernel_rfl) (by kernel_rfl) rfl ?_
    refine DJ.val [] (OpVal.opv rfl) rfl rfl rfl rfl ?_
    refine DJ.val [] (OpVal.neqF rfl rfl) rfl rfl rfl rfl ?_
    refine DJ.val [] (OpVal.opv rfl) rfl rfl rfl rfl ?_
    refine DJ.val [] (OpVal.opv rfl) rfl rfl rfl rfl ?_
    refine DJ.val [] (OpVal.neqF rfl rfl) rfl rfl rfl rfl ?_
    refine DJ.val [] (OpVal.opv rfl) rfl rfl rfl rfl ?_
    refine DJ.val [] (OpVal.opv rfl) rfl rfl rfl rfl ?_
    refine DJ.val [] (OpVal.opv rfl) rfl rfl rfl rfl ?_
    refine DJ.val [] (OpVal.neqF rfl rfl) rfl rfl rfl rfl ?_
    refine DJ.val [] (OpVal.opv rfl) rfl rfl rfl rfl ?_
    refine DJ.val [] (OpVal.opv rfl) rfl rfl rfl rfl ?_
    refine DJ.val [] (OpVal.loadPW rfl (by assumption) (by repeat (first | exact .head _ | refine .tail _ ?_)) (by rfl)) rfl rfl rfl rfl ?_
    refine DJ.abs (A := fun m r => IsTable m r t) [] (OpAbs.call rfl (fun m hm => table_any (hv'.le (by repeat (first | exact hm.1 | replace hm := hm.2))) hs)) rfl rfl rfl rfl ?_
    refine DJ.val [] (OpVal.opv rfl) rfl rfl rfl rfl ?_
    refine DJ.abs (A := fun m r => IsInts m r x) [] (OpAbs.call rfl (fun m hm => list_any (hxv.le (by repeat (first | exact hm.1 | replace hm := hm.2))) (by omega))) rfl rfl rfl rfl ?_
    refine DJ.val [] (OpVal.fieldAddrB rfl) rfl rfl rfl rfl ?_
    refine DJ.val [] (OpVal.loadB rfl (.head _) rfl) rfl rfl rfl rfl ?_
    refine DJ.val [(82, fun m r => IsInts m r x), (80, fun m r => IsTable m r t)] (fun m82 v82 h82 => fun m80 v80 h80 => OpVal.cast (OpVal.call rfl (fun m hm => proveF_any _ (h80.le (by repeat (first | exact hm.1 | replace hm := hm.2))) hs hVa (h82.le (by repeat (first | exact hm.1 | replace hm := hm.2))))) (congrArg Value.bool (show (areOwners t x && (isTruthP t x && decide (((astray t x).length : Int) ≤ lo1))) = true by rw [← Bool.and_assoc, hpr, Bool.true_and]; exact decide_eq_true (by omega)))) rfl rfl rfl rfl ?_ (hG := ⟨(by repeat (first | exact .head _ | refine .tail _ ?_)), rfl, (by repeat (first | exact .head _ | refine .tail _ ?_)), rfl, trivial⟩)
    refine DJ.val [] (OpVal.opv rfl) rfl rfl rfl rfl ?_
    refine DJ.val [] (OpVal.opv rfl) rfl rfl rfl rfl ?_
    refine DJ.val [] (OpVal.opv rfl) rfl rfl rfl rfl ?_
    refine DJ.val [] (OpVal.opv rfl) rfl rfl rfl rfl ?_
    refine DJ.val [] (OpVal.cast (OpVal.len rfl hmvA) (congrArg vi (show ((movesOf t x).length : Int) = lo1 by omega))) rfl rfl rfl rfl ?_
    refine DJ.val [] (OpVal.fieldAddrB rfl) rfl rfl rfl rfl ?_
    refine DJ.val [] (OpVal.loadB rfl (.head _) rfl) rfl rfl rfl rfl ?_
    refine DJ.nil ?_
    rintro m82 v82 h82
    rintro m80 v80 h80
    refine WL.val (OpVal.neqF rfl rfl) rfl rfl rfl ?_
    refine WL.val (OpVal.opv rfl) rfl rfl rfl ?_
    refine WL.nil ?_
    refine Kseq.go ?_
    refine W.condF rfl rfl ?_
    obtain ⟨wa, wc, rfl⟩ := IsArr.form hW
    obtain ⟨pa, pc, rfl⟩ := IsArr.form hP
    have hPc := hP.toCells
    have hfl := fsOf_len f t.pieces
    have hal := fsOf_all hM
    have hcl := pcs_len hfl
    have hclk : ∀ k, (pcs (fsOf f t.pieces) (ysTo t x k)).length = t.pieces.length := fun k => by rw [pcs_len (by rw [hfl, ysTo_len]), ysTo_len]
    generalize hfs : fsOf f t.pieces = fs at *
    refine W.skip (Kseq.go (W.seq ?_))
    skip
    refine W.region ?_
    refine WL.val (OpVal.loadPW rfl (by assumption) (by repeat (first | exact .head _ | refine .tail _ ?_)) (by rfl)) rfl rfl rfl ?_
    refine WL.alloc rfl rfl rfl (fun b14 => ?_)
    refine WL.store [_, _, _] rfl (.head _) rfl rfl rfl (Nat.le_of_ble_eq_true rfl) (by first | (simp [Value.cells, Value.oneCell']; done) | exact IsArr.ones hW (by omega) | exact IsArr.ones hP (by omega)) rfl ?_
    refine WL.nil ?_
    refine Kseq.go (W.seq ?_)
    skip
    refine W.region ?_
    (refine WL.lit (vs := []) [] rfl (Nat.le_of_ble_eq_true rfl) rfl rfl (by simp) (Nat.le_of_ble_eq_true rfl) rfl rfl rfl rfl (fun b96 => ?_))
    refine WL.val (OpVal.fieldAddrB rfl) rfl rfl rfl ?_
    refine WL.val (OpVal.loadP rfl (by assumption) (by repeat (first | exact .head _ | refine .tail _ ?_)) rfl) rfl rfl rfl ?_
    (refine WL.append (e := 62) (k := 2) (bytes := 32) (xs := []) (ys := flatv (pcs fs t.pieces)) (N := 0) (m2 := t.pieces.length) (μ' := fun v' => [kr 62 2 v' (pcs fs t.pieces), .blk b14 _ 25, .blk b12 _ 55]) rfl (fun v' => by simp only [kr, hcl, Nat.zero_add, List.nil_append]; exact .head _) rfl hPc (by repeat (first | exact .head _ | refine .tail _ ?_)) rfl (by omega) (by unfold maxLen; omega) (by omega) rfl rfl rfl ?_; intro a99 c99)
    refine WL.val (OpVal.fieldAddrB rfl) rfl rfl rfl ?_
    refine WL.store [_, _, _] rfl (.tail _ (.head _)) rfl rfl rfl (Nat.le_of_ble_eq_true rfl) (by first | (simp [Value.cells, Value.oneCell']; done) | exact IsArr.ones hW (by omega) | exact IsArr.ones hP (by omega)) rfl ?_
    refine WL.nil ?_
    refine Kseq.go (W.seq (W.seq ?_))
    skip
    refine W.region ?_
    refine WL.val (OpVal.opv rfl) rfl rfl rfl ?_
    refine WL.nil ?_
    refine Kseq.go (W.block ?_)
    refine W.loop (σ := Nat) (fun k => [(2, .pointer (some ⟨b2, 0, none⟩)), (7, xv), (9, mv), (11, ls.getD q undef), (12, .pointer (some ⟨b12, 0, none⟩)), (14, .pointer (some ⟨b14, 0, none⟩)), (15, .int .i64 (k : Int))]) (fun _ => [m38, m32, m26, m1, h])
      (fun k => [kr 62 2 (.slice a99 (0 + t.pieces.length) c99) (pcs fs (ysTo t x k)), .blk b14 [.slice wa t.women.length wc, .slice a99 (0 + t.pieces.length) c99, vi t.wrong].toArray 25, .blk b12 [vi lo1, vi hi1].toArray 55]) (fun k => k ≤ (movesOf t x).length) (fun k => (movesOf t x).length - k) 0 ⟨rfl, rfl, rfl, rfl, rfl, rfl, rfl, trivial⟩ (by simp) (.refl _) (Nat.zero_le _) ?_
    intro k hk
    have hck := hclk k
    refine W.seq (W.seq ?_)
    refine W.region ?_
    refine WL.val (OpVal.opv rfl) rfl rfl rfl ?_
    refine WL.val (OpVal.opv rfl) rfl rfl rfl ?_
    refine WL.val (OpVal.len rfl hmvA) rfl rfl rfl ?_
    refine WL.val (OpVal.opv rfl) rfl rfl rfl ?_
    refine WL.nil ?_
    refine Kseq.go ?_
    refine W.condD rfl rfl (fun hlt => ?_) (fun hge => ?_)
    · have hkm : k < (movesOf t x).length := by omega
      have hka : k < (astray t x).length := by omega
      have hmk := moves_get hka
      obtain ⟨hax, _, _⟩ := aAt_lt hka
      have hnow := ysTo_now hxl hka
      have hfk : fs.length = (ysTo t x k).length := by rw [ysTo_len]; exact hfl
      have hap : aAt t x k < t.pieces.length := by omega
      have hat := pieces_at hfk (p := aAt t x k) (by rw [ysTo_len]; exact hap)
      rw [hnow] at hat
      have est := setB_store hfk (p := aAt t x k) (by rw [ysTo_len]; exact hap) (x.getD (aAt t x k) 0)
      have hys : setB (ysTo t x k) (aAt t x k) (x.getD (aAt t x k) 0) = ysTo t x (k + 1) := rfl
      rw [hys] at est
      have hck1 := hclk (k + 1)
      generalize aAt t x k = p at *
      refine W.skip (Kseq.go (W.seq (W.block (W.seq (W.seq ?_)))))
      refine W.draw 27 (by kernel_rfl) (by kernel_rfl) (by kernel_rfl) rfl ?_
      refine DJ.val [] (OpVal.opv rfl) rfl rfl rfl rfl ?_
      refine DJ.val [] (OpVal.opv rfl) rfl rfl rfl rfl ?_
      refine DJ.val [] (OpVal.indexAddrN rfl rfl hmvA hkm) rfl rfl rfl rfl ?_
      refine DJ.val [] (OpVal.fieldAddrN rfl hmvA hkm) rfl rfl rfl rfl ?_
      refine DJ.val [] (OpVal.cast (OpVal.loadE rfl hmvA (by repeat (first | exact .head _ | refine .tail _ ?_)) hkm (by omega)) (congrArg (fun q : Move => vi q.piece) hmk)) rfl rfl rfl rfl ?_
      refine DJ.val [] (OpVal.fieldAddrB rfl) rfl rfl rfl rfl ?_
      refine DJ.val [] (OpVal.loadP rfl (by assumption) (by repeat (first | exact .head _ | refine .tail _ ?_)) rfl) rfl rfl rfl rfl ?_
      refine DJ.val [] (OpVal.len rfl hP) rfl rfl rfl rfl ?_
      refine DJ.val [] (OpVal.sub rfl rfl (by omega) (by omega)) rfl rfl rfl rfl ?_
      refine DJ.val [] (OpVal.cast (OpVal.call rfl (fun m hm => in_any _ _ _)) (congrArg Value.bool (decide_eq_true (show (0 : Int) ≤ (p : Int) ∧ (p : Int) ≤ (t.pieces.length : Int) - 1 by omega)))) rfl rfl rfl rfl ?_
      refine DJ.val [] (OpVal.opv rfl) rfl rfl rfl rfl ?_
      refine DJ.val [] (OpVal.opv rfl) rfl rfl rfl rfl ?_
      refine DJ.val [] (OpVal.fieldAddrB rfl) rfl rfl rfl rfl ?_
      refine DJ.val [] (OpVal.loadB rfl (.tail _ (.head _)) rfl) rfl rfl rfl rfl ?_
      refine DJ.val [] (OpVal.opv rfl) rfl rfl rfl rfl ?_
      refine DJ.val [] (OpVal.opv rfl) rfl rfl rfl rfl ?_
      refine DJ.val [] (OpVal.indexAddrN rfl rfl hmvA hkm) rfl rfl rfl rfl ?_
      refine DJ.val [] (OpVal.fieldAddrN rfl hmvA hkm) rfl rfl rfl rfl ?_
      refine DJ.val [] (OpVal.cast (OpVal.loadE rfl hmvA (by repeat (first | exact .head _ | refine .tail _ ?_)) hkm (by omega)) (congrArg (fun q : Move => vi q.piece) hmk)) rfl rfl rfl rfl ?_
      refine DJ.val [] (OpVal.indexAddrR rfl rfl (.head _) (by rw [hck]; exact hap)) rfl rfl rfl rfl ?_
      refine DJ.val [] (OpVal.fieldAddrR rfl (.head _) (by rw [hck]; exact hap)) rfl rfl rfl rfl ?_
      refine DJ.val [] (OpVal.loadR rfl (.head _) (by rw [hck]; exact hap) (by omega) hat) rfl rfl rfl rfl ?_
      refine DJ.val [] (OpVal.opv rfl) rfl rfl rfl rfl ?_
      refine DJ.val [] (OpVal.opv rfl) rfl rfl rfl rfl ?_
      refine DJ.val [] (OpVal.indexAddrN rfl rfl hmvA hkm) rfl rfl rfl rfl ?_
      refine DJ.val [] (OpVal.fieldAddrN rfl hmvA hkm) rfl rfl rfl rfl ?_
      refine DJ.val [] (OpVal.cast (OpVal.loadE rfl hmvA (by repeat (first | exact .head _ | refine .tail _ ?_)) hkm (by omega)) (congrArg (fun q : Move => vi q.fro) hmk)) rfl rfl rfl rfl ?_
      refine DJ.nil ?_
      refine WL.val (OpVal.neqF rfl rfl) rfl rfl rfl ?_
      refine WL.val (OpVal.opv rfl) rfl rfl rfl ?_
      refine WL.nil ?_
      refine Kseq.go ?_
      refine W.condF rfl rfl ?_
      refine W.skip (Kseq.go ?_)
      skip
      refine W.draw 12 (by kernel_rfl) (by kernel_rfl) (by kernel_rfl) rfl ?_
      refine DJ.val [] (OpVal.fieldAddrB rfl) rfl rfl rfl rfl ?_
      refine DJ.val [] (OpVal.loadB rfl (.tail _ (.head _)) rfl) rfl rfl rfl rfl ?_
      refine DJ.val [] (OpVal.opv rfl) rfl rfl rfl rfl ?_
      refine DJ.val [] (OpVal.opv rfl) rfl rfl rfl rfl ?_
      refine DJ.val [] (OpVal.indexAddrN rfl rfl hmvA hkm) rfl rfl rfl rfl ?_
      refine DJ.val [] (OpVal.fieldAddrN rfl hmvA hkm) rfl rfl rfl rfl ?_
      refine DJ.val [] (OpVal.cast (OpVal.loadE rfl hmvA (by repeat (first | exact .head _ | refine .tail _ ?_)) hkm (by omega)) (congrArg (fun q : Move => vi q.piece) hmk)) rfl rfl rfl rfl ?_
      refine DJ.val [] (OpVal.opv rfl) rfl rfl rfl rfl ?_
      refine DJ.val [] (OpVal.opv rfl) rfl rfl rfl rfl ?_
      refine DJ.val [] (OpVal.indexAddrN rfl rfl hmvA hkm) rfl rfl rfl rfl ?_
      refine DJ.val [] (OpVal.fieldAddrN rfl hmvA hkm) rfl rfl rfl rfl ?_
      refine DJ.val [] (OpVal.cast (OpVal.loadE rfl hmvA (by repeat (first | exact .head _ | refine .tail _ ?_)) hkm (by omega)) (congrArg (fun q : Move => vi q.to) hmk)) rfl rfl rfl rfl ?_
      refine DJ.nil ?_
      refine WL.val (OpVal.indexAddrR rfl rfl (.head _) (by rw [hck]; exact hap)) rfl rfl rfl ?_
      refine WL.val (OpVal.fieldAddrR rfl (.head _) (by rw [hck]; exact hap)) rfl rfl rfl ?_
      (refine WL.storeR (T := 62) (k := 2) (xs := flatv (pcs fs (ysTo t x k))) (μ' := [kr 62 2 (.slice a99 (0 + t.pieces.length) c99) (pcs fs (ysTo t x (k + 1))), .blk b14 [.slice wa t.women.length wc, .slice a99 (0 + t.pieces.length) c99, vi t.wrong].toArray 25, .blk b12 [vi lo1, vi hi1].toArray 55]) rfl (by unfold kr; rw [← est, hck, hck1]; exact .head _) rfl rfl rfl hap (Nat.le_of_ble_eq_true rfl) (by simp [Value.cells, Value.oneCell']) ?_)
      refine WL.nil ?_
      refine Kblock.normal (Kseq.go ?_)
      skip
      refine W.region ?_
      refine WL.val (OpVal.opv rfl) rfl rfl rfl ?_
      refine WL.val (OpVal.incr rfl (by omega)) rfl rfl rfl ?_
      refine WL.val (OpVal.opv rfl) rfl rfl rfl ?_
      refine WL.nil ?_
      skip
      exact Kloop.next (k + 1) (by omega) (by omega) ⟨rfl, rfl, rfl, rfl, rfl, rfl, rfl, trivial⟩ (by simp) (.refl _)
    · refine W.exit (Kseq.exit (Kloop.exit (Kblock.here (Kseq.go (W.seq ?_)))))
      have hkk : k = (astray t x).length := by omega
      subst hkk
      refine W.freezeK (.head _) (fun b hb => (hF b hb).elim) (by omega) (pcs_size _ _) (pcs_one hal) fun m2 hm2 => ?_
      have hp2 := pieces_of (by rw [hfl, ysTo_len]) hm2
      clear hm2
      refine W.join fun mj hj => ?_
      subst hfs
      have hy := own_table (n := t.wrong) (hj h (by simp)) (ysTo_len t x _) (ysTo_map t x _) (hW.le (hj h (by simp))) hM (hp2.le (hj m2 (by simp)))
      have hye : (⟨t.women, ysTo t x (astray t x).length, t.wrong⟩ : Table) = behind t x := rfl
      rw [hye] at hy
      have hsy : Sm (behind t x) := by
        refine ⟨hs1, by rw [hSy.pieces]; exact hs2, fun i hi => ?_⟩
        rw [hSy.pieces] at hi
        rw [hSy.marks]
        exact hs.2.2 i hi
      skip
      refine W.region ?_
      refine WL.val (OpVal.loadBW rfl (.head _) rfl) rfl rfl rfl ?_
      refine WL.abs (OpAbs.call rfl (fun m hm => table_any (hy.le (by repeat (first | exact hm.1 | replace hm := hm.2))) hsy)) rfl rfl rfl ?_
      rintro m152 v152 h152
      refine WL.val (OpVal.opv rfl) rfl rfl rfl ?_
      refine WL.abs (OpAbs.call rfl (fun m hm => list_any (hxv.le (by repeat (first | exact hm.1 | replace hm := hm.2))) (by omega))) rfl rfl rfl ?_
      rintro m154 v154 h154
      refine WL.abs (OpAbs.call rfl (fun m hm => playT_any (h152.le (by repeat (first | exact hm.1 | replace hm := hm.2))) hsy (h154.le (by repeat (first | exact hm.1 | replace hm := hm.2))))) rfl rfl rfl ?_
      rintro m155 _ ⟨pa1, pb1, rfl, _, hpb⟩
      rw [if_pos hEy, hAy] at hpb
      rw [hEy]
      refine WL.val (OpVal.opv rfl) rfl rfl rfl ?_
      refine WL.val (OpVal.opv rfl) rfl rfl rfl ?_
      refine WL.val (OpVal.opv rfl) rfl rfl rfl ?_
      refine WL.val (OpVal.opv rfl) rfl rfl rfl ?_
      refine WL.val (OpVal.opv rfl) rfl rfl rfl ?_
      refine WL.val (OpVal.opv rfl) rfl rfl rfl ?_
      refine WL.val (OpVal.opv rfl) rfl rfl rfl ?_
      refine WL.nil ?_
      refine Kseq.go (W.seq ?_)
      skip
      refine W.region ?_
      refine WL.val (OpVal.loadPW rfl (by assumption) (by repeat (first | exact .head _ | refine .tail _ ?_)) (by rfl)) rfl rfl rfl ?_
      refine WL.val (OpVal.opv rfl) rfl rfl rfl ?_
      refine WL.abs (OpAbs.call rfl (fun m hm => astray_any (hv'.le (by repeat (first | exact hm.1 | replace hm := hm.2))) hs (hoi.le (by repeat (first | exact hm.1 | replace hm := hm.2))) (by omega))) rfl rfl rfl ?_
      rintro m161 v161 h161
      refine WL.val (OpVal.len rfl h161) rfl rfl rfl ?_
      refine WL.val (OpVal.opv rfl) rfl rfl rfl ?_
      refine WL.nil ?_
      refine Kseq.go (W.seq ?_)
      by_cases hgt : lo1 < ((astray t other).length : Int)
      · skip
        refine W.region ?_
        refine WL.val (OpVal.opv rfl) rfl rfl rfl ?_
        refine WL.val (OpVal.eqT rfl rfl) rfl rfl rfl ?_
        refine WL.val (OpVal.opv rfl) rfl rfl rfl ?_
        refine WL.val (OpVal.opv rfl) rfl rfl rfl ?_
        refine WL.val (OpVal.cast (OpVal.len rfl hpb) (show vi ((([] : List Int).length : Nat) : Int) = vi 0 from rfl)) rfl rfl rfl ?_
        refine WL.val (OpVal.eqT rfl rfl) rfl rfl rfl ?_
        refine WL.val (OpVal.opv rfl) rfl rfl rfl ?_
        refine WL.val (OpVal.opv rfl) rfl rfl rfl ?_
        refine WL.val (OpVal.opv rfl) rfl rfl rfl ?_
        refine WL.val (OpVal.fieldAddrB rfl) rfl rfl rfl ?_
        refine WL.val (OpVal.loadB rfl (.tail _ (.head _)) rfl) rfl rfl rfl ?_
        refine WL.val (OpVal.cast (OpVal.opv rfl) (congrArg Value.bool (decide_eq_true hoMin))) rfl rfl rfl ?_
        refine WL.val (OpVal.opv rfl) rfl rfl rfl ?_
        refine WL.val (OpVal.opv rfl) rfl rfl rfl ?_
        refine WL.val (OpVal.opv rfl) rfl rfl rfl ?_
        refine WL.val (OpVal.fieldAddrB rfl) rfl rfl rfl ?_
        refine WL.val (OpVal.loadB rfl (.tail _ (.head _)) rfl) rfl rfl rfl ?_
        refine WL.val (OpVal.cast (OpVal.opv rfl) (congrArg Value.bool (decide_eq_true hgt))) rfl rfl rfl ?_
        refine WL.val (OpVal.opv rfl) rfl rfl rfl ?_
        refine WL.pass rfl rfl rfl ?_
        refine WL.pass rfl rfl rfl ?_
        refine WL.pass rfl rfl rfl ?_
        refine WL.pass rfl rfl rfl ?_
        refine WL.val (OpVal.opv rfl) rfl rfl rfl ?_
        refine WL.val (OpVal.opv rfl) rfl rfl rfl ?_
        refine WL.val (OpVal.opv rfl) rfl rfl rfl ?_
        refine WL.val (OpVal.call rfl (fun m hm => awake_any)) rfl rfl rfl ?_
        refine WL.val (OpVal.opv rfl) rfl rfl rfl ?_
        refine WL.val (OpVal.opv rfl) rfl rfl rfl ?_
        refine WL.nil ?_
        refine Kseq.go ?_
        refine W.ret ?_; skip; refine ⟨.inl rfl, [_], h, ⟨.tmp rfl, trivial⟩, (by repeat (first | exact .head _ | refine .tail _ ?_)), ?_⟩
        rfl
      · have hbf : before other x = false := hoFst (by simp only [aN] at hoMin hlo0 ⊢; omega)
        skip
        refine W.region ?_
        refine WL.val (OpVal.opv rfl) rfl rfl rfl ?_
        refine WL.val (OpVal.eqT rfl rfl) rfl rfl rfl ?_
        refine WL.val (OpVal.opv rfl) rfl rfl rfl ?_
        refine WL.val (OpVal.opv rfl) rfl rfl rfl ?_
        refine WL.val (OpVal.cast (OpVal.len rfl hpb) (show vi ((([] : List Int).length : Nat) : Int) = vi 0 from rfl)) rfl rfl rfl ?_
        refine WL.val (OpVal.eqT rfl rfl) rfl rfl rfl ?_
        refine WL.val (OpVal.opv rfl) rfl rfl rfl ?_
        refine WL.val (OpVal.opv rfl) rfl rfl rfl ?_
        refine WL.val (OpVal.opv rfl) rfl rfl rfl ?_
        refine WL.val (OpVal.fieldAddrB rfl) rfl rfl rfl ?_
        refine WL.val (OpVal.loadB rfl (.tail _ (.head _)) rfl) rfl rfl rfl ?_
        refine WL.val (OpVal.cast (OpVal.opv rfl) (congrArg Value.bool (decide_eq_true hoMin))) rfl rfl rfl ?_
        refine WL.val (OpVal.opv rfl) rfl rfl rfl ?_
        refine WL.val (OpVal.opv rfl) rfl rfl rfl ?_
        refine WL.val (OpVal.opv rfl) rfl rfl rfl ?_
        refine WL.val (OpVal.fieldAddrB rfl) rfl rfl rfl ?_
        refine WL.val (OpVal.loadB rfl (.tail _ (.head _)) rfl) rfl rfl rfl ?_
        refine WL.val (OpVal.cast (OpVal.opv rfl) (congrArg Value.bool (decide_eq_false hgt))) rfl rfl rfl ?_
        refine WL.val (OpVal.opv rfl) rfl rfl rfl ?_
        refine WL.val (OpVal.opv rfl) rfl rfl rfl ?_
        refine WL.val (OpVal.opv rfl) rfl rfl rfl ?_
        refine WL.val (OpVal.cast (OpVal.call rfl (fun m hm => before_any (hoi.le (by repeat (first | exact hm.1 | replace hm := hm.2))) (hxv.le (by repeat (first | exact hm.1 | replace hm := hm.2))))) (congrArg Value.bool hbf)) rfl rfl rfl ?_
        refine WL.val (OpVal.opv rfl) rfl rfl rfl ?_
        refine WL.val (OpVal.opv rfl) rfl rfl rfl ?_
        refine WL.val (OpVal.opv rfl) rfl rfl rfl ?_
        refine WL.val (OpVal.opv rfl) rfl rfl rfl ?_
        refine WL.val (OpVal.call rfl (fun m hm => awake_any)) rfl rfl rfl ?_
        refine WL.val (OpVal.opv rfl) rfl rfl rfl ?_
        refine WL.val (OpVal.opv rfl) rfl rfl rfl ?_
        refine WL.nil ?_
        refine Kseq.go ?_
        refine W.ret ?_; skip; refine ⟨.inl rfl, [_], h, ⟨.tmp rfl, trivial⟩, (by repeat (first | exact .head _ | refine .tail _ ?_)), ?_⟩
        rfl
  · have hE' : ¬ sureE t = 0 := by rw [← askE_sure]; exact hE
    obtain ⟨hE11, hnil⟩ := askE_valid hVa hE
    skip
    refine W.region ?_
    refine WL.val (OpVal.loadPW rfl (by assumption) (by repeat (first | exact .head _ | refine .tail _ ?_)) (by rfl)) rfl rfl rfl ?_
    refine WL.abs (OpAbs.call rfl (fun m hm => table_any (hv'.le (by repeat (first | exact hm.1 | replace hm := hm.2))) hs)) rfl rfl rfl ?_
    rintro m31 v31 h31
    refine WL.abs (OpAbs.call rfl (fun m hm => fewestT_any (h31.le (by repeat (first | exact hm.1 | replace hm := hm.2))) hs)) rfl rfl rfl ?_
    rintro m32 _ ⟨xv, rfl, hxv⟩
    refine WL.val (OpVal.opv rfl) rfl rfl rfl ?_
    refine WL.val (OpVal.opv rfl) rfl rfl rfl ?_
    refine WL.val (OpVal.opv rfl) rfl rfl rfl ?_
    refine WL.val (OpVal.opv rfl) rfl rfl rfl ?_
    refine WL.val (OpVal.opv rfl) rfl rfl rfl ?_
    refine WL.nil ?_
    refine Kseq.go (W.seq ?_)
    skip
    refine W.region ?_
    refine WL.val (OpVal.loadPW rfl (by assumption) (by repeat (first | exact .head _ | refine .tail _ ?_)) (by rfl)) rfl rfl rfl ?_
    refine WL.abs (OpAbs.call rfl (fun m hm => table_any (hv'.le (by repeat (first | exact hm.1 | replace hm := hm.2))) hs)) rfl rfl rfl ?_
    rintro m37 v37 h37
    refine WL.abs (OpAbs.call rfl (fun m hm => movesT_any (h37.le (by repeat (first | exact hm.1 | replace hm := hm.2))) hs)) rfl rfl rfl ?_
    rintro m38 _ ⟨mv, rfl, hmv⟩
    refine WL.val (OpVal.opv rfl) rfl rfl rfl ?_
    refine WL.val (OpVal.opv rfl) rfl rfl rfl ?_
    refine WL.val (OpVal.opv rfl) rfl rfl rfl ?_
    refine WL.val (OpVal.opv rfl) rfl rfl rfl ?_
    refine WL.val (OpVal.opv rfl) rfl rfl rfl ?_
    refine WL.nil ?_
    refine Kseq.go (W.seq (W.seq ?_))
    rw [hE11]
    skip
    refine W.region ?_
    refine WL.val (OpVal.opv rfl) rfl rfl rfl ?_
    refine WL.val (OpVal.cast (OpVal.opv rfl) (congrArg (fun b => Value.bool (!b)) (decide_eq_false (by decide)))) rfl rfl rfl ?_
    refine WL.nil ?_
    refine Kseq.go ?_
    refine W.condT rfl rfl ?_
    refine W.seq ?_
    refine W.region ?_
    refine WL.val (OpVal.opv rfl) rfl rfl rfl ?_
    refine WL.val (OpVal.opv rfl) rfl rfl rfl ?_
    refine WL.val (OpVal.eqT rfl rfl) rfl rfl rfl ?_
    refine WL.val (OpVal.opv rfl) rfl rfl rfl ?_
    refine WL.val (OpVal.opv rfl) rfl rfl rfl ?_
    refine WL.val (OpVal.opv rfl) rfl rfl rfl ?_
    refine WL.val (OpVal.eqT rfl rfl) rfl rfl rfl ?_
    refine WL.val (OpVal.opv rfl) rfl rfl rfl ?_
    refine WL.val (OpVal.opv rfl) rfl rfl rfl ?_
    refine WL.val (OpVal.call rfl (fun m hm => awake_any)) rfl rfl rfl ?_
    refine WL.val (OpVal.opv rfl) rfl rfl rfl ?_
    refine WL.val (OpVal.opv rfl) rfl rfl rfl ?_
    refine WL.nil ?_
    refine Kseq.go ?_
    refine W.ret ?_; refine Kseq.ret ?_; refine ⟨.inl rfl, [_], h, ⟨.tmp rfl, trivial⟩, (by repeat (first | exact .head _ | refine .tail _ ?_)), ?_⟩
    rfl
end Go.Proofs.Ytgolpbkapphciaa
