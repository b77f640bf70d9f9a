/- The statement ErrandBack: its contract. -/
import Derived.Test.YtdjkokpbeaapoaaGreatP26
import Derived.Test.YtdjkokpbeaapoaaGreatT93
namespace Go.Proofs.YtdjkokpbeaapoaaGreat
open Go Go.Eng Go.RowKit

theorem leftM_len (ms : List Move) (l : List Int) (k : Nat) : (leftM ms l k).length ≤ ms.length := by
  unfold leftM
  refine Nat.le_trans (List.length_filter_le ..) ?_
  simp; omega
theorem moves_get' {ms : List Move} {i : Nat} (h : i < ms.length) : ms.getD i default ∈ ms := by
  rw [List.getD_eq_getElem?_getD, List.getElem?_eq_getElem h]; exact List.getElem_mem h
set_option maxHeartbeats 800000 in
/-- ErrandBack -/
theorem errandBack_any {h : Mem} {v wv : Value} {r : Errand} {ws : List Nat} (hv : IsErrand h v r) (hws : IsWds h wv ws) : FnV Tryz.prog 5 #[v, wv] h (.bool true) := by
  have hv' := hv
  obtain ⟨wov, pv, hov, sv, f, rfl, hW, hP, hM, hH, hS⟩ := hv
  have hT := IsErrand.tableOf hW hP hM
  refine FnR.val ?_
  refine FnR.of_W (n := 138) Tryz.func5 rfl rfl (Nat.le_of_ble_eq_true rfl) fun c hr hD hF => ?_
  refine W.seq ?_
  refine W.region ?_
  refine WL.box rfl rfl rfl rfl (fun b2 => ?_)
  refine WL.val (OpVal.opv rfl) rfl rfl rfl ?_
  refine WL.nil ?_
  refine Kseq.go (W.seq (W.seq ?_))
  refine W.freezeBox (.head _) (fun b hb => (hF b hb).elim) fun m1 h1 => ?_
  skip
  refine W.region ?_
  refine WL.val (OpVal.loadPW rfl (by assumption) (by repeat (first | exact .head _ | refine .tail _ ?_)) (by rfl)) rfl rfl rfl ?_
  refine WL.val (OpVal.call rfl (fun m hm => ready11_any (hv'.le (by repeat (first | exact hm.1 | replace hm := hm.2))))) rfl rfl rfl ?_
  refine WL.val (OpVal.opv rfl) rfl rfl rfl ?_
  refine WL.nil ?_
  refine Kseq.go ?_
  refine W.cond rfl rfl (fun he => ?_) (fun hne => ?_)
  · refine W.seq ?_
    refine W.region ?_
    refine WL.val (OpVal.call rfl (fun m hm => awake11_any)) rfl rfl rfl ?_
    refine WL.val (OpVal.opv rfl) rfl rfl rfl ?_
    refine WL.nil ?_
    refine Kseq.go ?_
    refine W.ret ?_; refine Kseq.ret ?_; refine ⟨.inl rfl, [_], h, ⟨.tmp rfl, trivial⟩, (by repeat (first | exact .head _ | refine .tail _ ?_)), ?_⟩
    rfl
  obtain ⟨hth, hV⟩ := readyE_iff.1 (show readyE r = true by simpa using hne)
  have hs : SmE r := ThinE.sm hth
  have hok := movesR_ok hV
  have h7 := hok.len
  have hVt := hV.table
  have hat := ask_truths hVt
  have h0a : ask r.table ≠ [] := by rw [hat]; exact hV.some
  have hask : askE r.table = 0 := by unfold askE; rw [if_pos (fault_zero.2 hVt), if_neg h0a]
  have hms : movesR r = movesOf r.table (fewest r.table (ask r.table)) := by rw [hat]; rfl
  have hpn := hVt.pieces
  refine W.skip (Kseq.go (W.seq ?_))
  skip
  refine W.region ?_
  refine WL.val (OpVal.loadPW rfl (by assumption) (by repeat (first | exact .head _ | refine .tail _ ?_)) (by rfl)) rfl rfl rfl ?_
  refine WL.val (OpVal.opv rfl) rfl rfl rfl ?_
  refine WL.abs (OpAbs.call rfl (fun m hm => walked11_any (hv'.le (by repeat (first | exact hm.1 | replace hm := hm.2))) (hws.le (by repeat (first | exact hm.1 | replace hm := hm.2))))) rfl rfl rfl ?_
  rintro m22 v22 h22
  refine WL.val (OpVal.opv rfl) rfl rfl rfl ?_
  refine WL.nil ?_
  refine Kseq.go (W.seq ?_)
  obtain ⟨w, hl, hw, hl6⟩ := h22
  skip
  refine W.region ?_
  refine WL.val (OpVal.loadPW rfl h1 (by repeat (first | exact .head _ | refine .tail _ ?_)) rfl) rfl rfl rfl ?_
  refine WL.abs (OpAbs.call rfl (fun m hm => errand_any (hv'.le (by repeat (first | exact hm.1 | replace hm := hm.2))) hs)) rfl rfl rfl ?_
  rintro m25 v25 h25
  refine WL.val (OpVal.opv rfl) rfl rfl rfl ?_
  refine WL.abs (OpAbs.call rfl (fun m hm => list11_any (hl.le (by repeat (first | exact hm.1 | replace hm := hm.2))) (by omega))) rfl rfl rfl ?_
  rintro m27 v27 h27
  refine WL.abs (OpAbs.call rfl (fun m hm => brings11_ok hV hw hs (h25.le (by repeat (first | exact hm.1 | replace hm := hm.2))) (h27.le (by repeat (first | exact hm.1 | replace hm := hm.2))))) rfl rfl rfl ?_
  rintro m28 _ ⟨lv, rfl, hlv⟩
  refine WL.val (OpVal.opv rfl) rfl rfl rfl ?_
  refine WL.val (OpVal.opv rfl) rfl rfl rfl ?_
  refine WL.val (OpVal.opv rfl) rfl rfl rfl ?_
  refine WL.val (OpVal.opv rfl) rfl rfl rfl ?_
  refine WL.val (OpVal.opv rfl) rfl rfl rfl ?_
  refine WL.nil ?_
  refine Kseq.go (W.seq ?_)
  skip
  refine W.region ?_
  refine WL.val (OpVal.fieldAddrB rfl) rfl rfl rfl ?_
  refine WL.val (OpVal.loadPA (vs := [wov, pv, vi r.table.wrong]) rfl h1 (by repeat (first | exact .head _ | refine .tail _ ?_)) rfl rfl) rfl rfl rfl ?_
  refine WL.abs (OpAbs.call rfl (fun m hm => table_any (hT.le (by repeat (first | exact hm.1 | replace hm := hm.2))) hs.table)) rfl rfl rfl ?_
  rintro m34 v34 h34
  refine WL.abs (OpAbs.call rfl (fun m hm => movesT_any (h34.le (by repeat (first | exact hm.1 | replace hm := hm.2))) hs.table)) rfl rfl rfl ?_
  rintro m35 _ ⟨mv, rfl, hmv⟩
  refine WL.val (OpVal.opv rfl) rfl rfl rfl ?_
  refine WL.val (OpVal.opv rfl) rfl rfl rfl ?_
  refine WL.val (OpVal.opv rfl) rfl rfl rfl ?_
  refine WL.val (OpVal.opv rfl) rfl rfl rfl ?_
  refine WL.val (OpVal.opv rfl) rfl rfl rfl ?_
  refine WL.nil ?_
  refine Kseq.go (W.seq (W.seq ?_))
  rw [if_pos hask, hat] at hmv
  replace hmv : IsMoves m35 mv (movesR r) := hmv
  rw [hask]
  skip
  refine W.region ?_
  refine WL.val (OpVal.opv rfl) rfl rfl rfl ?_
  refine WL.val (OpVal.cast (OpVal.opv rfl) (show _ = Value.bool false from rfl)) rfl rfl rfl ?_
  refine WL.val (OpVal.opv rfl) rfl rfl rfl ?_
  refine WL.val (OpVal.opv rfl) rfl rfl rfl ?_
  refine WL.val (OpVal.cast (OpVal.opv rfl) (show _ = Value.bool false from rfl)) rfl rfl rfl ?_
  refine WL.val (OpVal.opv rfl) rfl rfl rfl ?_
  refine WL.nil ?_
  refine Kseq.go ?_
  refine W.cond rfl rfl (fun he => absurd he (by simp)) (fun _ => ?_)
  have hbm := back_moves hVt h0a (piecesB (movesR r) fun i => brought w ((movesR r).getD i default))
  have hbs := back_spec hVt h0a (piecesB (movesR r) fun i => brought w ((movesR r).getD i default)) _ (Nat.le_refl _)
  rw [← movesOf_len] at hbs
  have hll := left_len hok.inc fun i => brought w ((movesR r).getD i default)
  rw [← hms] at hbm hbs
  have hpin : ∀ k, k < (movesR r).length → ∃ p : Nat, ((movesR r).getD k default).piece = p ∧ p < r.table.pieces.length := fun k hk => by
    obtain ⟨i, h2, _, e⟩ := movesR_get (moves_get' hk)
    have hFo := areOwners_iff.1 (fewest_owns hVt hV.some)
    exact ⟨i, by rw [e], by omega⟩
  generalize hbl : (piecesB (movesR r) fun i => brought w ((movesR r).getD i default)) = bl at *
  refine W.skip (Kseq.go (W.seq ?_))
  skip
  refine W.region ?_
  refine WL.val (OpVal.fieldAddrB rfl) rfl rfl rfl ?_
  refine WL.val (OpVal.loadPA (vs := [wov, pv, vi r.table.wrong]) rfl h1 (by repeat (first | exact .head _ | refine .tail _ ?_)) rfl rfl) rfl rfl rfl ?_
  refine WL.alloc rfl rfl rfl (fun b10 => ?_)
  (refine WL.store [_, _, _] rfl (.head _) rfl rfl rfl (Nat.le_of_ble_eq_true rfl) (by simp [Value.cells]; exact ⟨IsArr.one hW, IsArr.one hP, rfl⟩) rfl ?_)
  refine WL.nil ?_
  refine Kseq.go (W.seq ?_)
  have hPc := hP.toCells
  have hfl := fsOf_len f r.table.pieces
  have hal := fsOf_all hM
  have hcl := pcs_len hfl
  generalize hfs : fsOf f r.table.pieces = fs at *
  have hbl2 := backTo_len r.table (movesR r) bl
  have hcl2 : ∀ k, (pcs fs (backTo r.table (movesR r) bl k).pieces).length = r.table.pieces.length := fun k => by rw [pcs_len (by rw [hfl, hbl2]), hbl2]
  skip
  refine W.region ?_
  (refine WL.lit (vs := []) [] rfl (Nat.le_of_ble_eq_true rfl) rfl rfl (by simp) (Nat.le_of_ble_eq_true rfl) rfl rfl rfl rfl (fun b46 => ?_))
  refine WL.val (OpVal.fieldAddrB rfl) rfl rfl rfl ?_
  refine WL.val (OpVal.fieldAddrB rfl) rfl rfl rfl ?_
  refine WL.val (OpVal.loadP rfl h1 (by repeat (first | exact .head _ | refine .tail _ ?_)) rfl) rfl rfl rfl ?_
  (refine WL.append (e := 71) (k := 2) (bytes := 32) (xs := []) (ys := flatv (pcs fs r.table.pieces)) (N := 0) (m2 := r.table.pieces.length) (μ' := fun v' => [kr 71 2 v' (pcs fs r.table.pieces), .blk b10 _ 25]) rfl (fun v' => by simp only [kr, hcl, Nat.zero_add, List.nil_append]; exact .head _) rfl hPc (by repeat (first | exact .head _ | refine .tail _ ?_)) rfl (by omega) (by unfold maxLen; omega) (by omega) rfl rfl rfl ?_; intro a50 c50)
  refine WL.val (OpVal.fieldAddrB rfl) rfl rfl rfl ?_
  (refine WL.store [_, _, _] rfl (.tail _ (.head _)) rfl rfl rfl (Nat.le_of_ble_eq_true rfl) (by simp [Value.cells, Value.oneCell']) rfl ?_)
  refine WL.nil ?_
  refine Kseq.go (W.seq ?_)
  let xv : Value := .slice a50 (0 + r.table.pieces.length) c50
  skip
  refine W.region ?_
  refine WL.val (OpVal.opv rfl) rfl rfl rfl ?_
  refine WL.nil ?_
  refine Kseq.go (W.seq (W.seq ?_))
  skip
  refine W.region ?_
  refine WL.val (OpVal.opv rfl) rfl rfl rfl ?_
  refine WL.nil ?_
  refine Kseq.go (W.block ?_)
  refine W.nilRow 69 3 ?_
  refine W.loop (σ := Nat × Value) (fun s => [(2, .pointer (some ⟨b2, 0, none⟩)), (6, lv), (8, mv), (10, .pointer (some ⟨b10, 0, none⟩)), (11, s.2), (12, .int .i64 (s.1 : Int))]) (fun _ => [m35, m28, m1, h]) (fun s => [kr 69 3 s.2 ((leftM (movesR r) bl s.1).map mv3), .row 71 2 xv r.table.pieces.length (flatv (pcs fs (backTo r.table (movesR r) bl s.1).pieces)), .blk b10 [wov, xv, vi r.table.wrong].toArray 25])
    (fun s => s.1 ≤ (movesR r).length) (fun s => (movesR r).length - s.1) (0, .slice none 0 0) ⟨rfl, rfl, rfl, rfl, rfl, rfl, trivial⟩ (by simp) (sub_eq (by simp only [kr, hcl]; rfl)) (Nat.zero_le _) ?_
  rintro ⟨k, a⟩ hk
  dsimp only at hk ⊢
  have hlm := leftM_len (movesR r) bl k
  have hlml : ((leftM (movesR r) bl k).map mv3).length = (leftM (movesR r) bl k).length := by simp
  refine W.seq (W.seq ?_)
  refine W.region ?_
  refine WL.val (OpVal.opv rfl) rfl rfl rfl ?_
  refine WL.val (OpVal.opv rfl) rfl rfl rfl ?_
  refine WL.val (OpVal.len rfl hmv) rfl rfl rfl ?_
  refine WL.val (OpVal.opv rfl) rfl rfl rfl ?_
  refine WL.nil ?_
  refine Kseq.go ?_
  refine W.condD rfl rfl (fun hlt => ?_) (fun hge => ?_)
  · have hkm : k < (movesR r).length := by omega
    obtain ⟨p, hp, hpl⟩ := hpin k hkm
    refine W.skip (Kseq.go (W.seq (W.block (W.seq (W.seq ?_)))))
    refine W.draw 9 (by kernel_rfl) (by kernel_rfl) (by kernel_rfl) rfl ?_
    refine DJ.val [] (OpVal.opv rfl) rfl rfl rfl rfl ?_
    refine DJ.val [] (OpVal.opv rfl) rfl rfl rfl rfl ?_
    refine DJ.val [] (OpVal.indexAddrN rfl rfl hmv hkm) rfl rfl rfl rfl ?_
    refine DJ.val [] (OpVal.fieldAddrN rfl hmv hkm) rfl rfl rfl rfl ?_
    refine DJ.val [] (OpVal.cast (OpVal.loadE rfl hmv (by repeat (first | exact .head _ | refine .tail _ ?_)) hkm (by omega)) (congrArg (Value.int .i64) hp)) rfl rfl rfl rfl ?_
    refine DJ.val [] (OpVal.fieldAddrB rfl) rfl rfl rfl rfl ?_
    refine DJ.val [] (OpVal.loadB rfl (.tail _ (.tail _ (.head _))) rfl) rfl rfl rfl rfl ?_
    refine DJ.val [] (OpVal.lenR rfl (.tail _ (.head _))) rfl rfl rfl rfl ?_
    refine DJ.val [] (OpVal.sub rfl rfl (by omega) (by omega)) rfl rfl rfl rfl ?_
    refine DJ.nil ?_
    refine WL.val (OpVal.call rfl (fun m hm => in_any _ _ _)) rfl rfl rfl ?_
    refine WL.val (OpVal.cast (OpVal.opv rfl) (congrArg Value.bool (show (!decide _) = false by rw [decide_eq_true (by omega)]; rfl))) rfl rfl rfl ?_
    refine WL.nil ?_
    refine Kseq.go ?_
    refine W.cond rfl rfl (fun he => absurd he (by simp)) (fun _ => ?_)
    refine W.skip (Kseq.go (W.seq ?_))
    skip
    refine W.region ?_
    refine WL.val (OpVal.opv rfl) rfl rfl rfl ?_
    refine WL.val (OpVal.opv rfl) rfl rfl rfl ?_
    refine WL.val (OpVal.opv rfl) rfl rfl rfl ?_
    refine WL.val (OpVal.indexAddrN rfl rfl hmv hkm) rfl rfl rfl ?_
    refine WL.val (OpVal.fieldAddrN rfl hmv hkm) rfl rfl rfl ?_
    refine WL.val (OpVal.loadE rfl hmv (by repeat (first | exact .head _ | refine .tail _ ?_)) hkm (by omega)) rfl rfl rfl ?_
    refine WL.val (OpVal.call rfl (fun m hm => has_any _ (hlv.le (by repeat (first | exact hm.1 | replace hm := hm.2))))) rfl rfl rfl ?_
    refine WL.nil ?_
    refine Kseq.go ?_
    refine W.cond rfl rfl (fun ha => ?_) (fun ha => ?_)
    · have ha : ((movesR r).getD k default).piece ∈ bl := of_decide_eq_true ha
      have hst := setB_store (fs := fs) (ps := (backTo r.table (movesR r) bl k).pieces) (by rw [hfl, hbl2]) (p := p) (by rw [hbl2]; exact hpl) ((movesR r).getD k default).to
      have hnx : (backTo r.table (movesR r) bl (k + 1)).pieces = setB (backTo r.table (movesR r) bl k).pieces p ((movesR r).getD k default).to := by
        rw [backTo_yes ha, hp]; rfl
      skip
      refine W.draw 12 (by kernel_rfl) (by kernel_rfl) (by kernel_rfl) rfl ?_
      refine DJ.val [] (OpVal.fieldAddrB rfl) rfl rfl rfl rfl ?_
      refine DJ.val [] (OpVal.loadB rfl (.tail _ (.tail _ (.head _))) rfl) rfl rfl rfl rfl ?_
      refine DJ.val [] (OpVal.opv rfl) rfl rfl rfl rfl ?_
      refine DJ.val [] (OpVal.opv rfl) rfl rfl rfl rfl ?_
      refine DJ.val [] (OpVal.indexAddrN rfl rfl hmv hkm) rfl rfl rfl rfl ?_
      refine DJ.val [] (OpVal.fieldAddrN rfl hmv hkm) rfl rfl rfl rfl ?_
      refine DJ.val [] (OpVal.cast (OpVal.loadE rfl hmv (by repeat (first | exact .head _ | refine .tail _ ?_)) hkm (by omega)) (congrArg (Value.int .i64) hp)) rfl rfl rfl rfl ?_
      refine DJ.val [] (OpVal.opv rfl) rfl rfl rfl rfl ?_
      refine DJ.val [] (OpVal.opv rfl) rfl rfl rfl rfl ?_
      refine DJ.val [] (OpVal.indexAddrN rfl rfl hmv hkm) rfl rfl rfl rfl ?_
      refine DJ.val [] (OpVal.fieldAddrN rfl hmv hkm) rfl rfl rfl rfl ?_
      refine DJ.val [] (OpVal.loadE rfl hmv (by repeat (first | exact .head _ | refine .tail _ ?_)) hkm (by omega)) rfl rfl rfl rfl ?_
      refine DJ.nil ?_
      refine WL.val (OpVal.indexAddrR rfl rfl (.tail _ (.head _)) hpl) rfl rfl rfl ?_
      refine WL.val (OpVal.fieldAddrR rfl (.tail _ (.head _)) hpl) rfl rfl rfl ?_
      (refine WL.storeR (T := 71) (k := 2) (xs := flatv (pcs fs (backTo r.table (movesR r) bl k).pieces)) (μ' := [kr 69 3 a ((leftM (movesR r) bl k).map mv3), .row 71 2 xv r.table.pieces.length (flatv (pcs fs (backTo r.table (movesR r) bl (k + 1)).pieces)), .blk b10 [wov, xv, vi r.table.wrong].toArray 25]) rfl (by rw [hnx, ← hst]; exact .tail _ (.head _)) rfl rfl rfl hpl (Nat.le_of_ble_eq_true rfl) (by simp [Value.cells, Value.oneCell']) ?_)
      refine WL.nil ?_
      refine Kblock.normal (Kseq.go ?_)
      skip
      refine W.region ?_
      refine WL.val (OpVal.opv rfl) rfl rfl rfl ?_
      refine WL.val (OpVal.incr rfl (by omega)) rfl rfl rfl ?_
      refine WL.val (OpVal.opv rfl) rfl rfl rfl ?_
      refine WL.nil ?_
      skip
      refine Kloop.next (k + 1, a) (by dsimp only; omega) (by dsimp only; omega) ⟨rfl, rfl, rfl, rfl, rfl, rfl, trivial⟩ (by simp) ?_
      dsimp only
      rw [leftM_yes hkm ha]
      exact .refl _
    · have ha : ((movesR r).getD k default).piece ∉ bl := of_decide_eq_false ha
      have hnx : backTo r.table (movesR r) bl (k + 1) = backTo r.table (movesR r) bl k := backTo_no ha
      skip
      refine W.region ?_
      refine WL.val (OpVal.opv rfl) rfl rfl rfl ?_
      refine WL.val (OpVal.opv rfl) rfl rfl rfl ?_
      refine WL.val (OpVal.opv rfl) rfl rfl rfl ?_
      refine WL.val (OpVal.indexAddrN rfl rfl hmv hkm) rfl rfl rfl ?_
      refine WL.val (OpVal.loadEA rfl hmv (by repeat (first | exact .head _ | refine .tail _ ?_)) hkm) rfl rfl rfl ?_
      refine WL.abs (OpAbs.mono (OpAbs.lit [vi ((movesR r).getD k default).piece, vi ((movesR r).getD k default).fro, vi ((movesR r).getD k default).to] rfl (Nat.le_of_ble_eq_true rfl) rfl rfl (by simp [Value.cells]) (Nat.le_of_ble_eq_true rfl) rfl (by simp [Value.oneCell'])) (fun m' v' h' => h'.1)) rfl rfl rfl ?_
      rintro m95 v95 h95
      (refine WL.appK (mv3 ((movesR r).getD k default)) rfl (fun _ => .head _) rfl h95 (by repeat (first | exact .head _ | refine .tail _ ?_)) rfl rfl (by omega) (by omega) (Nat.le_of_ble_eq_true rfl) rfl rfl rfl ?_; intro a96 c96)
      refine WL.val (OpVal.opv rfl) rfl rfl rfl ?_
      refine WL.nil ?_
      refine Kblock.normal (Kseq.go ?_)
      skip
      refine W.region ?_
      refine WL.val (OpVal.opv rfl) rfl rfl rfl ?_
      refine WL.val (OpVal.incr rfl (by omega)) rfl rfl rfl ?_
      refine WL.val (OpVal.opv rfl) rfl rfl rfl ?_
      refine WL.nil ?_
      skip
      refine Kloop.next (k + 1, .slice a96 (((leftM (movesR r) bl k).map mv3).length + 1) c96) (by dsimp only; omega) (by dsimp only; omega) ⟨rfl, rfl, rfl, rfl, rfl, rfl, trivial⟩ (by simp) ?_
      dsimp only
      rw [leftM_no hkm ha, List.map_append, hnx]
      exact .refl _
  refine W.exit (Kseq.exit (Kloop.exit (Kblock.here (Kseq.go (W.seq ?_)))))
  have hkk : k = (movesR r).length := by omega
  subst hkk
  refine W.weaken [(2, .pointer (some ⟨b2, 0, none⟩)), (6, lv), (8, mv), (10, .pointer (some ⟨b10, 0, none⟩)), (11, a)] [m35, m28, m1, h] [kr 69 3 a ((leftM (movesR r) bl (movesR r).length).map mv3), kr 71 2 xv (pcs fs (backTo r.table (movesR r) bl (movesR r).length).pieces), .blk b10 [wov, xv, vi r.table.wrong].toArray 25] (by repeat (first | exact trivial | refine ⟨rfl, ?_⟩)) (by simp) (sub_eq (by simp only [kr, hcl2])) ?_
  refine W.freezeK (.head _) (fun b hb => (hF b hb).elim) (by omega) (fun u hu => by obtain ⟨x, _, rfl⟩ := List.mem_map.1 hu; rfl) (fun u hu => by obtain ⟨x, _, rfl⟩ := List.mem_map.1 hu; simp [mv3, Value.cells, Value.oneCell']) fun m3 hm3 => ?_
  have hlf := moves_of hm3
  clear hm3
  refine W.freezeK (.head _) (fun b hb => (hF b hb).elim) (by omega) (pcs_size _ _) (pcs_one hal) fun m4 hm4 => ?_
  have hp4 := pieces_of (by rw [hfl, hbl2]) hm4
  clear hm4
  refine W.join fun mj hj => ?_
  subst hfs
  have hx := own_table (n := r.table.wrong) (hj h (by simp)) (hbl2 _) (backTo_map r.table (movesR r) bl (movesR r).length) (hW.le (hj h (by simp))) hM (hp4.le (hj m4 (by simp)))
  have hxe : (⟨r.table.women, (backTo r.table (movesR r) bl (movesR r).length).pieces, r.table.wrong⟩ : Table) = backTo r.table (movesR r) bl (movesR r).length := by
    have e1 := backTo_women r.table (movesR r) bl (movesR r).length
    have e2 := backTo_wrong r.table (movesR r) bl (movesR r).length
    rw [← e1, ← e2]
  rw [hxe] at hx
  have hsx : Sm (backTo r.table (movesR r) bl (movesR r).length) := by
    refine ⟨by rw [backTo_women]; exact hs.table.1, by rw [hbl2]; exact hs.table.2.1, fun i hi => ?_⟩
    have hi' : i < r.table.pieces.length := by rw [← hbl2]; exact hi
    have e := congrArg (fun l => l.getD i []) (backTo_map r.table (movesR r) bl (movesR r).length)
    have e2 : ((backTo r.table (movesR r) bl (movesR r).length).pieces.getD i default).marks = (r.table.pieces.getD i default).marks := by
      simpa [List.getD_eq_getElem?_getD, List.getElem?_eq_getElem hi, List.getElem?_eq_getElem hi'] using e
    rw [e2]
    exact hs.table.2.2 i hi'
  have haskx : askE (backTo r.table (movesR r) bl (movesR r).length) = 0 := by
    unfold askE
    rw [if_pos (fault_zero.2 hbs.valid), if_neg (by rw [hbs.ask]; exact h0a)]
  generalize backTo r.table (movesR r) bl (movesR r).length = x at *
  have hlj := hlf.le (hj m3 (by simp))
  have hlvj := hlv.le (hj m28 (by simp))
  have hmvj := hmv.le (hj m35 (by simp))
  skip
  skip
  refine W.region ?_
  refine WL.val (OpVal.loadBW rfl (.head _) rfl) rfl rfl rfl ?_
  refine WL.abs (OpAbs.call rfl (fun m hm => table_any (hx.le (by repeat (first | exact hm.1 | replace hm := hm.2))) hsx)) rfl rfl rfl ?_
  rintro m99 v99 h99
  refine WL.abs (OpAbs.call rfl (fun m hm => movesT_any (h99.le (by repeat (first | exact hm.1 | replace hm := hm.2))) hsx)) rfl rfl rfl ?_
  rintro m100 _ ⟨kv, rfl, hkv⟩
  rw [if_pos haskx, hbm] at hkv
  rw [haskx]
  refine WL.val (OpVal.opv rfl) rfl rfl rfl ?_
  refine WL.val (OpVal.opv rfl) rfl rfl rfl ?_
  refine WL.val (OpVal.opv rfl) rfl rfl rfl ?_
  refine WL.val (OpVal.opv rfl) rfl rfl rfl ?_
  refine WL.val (OpVal.opv rfl) rfl rfl rfl ?_
  refine WL.nil ?_
  refine Kseq.go (W.seq (W.seq ?_))
  generalize leftM (movesR r) bl (movesR r).length = lf at *
  skip
  refine W.region ?_
  refine WL.val (OpVal.opv rfl) rfl rfl rfl ?_
  refine WL.val (OpVal.opv rfl) rfl rfl rfl ?_
  refine WL.val (OpVal.opv rfl) rfl rfl rfl ?_
  refine WL.val (OpVal.opv rfl) rfl rfl rfl ?_
  refine WL.val (OpVal.len rfl hkv) rfl rfl rfl ?_
  refine WL.val (OpVal.opv rfl) rfl rfl rfl ?_
  refine WL.val (OpVal.len rfl hlj) rfl rfl rfl ?_
  refine WL.val (OpVal.cast (OpVal.opv rfl) (congrArg Value.bool (show _ = false from by simp))) rfl rfl rfl ?_
  refine WL.val (OpVal.opv rfl) rfl rfl rfl ?_
  refine WL.val (OpVal.opv rfl) rfl rfl rfl ?_
  refine WL.val (OpVal.opv rfl) rfl rfl rfl ?_
  refine WL.val (OpVal.len rfl hlvj) rfl rfl rfl ?_
  refine WL.val (OpVal.opv rfl) rfl rfl rfl ?_
  refine WL.val (OpVal.len rfl hlj) rfl rfl rfl ?_
  refine WL.val (OpVal.add rfl rfl (by omega) (by omega)) rfl rfl rfl ?_
  refine WL.val (OpVal.opv rfl) rfl rfl rfl ?_
  refine WL.val (OpVal.len rfl hmvj) rfl rfl rfl ?_
  refine WL.val (OpVal.cast (OpVal.opv rfl) (congrArg Value.bool (show (!decide _) = false by rw [decide_eq_true (by omega)]; rfl))) rfl rfl rfl ?_
  refine WL.val (OpVal.opv rfl) rfl rfl rfl ?_
  refine WL.nil ?_
  refine Kseq.go ?_
  refine W.cond rfl rfl (fun he => absurd he (by simp)) (fun _ => ?_)
  refine W.skip (Kseq.go (W.seq (W.seq ?_)))
  skip
  refine W.region ?_
  refine WL.val (OpVal.opv rfl) rfl rfl rfl ?_
  refine WL.nil ?_
  refine Kseq.go (W.block ?_)
  refine W.loopC (σ := Nat) (fun k => [(11, a), (13, kv), (15, .int .i64 (k : Int))]) (fun k => k ≤ lf.length) (fun k => lf.length - k) 0 ⟨rfl, rfl, rfl, trivial⟩ (Nat.zero_le _) ?_
  intro k hk
  refine W.seq (W.seq ?_)
  refine W.region ?_
  refine WL.val (OpVal.opv rfl) rfl rfl rfl ?_
  refine WL.val (OpVal.opv rfl) rfl rfl rfl ?_
  refine WL.val (OpVal.len rfl hkv) rfl rfl rfl ?_
  refine WL.val (OpVal.opv rfl) rfl rfl rfl ?_
  refine WL.nil ?_
  refine Kseq.go ?_
  refine W.condD rfl rfl (fun hlt => ?_) (fun hge => ?_)
  · have hkl : k < lf.length := by omega
    refine W.skip (Kseq.go (W.seq (W.block (W.seq ?_))))
    refine W.draw 8 (by kernel_rfl) (by kernel_rfl) (by kernel_rfl) rfl ?_
    refine DJ.val [] (OpVal.opv rfl) rfl rfl rfl rfl ?_
    refine DJ.val [] (OpVal.opv rfl) rfl rfl rfl rfl ?_
    refine DJ.val [] (OpVal.indexAddrN rfl rfl hkv hkl) rfl rfl rfl rfl ?_
    refine DJ.val [] (OpVal.cast (OpVal.loadEA rfl hkv (by repeat (first | exact .head _ | refine .tail _ ?_)) hkl) (show _ = vq [(lf.getD k default).piece, (lf.getD k default).fro, (lf.getD k default).to] from rfl)) rfl rfl rfl rfl ?_
    refine DJ.val [] (OpVal.opv rfl) rfl rfl rfl rfl ?_
    refine DJ.val [] (OpVal.opv rfl) rfl rfl rfl rfl ?_
    refine DJ.val [] (OpVal.indexAddrN rfl rfl hlj hkl) rfl rfl rfl rfl ?_
    refine DJ.val [] (OpVal.cast (OpVal.loadEA rfl hlj (by repeat (first | exact .head _ | refine .tail _ ?_)) hkl) (show _ = vq [(lf.getD k default).piece, (lf.getD k default).fro, (lf.getD k default).to] from rfl)) rfl rfl rfl rfl ?_
    refine DJ.nil ?_
    refine WL.val (OpVal.cast (OpVal.neqQ (N := 3) (enc := vi) (xs := [(lf.getD k default).piece, (lf.getD k default).fro, (lf.getD k default).to]) (ys := [(lf.getD k default).piece, (lf.getD k default).fro, (lf.getD k default).to]) rfl rfl rfl rfl) (show _ = Value.bool false from congrArg Value.bool (by simp))) rfl rfl rfl ?_
    refine WL.nil ?_
    refine Kseq.go ?_
    refine W.cond rfl rfl (fun he => absurd he (by simp)) (fun _ => ?_)
    refine W.skip (Kblock.normal (Kseq.go ?_))
    refine W.region ?_
    refine WL.val (OpVal.opv rfl) rfl rfl rfl ?_
    refine WL.val (OpVal.incr rfl (by omega)) rfl rfl rfl ?_
    refine WL.val (OpVal.opv rfl) rfl rfl rfl ?_
    refine WL.nil ?_
    skip
    exact Kloop.nextC (k + 1) (by omega) (by omega) ⟨rfl, rfl, rfl, trivial⟩ (by simp) (by repeat (first | exact List.Sublist.refl _ | refine List.Sublist.cons _ ?_ | refine List.Sublist.cons_cons _ ?_))
  refine W.exit (Kseq.exit (Kloop.exit (Kblock.here (Kseq.go (W.seq ?_)))))
  skip
  refine W.region ?_
  refine WL.val (OpVal.call rfl (fun m hm => awake11_any)) rfl rfl rfl ?_
  refine WL.val (OpVal.opv rfl) rfl rfl rfl ?_
  refine WL.nil ?_
  refine Kseq.go ?_
  refine W.ret ?_; skip; refine ⟨.inl rfl, [_], h, ⟨.tmp rfl, trivial⟩, (by repeat (first | exact .head _ | refine .tail _ ?_)), ?_⟩
  rfl
end Go.Proofs.YtdjkokpbeaapoaaGreat
