/- The statement TopRead: its contract (the walk). -/
import Derived.Test.YtppkhehbkoeinaaT160
import Derived.Test.YtppkhehbkoeinaaT73
namespace Go.Proofs.Ytppkhehbkoeinaa
open Go Go.Eng Go.RowKit

theorem askE_zeroR {t : Table} (hV : Valid t) (h : ask t ≠ []) : askE t = 0 := by
  unfold askE
  rw [if_pos (fault_zero.2 hV), if_neg h]
theorem pcs_oneR {fs : List Value} {ps : List Piece} (h : ∀ u ∈ fs, u.oneCell' = true) : ∀ u ∈ pcs fs ps, ∀ x ∈ u.cells.toList, x.oneCell' = true := by
  intro u hu
  obtain ⟨j, hj, rfl⟩ := List.mem_iff_getElem.1 hu
  simp [pcs, pv2, Value.cells, Value.oneCell']
  exact h _ (List.getElem_mem _)
/-- TopRead -/
theorem topRead_any {h : Mem} {v : Value} {r : Errand} {n : Nat} (hv0 : IsErrand h v r) (hn : n < 256) : FnV Try.prog 6 #[v, .int .u8 n] h (.bool true) := by
  have hv' := hv0
  obtain ⟨wv, pv, hv, sv, f, rfl, hW, hP, hM, hH, hS⟩ := hv0
  have hTab : IsTable h (.agg #[wv, pv, vi r.table.wrong]) r.table := ⟨wv, pv, f, rfl, hW, hP, hM⟩
  refine FnR.val ?_
  refine FnR.of_W (n := 211) Try.func6 rfl rfl (Nat.le_of_ble_eq_true rfl) fun c hr hD hF => ?_
  refine W.seq ?_; refine W.region ?_
  refine WL.box rfl rfl rfl rfl (fun b2 => ?_)
  refine .o rfl ?_; refine WL.nil ?_
  refine Kseq.go (W.seq (W.seq ?_))
  refine W.freezeBox (.head _) (fun b hb => (hF b hb).elim) fun m2 h2 => ?_
  cases hT : ThinE r with
  | false =>
    refine W.region ?_; refine .val (.loadPW rfl h2 (by repeat constructor) rfl) rfl rfl rfl ?_; refine .val (.cast (.call rfl (fun m hm => thin11_any (hv'.le (by repeat first | exact hm.1 | replace hm := hm.2)))) (congrArg Value.bool hT)) rfl rfl rfl ?_
    iterate 2 refine .o rfl ?_
    refine WL.pass rfl rfl rfl ?_; refine WL.pass rfl rfl rfl ?_; refine WL.pass rfl rfl rfl ?_
    iterate 2 refine .o rfl ?_
    refine WL.pass rfl rfl rfl ?_; refine WL.pass rfl rfl rfl ?_; refine WL.pass rfl rfl rfl ?_; refine WL.pass rfl rfl rfl ?_; refine WL.pass rfl rfl rfl ?_; refine .o rfl ?_; refine WL.nil ?_; refine Kseq.go ?_; refine W.condT rfl rfl ?_; refine W.seq ?_; refine W.region ?_; refine .val (.call rfl (fun m hm => knownTop_any)) rfl rfl rfl ?_; refine .o rfl ?_; refine WL.nil ?_; refine Kseq.go ?_
    refine W.ret ?_; refine Kseq.ret ?_; refine ⟨.inl rfl, [_], h, ⟨.tmp rfl, trivial⟩, (by repeat constructor), ?_⟩
    rfl
  | true =>
  have hs := ThinE.sm hT
  by_cases hf0 : faultT r = 0
  case neg =>
    refine W.region ?_; refine .val (.loadPW rfl h2 (by repeat constructor) rfl) rfl rfl rfl ?_; refine .val (.cast (.call rfl (fun m hm => thin11_any (hv'.le (by repeat first | exact hm.1 | replace hm := hm.2)))) (congrArg Value.bool hT)) rfl rfl rfl ?_
    iterate 2 refine .o rfl ?_
    refine .val (.loadPW rfl h2 (by repeat constructor) rfl) rfl rfl rfl ?_; refine .val (.call rfl (fun m hm => faultR11_any (hv'.le (by repeat first | exact hm.1 | replace hm := hm.2)) hs)) rfl rfl rfl ?_; refine .val (.cast (.opv rfl) (show _ = Value.bool true from congrArg (fun b => Value.bool (!b)) (decide_eq_false hf0))) rfl rfl rfl ?_
    iterate 2 refine .o rfl ?_
    refine WL.pass rfl rfl rfl ?_; refine WL.pass rfl rfl rfl ?_; refine WL.pass rfl rfl rfl ?_; refine WL.pass rfl rfl rfl ?_; refine WL.pass rfl rfl rfl ?_; refine .o rfl ?_; refine WL.nil ?_; refine Kseq.go ?_; refine W.condT rfl rfl ?_; refine W.seq ?_; refine W.region ?_; refine .val (.call rfl (fun m hm => knownTop_any)) rfl rfl rfl ?_; refine .o rfl ?_; refine WL.nil ?_; refine Kseq.go ?_
    refine W.ret ?_; refine Kseq.ret ?_; refine ⟨.inl rfl, [_], h, ⟨.tmp rfl, trivial⟩, (by repeat constructor), ?_⟩
    rfl
  have hV := faultT_zero.1 hf0
  by_cases hp0 : r.table.pieces.length = 0
  · skip
    refine W.region ?_; refine .val (.loadPW rfl h2 (by repeat constructor) rfl) rfl rfl rfl ?_; refine .val (.cast (.call rfl (fun m hm => thin11_any (hv'.le (by repeat first | exact hm.1 | replace hm := hm.2)))) (congrArg Value.bool hT)) rfl rfl rfl ?_
    iterate 2 refine .o rfl ?_
    refine .val (.loadPW rfl h2 (by repeat constructor) rfl) rfl rfl rfl ?_; refine .val (.call rfl (fun m hm => faultR11_any (hv'.le (by repeat first | exact hm.1 | replace hm := hm.2)) hs)) rfl rfl rfl ?_; refine .val (.cast (.opv rfl) (show _ = Value.bool false from congrArg (fun b => Value.bool (!b)) (decide_eq_true hf0))) rfl rfl rfl ?_
    iterate 2 refine .o rfl ?_
    refine .val (.fieldAddrB rfl) rfl rfl rfl ?_; refine .val (.fieldAddrB rfl) rfl rfl rfl ?_; refine .val (.loadP rfl h2 (by repeat constructor) rfl) rfl rfl rfl ?_; refine .val (.len rfl hP) rfl rfl rfl ?_; refine .val (.cast (.opv rfl) (congrArg Value.bool (decide_eq_true (by omega)))) rfl rfl rfl ?_; refine .o rfl ?_; refine WL.nil ?_; refine Kseq.go ?_; refine W.condT rfl rfl ?_; refine W.seq ?_; refine W.region ?_; refine .val (.call rfl (fun m hm => knownTop_any)) rfl rfl rfl ?_; refine .o rfl ?_; refine WL.nil ?_; refine Kseq.go ?_
    refine W.ret ?_; refine Kseq.ret ?_; refine ⟨.inl rfl, [_], h, ⟨.tmp rfl, trivial⟩, (by repeat constructor), ?_⟩
    rfl
  refine W.region ?_; refine .val (.loadPW rfl h2 (by repeat constructor) rfl) rfl rfl rfl ?_; refine .val (.cast (.call rfl (fun m hm => thin11_any (hv'.le (by repeat first | exact hm.1 | replace hm := hm.2)))) (congrArg Value.bool hT)) rfl rfl rfl ?_
  iterate 2 refine .o rfl ?_
  refine .val (.loadPW rfl h2 (by repeat constructor) rfl) rfl rfl rfl ?_; refine .val (.call rfl (fun m hm => faultR11_any (hv'.le (by repeat first | exact hm.1 | replace hm := hm.2)) hs)) rfl rfl rfl ?_; refine .val (.cast (.opv rfl) (show _ = Value.bool false from congrArg (fun b => Value.bool (!b)) (decide_eq_true hf0))) rfl rfl rfl ?_
  iterate 2 refine .o rfl ?_
  refine .val (.fieldAddrB rfl) rfl rfl rfl ?_; refine .val (.fieldAddrB rfl) rfl rfl rfl ?_; refine .val (.loadP rfl h2 (by repeat constructor) rfl) rfl rfl rfl ?_; refine .val (.len rfl hP) rfl rfl rfl ?_; refine .val (.cast (.opv rfl) (congrArg Value.bool (decide_eq_false (by omega)))) rfl rfl rfl ?_; refine .o rfl ?_; refine WL.nil ?_; refine Kseq.go ?_; refine W.condF rfl rfl ?_
  have hE0 : askE r.table = 0 := askE_zeroR hV.table (by rw [ask_truths hV.table]; exact hV.some)
  have hnp := hV.table.pieces
  have hpl : n % r.table.pieces.length < r.table.pieces.length := Nat.mod_lt _ (by omega)
  refine W.skip (Kseq.go (W.seq ?_))
  refine W.region ?_; refine .val (.fieldAddrB rfl) rfl rfl rfl ?_; refine .val (.loadPA (vs := [wv, pv, vi r.table.wrong]) rfl h2 (by repeat constructor) rfl rfl) rfl rfl rfl ?_; refine WL.abs (OpAbs.call rfl (fun m hm => table_any (hTab.le (by repeat first | exact hm.1 | replace hm := hm.2)) hs.table)) rfl rfl rfl ?_
  rintro m45 v45 h45
  refine WL.abs (OpAbs.call rfl (fun m hm => fewestT_any (h45.le (by repeat first | exact hm.1 | replace hm := hm.2)) hs.table)) rfl rfl rfl ?_
  rintro m46 _ ⟨lf, rfl, hlf⟩
  rw [hE0, if_pos rfl] at hlf
  rw [hE0]
  iterate 5 refine .o rfl ?_
  refine WL.nil ?_
  refine Kseq.go (W.seq ?_)
  refine W.region ?_; refine .o rfl ?_; refine .val (.conv rfl (i64_in (by omega) (by omega))) rfl rfl rfl ?_; refine .val (.fieldAddrB rfl) rfl rfl rfl ?_; refine .val (.fieldAddrB rfl) rfl rfl rfl ?_; refine .val (.loadP rfl h2 (by repeat constructor) rfl) rfl rfl rfl ?_; refine .val (.len rfl hP) rfl rfl rfl ?_; refine .val (.cast (.rem rfl rfl (by omega) (by omega)) (show _ = vi ((n % r.table.pieces.length : Nat) : Int) from rfl)) rfl rfl rfl ?_; refine .o rfl ?_; refine WL.nil ?_
  refine Kseq.go (W.seq (W.seq ?_))
  generalize n % r.table.pieces.length = p at *
  have hown := readE_own hV
  obtain ⟨w, hw1, hw2, hw3⟩ := readE_w hV hpl
  refine W.region ?_
  iterate 3 refine .o rfl ?_
  refine .val (.fieldAddrB rfl) rfl rfl rfl ?_; refine .val (.loadPA (vs := [wv, pv, vi r.table.wrong]) rfl h2 (by repeat constructor) rfl rfl) rfl rfl rfl ?_; refine .o rfl ?_; refine .val (.cast (.call rfl (fun m hm => areOwners_any (hTab.le (by repeat first | exact hm.1 | replace hm := hm.2)) hs.table (hlf.le (by repeat first | exact hm.1 | replace hm := hm.2)))) (congrArg Value.bool hown)) rfl rfl rfl ?_
  iterate 2 refine .o rfl ?_
  refine WL.nil ?_; refine Kseq.go ?_; refine W.condF rfl rfl ?_
  refine W.skip (Kseq.go (W.seq ?_))
  refine W.join fun mk hk2 => ?_
  have hlk := IsInts.le hlf (hk2 _ (by simp))
  have h2k := h2.le (hk2 m2 (by simp))
  have hvk := hv'.le (hk2 h (by simp))
  have hTk := hTab.le (hk2 h (by simp))
  have hWk := hW.le (hk2 h (by simp))
  have hPk := hP.le (hk2 h (by simp))
  have hMk := hM.le (hk2 h (by simp))
  have hHk := IsArr.le hH (hk2 h (by simp))
  have hSk := IsArr.le hS (hk2 h (by simp))
  clear hlf h2 hk2
  refine W.weaken [(2, .pointer (some ⟨b2, 0, none⟩)), (5, lf), (7, vi (p : Int))] [mk] [] (by repeat (first | exact trivial | refine ⟨rfl, ?_⟩)) (by simp) (List.nil_sublist _) ?_; refine W.region ?_; refine .val (.loadPW rfl h2k (by repeat constructor) rfl) rfl rfl rfl ?_
  refine WL.alloc rfl rfl rfl (fun b8 => ?_)
  (refine WL.store [wv, pv, vi r.table.wrong, hv, sv, vi r.start, vi r.calls] rfl (.head _) rfl rfl rfl (Nat.le_of_ble_eq_true rfl) (by simp [Value.cells]; exact ⟨IsArr.one hW, IsArr.one hP, rfl, IsArr.one hH, IsArr.one hS, rfl, rfl⟩) rfl ?_)
  refine WL.nil ?_
  refine Kseq.go (W.seq ?_)
  obtain ⟨pa, pc, rfl⟩ := IsArr.form hPk
  have hPc := hPk.toCells
  have hfl := fsOf_len f r.table.pieces
  have hal := fsOf_all hMk
  have hpcl := pcs_len hfl
  have est := fun (u : Value) (hu : u.cells = #[u]) (ms : List Int) => setM_store hfl hpl u hu ms
  have hL2 := setM_len r.table.pieces p
  refine W.region ?_
  (refine WL.lit (vs := []) [] rfl (Nat.le_of_ble_eq_true rfl) rfl rfl (by simp) (Nat.le_of_ble_eq_true rfl) rfl rfl rfl rfl (fun b66 => ?_))
  refine .val (.fieldAddrB rfl) rfl rfl rfl ?_; refine .val (.fieldAddrB rfl) rfl rfl rfl ?_; refine .val (.loadP rfl h2k (by repeat constructor) rfl) rfl rfl rfl ?_
  (refine WL.append (e := 35) (k := 2) (bytes := 32) (xs := []) (ys := flatv (pcs (fsOf f r.table.pieces) r.table.pieces)) (N := 0) (m2 := r.table.pieces.length) (μ' := fun v' => [kr 35 2 v' (pcs (fsOf f r.table.pieces) r.table.pieces), .blk b8 _ 54]) rfl (fun v' => by simp only [kr, hpcl, Nat.zero_add, List.nil_append]; exact .head _) rfl hPc (by repeat constructor) rfl (by omega) (by unfold maxLen; omega) (by omega) rfl rfl rfl ?_; intro a70 c70)
  refine .val (.fieldAddrB rfl) rfl rfl rfl ?_; refine .val (.fieldAddrB rfl) rfl rfl rfl ?_
  refine WL.store [_, _, _, _, _, _, _] rfl (.tail _ (.head _)) rfl rfl rfl (Nat.le_of_ble_eq_true rfl) (by first | (simp [Value.cells, Value.oneCell']; done) | exact IsArr.ones hW (by omega) | exact IsArr.ones hP (by omega) | exact IsArr.ones hS (by omega) | exact IsArr.ones hH (by omega) | exact IsArr.ones hL (by omega) | exact IsArr.ones hB (by omega) | exact IsArr.ones hT (by omega) | exact IsArr.ones hm (by omega)) rfl ?_
  refine WL.nil ?_
  refine Kseq.go (W.seq ?_)
  generalize hfs : fsOf f r.table.pieces = fs at *
  have hmk : (r.table.women.getD w default).mark = (r.table.women.getD ((fewest r.table (ask r.table)).getD p 0).toNat default).mark := by rw [hw2]; rfl
  refine W.draw 15 (by kernel_rfl) (by kernel_rfl) (by kernel_rfl) rfl ?_; refine .val [] (.fieldAddrB rfl) rfl rfl rfl rfl ?_; refine .val [] (.fieldAddrB rfl) rfl rfl rfl rfl ?_; refine .val [] (.loadB rfl (.tail _ (.head _)) rfl) rfl rfl rfl rfl ?_; refine .val [] (.opv rfl) rfl rfl rfl rfl ?_; refine .val [] (.fieldAddrB rfl) rfl rfl rfl rfl ?_; refine .val [] (.fieldAddrB rfl) rfl rfl rfl rfl ?_; refine .val [] (.loadP rfl h2k (by repeat constructor) rfl) rfl rfl rfl rfl ?_; refine .val [] (.opv rfl) rfl rfl rfl rfl ?_; refine .val [] (.opv rfl) rfl rfl rfl rfl ?_; refine .val [] (.indexAddrN rfl rfl hlk (by omega)) rfl rfl rfl rfl ?_; refine .val [] (.cast (.loadE rfl hlk (by repeat constructor) (by omega) (by omega)) (congrArg vi hw2)) rfl rfl rfl rfl ?_; refine .val [] (.indexAddrN rfl rfl hWk hw1) rfl rfl rfl rfl ?_; refine .val [] (.fieldAddrN rfl hWk hw1) rfl rfl rfl rfl ?_; refine .val [] (.cast (.loadE rfl hWk (by repeat constructor) hw1 (by omega)) (congrArg vi hmk)) rfl rfl rfl rfl ?_
  refine DJ.abs (A := fun m q => IsInts m q [(r.table.women.getD ((fewest r.table (ask r.table)).getD p 0).toNat default).mark]) [] (OpAbs.mono (OpAbs.litI rfl) (fun m' v' h' => ints_lit (xs := [(r.table.women.getD ((fewest r.table (ask r.table)).getD p 0).toNat default).mark]) h')) rfl rfl rfl rfl ?_; refine DJ.nil ?_
  rintro m87 v87 h87
  obtain ⟨ma, mc, rfl⟩ := IsArr.form h87
  refine .val (.indexAddrR rfl rfl (.head _) (by rw [hpcl]; exact hpl)) rfl rfl rfl ?_
  refine .val (.fieldAddrR rfl (.head _) (by rw [hpcl]; exact hpl)) rfl rfl rfl ?_
  (refine WL.storeR (T := 35) (k := 2) (xs := flatv (pcs fs r.table.pieces)) (μ' := [kr 35 2 (.slice a70 (0 + r.table.pieces.length) c70) (pcs (fs.set p (.slice ma 1 mc)) (setM r.table.pieces p [(r.table.women.getD ((fewest r.table (ask r.table)).getD p 0).toNat default).mark])), .blk b8 _ 54]) rfl (by unfold kr; rw [← est (.slice ma 1 mc) rfl [(r.table.women.getD ((fewest r.table (ask r.table)).getD p 0).toNat default).mark], hpcl, pcs_len (by rw [List.length_set, hfl, hL2]), hL2]; exact .head _) rfl rfl rfl hpl (Nat.le_of_ble_eq_true rfl) (by simp [Value.cells, Value.oneCell']) ?_)
  refine WL.nil ?_
  refine Kseq.go (W.seq ?_)
  refine W.freezeK (.head _) (fun b hb => (hF b hb).elim) (by omega) (pcs_size _ _) (pcs_oneR fun u hu => by
    rcases List.mem_or_eq_of_mem_set hu with hu | rfl
    · exact hal.one u hu
    · exact IsArr.one h87) fun m5 hm5 => ?_
  have hp5 := pieces_of (by rw [List.length_set, hfl, hL2]) hm5
  clear hm5
  refine W.freezeBox (.head _) (fun b hb => (hF b hb).elim) fun m8 h8 => ?_
  refine W.join fun ml hl => ?_
  subst hfs
  have hMl := read_marksE (p := p) (hl mk (by simp)) hMk (IsInts.le h87 (hl m87 (by simp)))
  have hPl := hp5.le (hl m5 (by simp))
  have h8l := h8.le (hl m8 (by simp))
  have h2l := h2k.le (hl mk (by simp))
  have hvl := hvk.le (hl mk (by simp))
  have hTl := hTk.le (hl mk (by simp))
  have hll := IsInts.le hlk (hl mk (by simp))
  have hTy : IsTable ml (.agg #[wv, .slice a70 (0 + r.table.pieces.length) c70, vi r.table.wrong]) (readT r.table p) := ⟨wv, _, _, rfl, hWk.le (hl mk (by simp)), hPl, hMl⟩
  have hY : IsErrand ml (.agg #[wv, .slice a70 (0 + r.table.pieces.length) c70, vi r.table.wrong, hv, sv, vi r.start, vi r.calls]) (readE r p) := ⟨wv, _, hv, sv, _, rfl, hWk.le (hl mk (by simp)), hPl, hMl, IsArr.le hHk (hl mk (by simp)), IsArr.le hSk (hl mk (by simp))⟩
  have hsY := readE_sm hs (k := p)
  have hsT : Sm (readT r.table p) := hsY.1
  have hRd := readE_read hV hpl
  have hE1 : askE (readT r.table p) = 0 := askE_zeroR hRd.valid hRd.ask
  have hVy := readE_valid hV hpl
  have hfy := faultT_zero.2 hVy
  have yb := readE_best hV hpl
  have ye := readE_err hV hpl
  have yw := readE_wait hV hpl
  have yn := readE_ending hV hpl
  have hm1 := hRd.moves
  have hf1 := hRd.fewest
  clear hp5 h8 hPl hMl est hPc hal hl
  refine W.weaken [(2, .pointer (some ⟨b2, 0, none⟩)), (5, lf), (8, .pointer (some ⟨b8, 0, none⟩))] [ml] [] (by repeat (first | exact trivial | refine ⟨rfl, ?_⟩)) (by simp) (List.nil_sublist _) ?_; refine W.region ?_; refine .val (.fieldAddrB rfl) rfl rfl rfl ?_; refine .val (.loadPA (vs := [wv, .slice a70 (0 + r.table.pieces.length) c70, vi r.table.wrong]) rfl h8l (by repeat constructor) rfl rfl) rfl rfl rfl ?_; refine WL.abs (OpAbs.call rfl (fun m hm => table_any (hTy.le (by repeat first | exact hm.1 | replace hm := hm.2)) hsT)) rfl rfl rfl ?_
  rintro m93 v93 h93
  refine WL.abs (OpAbs.call rfl (fun m hm => fewestT_any (h93.le (by repeat first | exact hm.1 | replace hm := hm.2)) hsT)) rfl rfl rfl ?_
  rintro m94 _ ⟨lf2, rfl, hlf2⟩
  rw [hE1, if_pos rfl, hf1] at hlf2
  rw [hE1]
  iterate 5 refine .o rfl ?_
  refine WL.nil ?_
  refine Kseq.go (W.seq ?_)
  refine W.region ?_; refine .val (.fieldAddrB rfl) rfl rfl rfl ?_; refine .val (.loadPA (vs := [wv, .slice pa r.table.pieces.length pc, vi r.table.wrong]) rfl h2l (by repeat constructor) rfl rfl) rfl rfl rfl ?_; refine WL.abs (OpAbs.call rfl (fun m hm => table_any (hTl.le (by repeat first | exact hm.1 | replace hm := hm.2)) hs.table)) rfl rfl rfl ?_
  rintro m100 v100 h100
  refine WL.abs (OpAbs.call rfl (fun m hm => movesT_any (h100.le (by repeat first | exact hm.1 | replace hm := hm.2)) hs.table)) rfl rfl rfl ?_
  rintro m101 _ ⟨lm1, rfl, hlm1⟩
  rw [hE0, if_pos rfl] at hlm1
  rw [hE0]
  iterate 5 refine .o rfl ?_
  refine WL.nil ?_
  refine Kseq.go (W.seq ?_)
  refine W.region ?_; refine .val (.fieldAddrB rfl) rfl rfl rfl ?_; refine .val (.loadPA (vs := [wv, .slice a70 (0 + r.table.pieces.length) c70, vi r.table.wrong]) rfl h8l (by repeat constructor) rfl rfl) rfl rfl rfl ?_; refine WL.abs (OpAbs.call rfl (fun m hm => table_any (hTy.le (by repeat first | exact hm.1 | replace hm := hm.2)) hsT)) rfl rfl rfl ?_
  rintro m107 v107 h107
  refine WL.abs (OpAbs.call rfl (fun m hm => movesT_any (h107.le (by repeat first | exact hm.1 | replace hm := hm.2)) hsT)) rfl rfl rfl ?_
  rintro m108 _ ⟨lm2, rfl, hlm2⟩
  rw [hE1, if_pos rfl, hm1] at hlm2
  rw [hE1]
  iterate 5 refine .o rfl ?_
  refine WL.nil ?_
  refine Kseq.go (W.seq ?_)
  obtain ⟨Z, hZ⟩ : ∃ Z, (if bestErr r = 0 then (foundC r (bestV r)).2 else 0) = Z := ⟨_, rfl⟩
  obtain ⟨LB, hLB⟩ : ∃ LB, (if bestErr r = 0 then foundW (bestV r) else []) = LB := ⟨_, rfl⟩
  have hbe : bestErr r = 0 ∨ bestErr r = 10 := by
    unfold bestErr
    rw [if_neg (by simpa using hf0)]
    split
    · exact .inl rfl
    · exact .inr rfl
  refine W.region ?_; refine .val (.loadPW rfl h2l (by repeat constructor) rfl) rfl rfl rfl ?_; refine WL.abs (OpAbs.call rfl (fun m hm => errand_any (hvl.le (by repeat first | exact hm.1 | replace hm := hm.2)) hs)) rfl rfl rfl ?_
  rintro m113 v113 h113
  refine WL.abs (OpAbs.call rfl (fun m hm => bestT_any (h113.le (by repeat first | exact hm.1 | replace hm := hm.2)) hs)) rfl rfl rfl ?_
  rintro m114 _ ⟨lb1, rfl, hlb1⟩
  rw [hLB] at hlb1
  rw [hZ]
  iterate 7 refine .o rfl ?_
  refine WL.nil ?_
  refine Kseq.go (W.seq ?_)
  refine W.region ?_; refine .val (.loadPW rfl h8l (by repeat constructor) rfl) rfl rfl rfl ?_; refine WL.abs (OpAbs.call rfl (fun m hm => errand_any (hY.le (by repeat first | exact hm.1 | replace hm := hm.2)) hsY)) rfl rfl rfl ?_
  rintro m120 v120 h120
  refine WL.abs (OpAbs.call rfl (fun m hm => bestT_any (h120.le (by repeat first | exact hm.1 | replace hm := hm.2)) hsY)) rfl rfl rfl ?_
  rintro m121 _ ⟨lb2, rfl, hlb2⟩
  rw [ye, yb, hLB] at hlb2
  rw [yn, ye, hZ]
  iterate 7 refine .o rfl ?_
  refine WL.nil ?_
  refine Kseq.go (W.seq ?_)
  refine W.region ?_; refine .val (.loadPW rfl h2l (by repeat constructor) rfl) rfl rfl rfl ?_; refine WL.abs (OpAbs.call rfl (fun m hm => errand_any (hvl.le (by repeat first | exact hm.1 | replace hm := hm.2)) hs)) rfl rfl rfl ?_
  rintro m127 v127 h127
  refine WL.abs (OpAbs.call rfl (fun m hm => waitT_any (h127.le (by repeat first | exact hm.1 | replace hm := hm.2)) hs)) rfl rfl rfl ?_
  rintro m128 _ ⟨lw1, rfl, hlw1⟩
  rw [hf0, if_pos rfl] at hlw1
  rw [hf0]
  iterate 5 refine .o rfl ?_
  refine WL.nil ?_
  refine Kseq.go (W.seq ?_)
  refine W.region ?_; refine .val (.loadPW rfl h8l (by repeat constructor) rfl) rfl rfl rfl ?_; refine WL.abs (OpAbs.call rfl (fun m hm => errand_any (hY.le (by repeat first | exact hm.1 | replace hm := hm.2)) hsY)) rfl rfl rfl ?_
  rintro m133 v133 h133
  refine WL.abs (OpAbs.call rfl (fun m hm => waitT_any (h133.le (by repeat first | exact hm.1 | replace hm := hm.2)) hsY)) rfl rfl rfl ?_
  rintro m134 _ ⟨lw2, rfl, hlw2⟩
  rw [hfy, if_pos rfl, yw] at hlw2
  rw [hfy]
  iterate 5 refine .o rfl ?_
  refine WL.nil ?_
  refine Kseq.go (W.seq (W.seq ?_))
  refine W.join fun mz hz => ?_
  have q1 := IsInts.le hll (hz ml (by simp))
  have q2 := IsInts.le hlf2 (hz m94 (by simp))
  have q3 := hlm1.le (hz m101 (by simp))
  have q4 := hlm2.le (hz m108 (by simp))
  have q5 := IsInts.le hlb1 (hz m114 (by simp))
  have q6 := IsInts.le hlb2 (hz m121 (by simp))
  have q7 := IsInts.le hlw1 (hz m128 (by simp))
  have q8 := IsInts.le hlw2 (hz m134 (by simp))
  have hbd := q3.bd
  clear hz hll hlf2 hlm1 hlm2 hlb1 hlb2 hlw1 hlw2
  refine W.weaken [(5, lf), (9, lf2), (10, vi 0), (11, lm1), (12, vi 0), (13, lm2), (14, vi 0), (15, lb1), (16, vi Z), (17, vi (bestErr r)), (18, lb2), (19, vi Z), (20, vi (bestErr r)), (21, lw1), (22, vi 0), (23, lw2), (24, vi 0)] [mz] [] (by repeat (first | exact trivial | refine ⟨rfl, ?_⟩)) (by simp) (List.nil_sublist _) ?_; refine W.toS [(5, lf), (9, lf2), (11, lm1), (13, lm2), (15, lb1), (18, lb2), (21, lw1), (23, lw2), (179, .bool false)] ?_ ?_
  · rcases hbe with hbe | hbe
    · rw [hbe]
      refine W.region ?_
      iterate 13 refine .o rfl ?_
      refine .val (OpVal.neqF rfl rfl) rfl rfl rfl ?_
      iterate 5 refine .o rfl ?_
      refine WL.pass rfl rfl rfl ?_; refine WL.pass rfl rfl rfl ?_
      iterate 5 refine .o rfl ?_
      refine .val (OpVal.neqF rfl rfl) rfl rfl rfl ?_
      iterate 11 refine .o rfl ?_
      refine .val (.len rfl q3) rfl rfl rfl ?_; refine .o rfl ?_; refine .val (.len rfl q4) rfl rfl rfl ?_; refine .val (OpVal.neqF rfl rfl) rfl rfl rfl ?_; refine .o rfl ?_; refine WL.nil ?_
      exact Keff.intro (by repeat (first | exact trivial | refine ⟨rfl, ?_⟩)) (by simp) (by repeat first | exact .refl _ | refine .cons _ ?_)
    · rw [hbe]
      refine W.region ?_
      iterate 13 refine .o rfl ?_
      refine .val (OpVal.neqF rfl rfl) rfl rfl rfl ?_
      iterate 12 refine .o rfl ?_
      refine .val (OpVal.neqF rfl rfl) rfl rfl rfl ?_
      iterate 11 refine .o rfl ?_
      refine .val (.len rfl q3) rfl rfl rfl ?_; refine .o rfl ?_; refine .val (.len rfl q4) rfl rfl rfl ?_; refine .val (OpVal.neqF rfl rfl) rfl rfl rfl ?_; refine .o rfl ?_; refine WL.nil ?_
      exact Keff.intro (by repeat (first | exact trivial | refine ⟨rfl, ?_⟩)) (by simp) (by repeat first | exact .refl _ | refine .cons _ ?_)
  refine Kseq.go ?_; refine W.condF rfl rfl ?_
  refine W.skip (Kseq.go (W.seq (W.seq ?_)))
  obtain ⟨ms, hms⟩ : ∃ ms, movesOf r.table (fewest r.table (ask r.table)) = ms := ⟨_, rfl⟩
  rw [hms] at q3 q4 hbd
  refine W.region ?_; refine .o rfl ?_; refine WL.nil ?_
  refine Kseq.go (W.block ?_)
  refine W.loop (σ := Nat) (fun k => [(5, lf), (9, lf2), (11, lm1), (13, lm2), (15, lb1), (18, lb2), (21, lw1), (23, lw2), (25, vi (k : Int))]) (fun _ => [mz]) (fun _ => []) (fun k => k ≤ ms.length) (fun k => ms.length - k) 0 ⟨rfl, rfl, rfl, rfl, rfl, rfl, rfl, rfl, rfl, trivial⟩ (by simp) (List.nil_sublist _) (Nat.zero_le _) ?_
  intro k hk
  refine W.seq (W.seq ?_)
  refine W.region ?_
  iterate 2 refine .o rfl ?_
  refine .val (.len rfl q3) rfl rfl rfl ?_; refine .o rfl ?_; refine WL.nil ?_; refine Kseq.go ?_
  refine W.condD rfl rfl (fun hlt => ?_) (fun hge => ?_)
  · have hkl : k < ms.length := by omega
    refine W.skip (Kseq.go (W.seq (W.block (W.seq ?_))))
    refine W.draw 8 (by kernel_rfl) (by kernel_rfl) (by kernel_rfl) rfl ?_; refine .val [] (.opv rfl) rfl rfl rfl rfl ?_; refine .val [] (.opv rfl) rfl rfl rfl rfl ?_; refine .val [] (.indexAddrN rfl rfl q3 hkl) rfl rfl rfl rfl ?_; refine .val [] (.cast (.loadEA rfl q3 (by repeat constructor) hkl) (show _ = vq [(ms.getD k default).piece, (ms.getD k default).fro, (ms.getD k default).to] from rfl)) rfl rfl rfl rfl ?_; refine .val [] (.opv rfl) rfl rfl rfl rfl ?_; refine .val [] (.opv rfl) rfl rfl rfl rfl ?_; refine .val [] (.indexAddrN rfl rfl q4 hkl) rfl rfl rfl rfl ?_; refine .val [] (.cast (.loadEA rfl q4 (by repeat constructor) hkl) (show _ = vq [(ms.getD k default).piece, (ms.getD k default).fro, (ms.getD k default).to] from rfl)) rfl rfl rfl rfl ?_; refine DJ.nil ?_; refine .val (.cast (.neqQ (N := 3) (enc := vi) (xs := [(ms.getD k default).piece, (ms.getD k default).fro, (ms.getD k default).to]) (ys := [(ms.getD k default).piece, (ms.getD k default).fro, (ms.getD k default).to]) rfl rfl rfl rfl) (show _ = Value.bool false from congrArg Value.bool (by simp))) rfl rfl rfl ?_
    refine WL.nil ?_; refine Kseq.go ?_; refine W.condF rfl rfl ?_
    refine W.skip (Kblock.normal (Kseq.go ?_))
    refine W.region ?_; refine .o rfl ?_; refine .val (.incr rfl (by omega)) rfl rfl rfl ?_; refine .o rfl ?_; refine WL.nil ?_
    exact Kloop.next (k + 1) (by omega) (by omega) ⟨rfl, rfl, rfl, rfl, rfl, rfl, rfl, rfl, rfl, trivial⟩ (by simp) (by repeat first | exact .refl _ | refine .cons _ ?_)
  · refine W.exit (Kseq.exit (Kloop.exit (Kblock.here (Kseq.go (W.seq ?_)))))
    refine W.region ?_
    iterate 2 refine .o rfl ?_
    refine .val (.call rfl (fun m hm => equalTop_same (q1.le (by repeat first | exact hm.1 | replace hm := hm.2)) (q2.le (by repeat first | exact hm.1 | replace hm := hm.2)))) rfl rfl rfl ?_
    iterate 3 refine .o rfl ?_
    refine .val (.call rfl (fun m hm => equalTop_same (q5.le (by repeat first | exact hm.1 | replace hm := hm.2)) (q6.le (by repeat first | exact hm.1 | replace hm := hm.2)))) rfl rfl rfl ?_
    iterate 4 refine .o rfl ?_
    refine .val (.call rfl (fun m hm => equalTop_same (q7.le (by repeat first | exact hm.1 | replace hm := hm.2)) (q8.le (by repeat first | exact hm.1 | replace hm := hm.2)))) rfl rfl rfl ?_
    iterate 2 refine .o rfl ?_
    refine .val (.call rfl (fun m hm => knownTop_any)) rfl rfl rfl ?_
    iterate 2 refine .o rfl ?_
    refine WL.nil ?_; refine Kseq.go ?_
    refine W.ret ?_; refine ⟨.inl rfl, [_], mz, ⟨.tmp rfl, trivial⟩, (by repeat constructor), ?_⟩
    rfl
end Go.Proofs.Ytppkhehbkoeinaa
