/- The statement TopCarried: its contract (the walk). -/
import Derived.Test.YtppkhehbkoeinaaT162
import Derived.Test.YtppkhehbkoeinaaT101
import Derived.Test.YtppkhehbkoeinaaT78
namespace Go.Proofs.Ytppkhehbkoeinaa
open Go Go.Eng Go.RowKit

theorem askE_zeroC {t : Table} (hV : Valid t) (h : ask t ≠ []) : askE t = 0 := by
  unfold askE
  rw [if_pos (fault_zero.2 hV), if_neg h]
theorem astrayC_any {h : Mem} {v : Value} {x : Table} (hv : IsTable h v x) (hs : Sm x) (hE : askE x = 0) (hlo : loQ (aN x) (ask x) (ask x).length = 0) : FnV Try.prog 13 #[v] h (.tuple #[.agg #[vi 0, vi (hiQ (fun l => ((astray x l).length : Int)) (ask x) (ask x).length)], vi 0]) := by
  have := astrayT_any hv hs
  have e : loQ (fun l => ((astray x l).length : Int)) (ask x) (ask x).length = 0 := hlo
  rwa [if_pos hE, e] at this
theorem fewestC_any {h : Mem} {v : Value} {r : Errand} (hv : IsErrand h v r) (hs : SmE r) (hf : faultT r = 0) (h0 : fewestP r.n (movesR r) = 0) : FnV Try.prog 25 #[v] h (.tuple #[vi 0, vi 0]) := by
  have := fewestT11_any hv hs
  rwa [if_pos hf, hf, h0] at this
theorem bestC_any {h : Mem} {v : Value} {r : Errand} (hV : ValidE r) (hv : IsErrand h v (backE r)) (hs : SmE (backE r)) : FnR Try.prog 19 #[v] h (fun m q => ∃ lv, q = .tuple #[lv, vi r.start, vi 0] ∧ IsInts m lv []) := by
  have := bestT_any hv hs
  rw [backE_err hV, if_pos rfl, if_pos rfl, backE_ending hV, backE_best hV] at this
  exact this
/-- TopCarried -/
theorem topCarried_any {h : Mem} {v : Value} {r : Errand} (hv0 : IsErrand h v r) : FnV Try.prog 4 #[v] h (.bool true) := by
  have hv' := hv0
  obtain ⟨wv, pv, hv, sv, f, rfl, hW, hP, hM, hH, hS⟩ := hv0
  have hTab : IsTable h (.agg #[wv, pv, vi r.table.wrong]) r.table := ⟨wv, pv, f, rfl, hW, hP, hM⟩
  refine FnR.val ?_
  refine FnR.of_W (n := 280) Try.func4 rfl rfl (Nat.le_of_ble_eq_true rfl) fun c hr hD hF => ?_
  refine W.seq ?_; refine W.region ?_
  refine WL.box rfl rfl rfl rfl (fun b1 => ?_)
  refine .o rfl ?_; refine WL.nil ?_
  refine Kseq.go (W.seq (W.seq ?_))
  refine W.freezeBox (.head _) (fun b hb => (hF b hb).elim) fun m2 h2 => ?_
  cases hT : ThinE r with
  | false =>
    refine W.region ?_; refine .val (.loadPW rfl h2 (by repeat constructor) rfl) rfl rfl rfl ?_; refine .val (.cast (.call rfl (fun m hm => thin11_any (hv'.le (by repeat first | exact hm.1 | replace hm := hm.2)))) (congrArg Value.bool hT)) rfl rfl rfl ?_
    iterate 2 refine .o rfl ?_
    refine WL.pass rfl rfl rfl ?_; refine WL.pass rfl rfl rfl ?_; refine WL.pass rfl rfl rfl ?_; refine .o rfl ?_; refine WL.nil ?_; refine Kseq.go ?_; refine W.condT rfl rfl ?_; refine W.seq ?_; refine W.region ?_; refine .val (.call rfl (fun m hm => carriedTop_any)) rfl rfl rfl ?_; refine .o rfl ?_; refine WL.nil ?_; refine Kseq.go ?_
    refine W.ret ?_; refine Kseq.ret ?_; refine ⟨.inl rfl, [_], h, ⟨.tmp rfl, trivial⟩, (by repeat constructor), ?_⟩
    rfl
  | true =>
  have hs := ThinE.sm hT
  by_cases hf0 : faultT r = 0
  case neg =>
    refine W.region ?_; refine .val (.loadPW rfl h2 (by repeat constructor) rfl) rfl rfl rfl ?_; refine .val (.cast (.call rfl (fun m hm => thin11_any (hv'.le (by repeat first | exact hm.1 | replace hm := hm.2)))) (congrArg Value.bool hT)) rfl rfl rfl ?_
    iterate 2 refine .o rfl ?_
    refine .val (.loadPW rfl h2 (by repeat constructor) rfl) rfl rfl rfl ?_; refine .val (.call rfl (fun m hm => faultR11_any (hv'.le (by repeat first | exact hm.1 | replace hm := hm.2)) hs)) rfl rfl rfl ?_; refine .val (.cast (.opv rfl) (show _ = Value.bool true from congrArg (fun b => Value.bool (!b)) (decide_eq_false hf0))) rfl rfl rfl ?_; refine .o rfl ?_; refine WL.nil ?_; refine Kseq.go ?_; refine W.condT rfl rfl ?_; refine W.seq ?_; refine W.region ?_; refine .val (.call rfl (fun m hm => carriedTop_any)) rfl rfl rfl ?_; refine .o rfl ?_; refine WL.nil ?_; refine Kseq.go ?_
    refine W.ret ?_; refine Kseq.ret ?_; refine ⟨.inl rfl, [_], h, ⟨.tmp rfl, trivial⟩, (by repeat constructor), ?_⟩
    rfl
  have hV := faultT_zero.1 hf0
  have hVt := hV.table
  refine W.region ?_; refine .val (.loadPW rfl h2 (by repeat constructor) rfl) rfl rfl rfl ?_; refine .val (.cast (.call rfl (fun m hm => thin11_any (hv'.le (by repeat first | exact hm.1 | replace hm := hm.2)))) (congrArg Value.bool hT)) rfl rfl rfl ?_
  iterate 2 refine .o rfl ?_
  refine .val (.loadPW rfl h2 (by repeat constructor) rfl) rfl rfl rfl ?_; refine .val (.call rfl (fun m hm => faultR11_any (hv'.le (by repeat first | exact hm.1 | replace hm := hm.2)) hs)) rfl rfl rfl ?_; refine .val (.cast (.opv rfl) (show _ = Value.bool false from congrArg (fun b => Value.bool (!b)) (decide_eq_true hf0))) rfl rfl rfl ?_; refine .o rfl ?_; refine WL.nil ?_; refine Kseq.go ?_; refine W.condF rfl rfl ?_
  have h0a := backE_ask hV
  have hE0 : askE r.table = 0 := askE_zeroC hVt h0a
  have hms : movesOf r.table (fewest r.table (ask r.table)) = movesR r := by unfold movesR; rw [ask_truths hVt]
  have hnp := hVt.pieces
  obtain ⟨Z, hZ⟩ : ∃ Z, (if bestErr r = 0 then (foundC r (bestV r)).2 else 0) = Z := ⟨_, rfl⟩
  obtain ⟨LB, hLB⟩ : ∃ LB, (if bestErr r = 0 then foundW (bestV r) else []) = LB := ⟨_, rfl⟩
  have hbe : bestErr r = 0 ∨ bestErr r = 10 := by
    unfold bestErr
    rw [if_neg (by simpa using hf0)]
    split
    · exact .inl rfl
    · exact .inr rfl
  have hbr : bestErr r = 0 → ∀ k, k < (movesR r).length → brought LB ((movesR r).getD k default) = true := fun e k hk => by
    rw [← hLB, if_pos e]
    cases hbv : bestV r with
    | none =>
      unfold bestErr at e
      rw [if_neg (by simpa using hf0), hbv] at e
      simp at e
    | some b => exact best_brings hbv _ (moves_get' hk)
  have hpin : ∀ k, k < (movesR r).length → ∃ p : Nat, ((movesR r).getD k default).piece = p ∧ p < r.table.pieces.length := fun k hk => by
    obtain ⟨i, h2, _, e⟩ := movesR_get (moves_get' hk)
    have hFo := areOwners_iff.1 (fewest_owns hVt hV.some)
    exact ⟨i, by rw [e], by omega⟩
  refine W.skip (Kseq.go (W.seq ?_))
  refine W.region ?_; refine .val (.loadPW rfl h2 (by repeat constructor) rfl) rfl rfl rfl ?_; refine WL.abs (OpAbs.call rfl (fun m hm => errand_any (hv'.le (by repeat first | exact hm.1 | replace hm := hm.2)) hs)) rfl rfl rfl ?_
  rintro m37 v37 h37
  refine WL.abs (OpAbs.call rfl (fun m hm => bestT_any (h37.le (by repeat first | exact hm.1 | replace hm := hm.2)) hs)) rfl rfl rfl ?_
  rintro m38 _ ⟨lb, rfl, hlb⟩
  rw [hLB] at hlb
  rw [hZ]
  iterate 7 refine .o rfl ?_
  refine WL.nil ?_
  refine Kseq.go (W.seq ?_)
  refine W.region ?_; refine .val (.fieldAddrB rfl) rfl rfl rfl ?_; refine .val (.loadPA (vs := [wv, pv, vi r.table.wrong]) rfl h2 (by repeat constructor) rfl rfl) rfl rfl rfl ?_; refine WL.abs (OpAbs.call rfl (fun m hm => table_any (hTab.le (by repeat first | exact hm.1 | replace hm := hm.2)) hs.table)) rfl rfl rfl ?_
  rintro m45 v45 h45
  refine WL.abs (OpAbs.call rfl (fun m hm => movesT_any (h45.le (by repeat first | exact hm.1 | replace hm := hm.2)) hs.table)) rfl rfl rfl ?_
  rintro m46 _ ⟨lm, rfl, hlm⟩
  rw [hE0, if_pos rfl, hms] at hlm
  rw [hE0]
  iterate 5 refine .o rfl ?_
  refine WL.nil ?_
  refine Kseq.go (W.seq (W.seq ?_))
  refine W.join fun mk hk2 => ?_
  have hmk := hlm.le (hk2 m46 (by simp))
  have hbk := IsInts.le hlb (hk2 m38 (by simp))
  have h2k := h2.le (hk2 m2 (by simp))
  have hvk := hv'.le (hk2 h (by simp))
  have hTk := hTab.le (hk2 h (by simp))
  have hWk := hW.le (hk2 h (by simp))
  have hPk := hP.le (hk2 h (by simp))
  have hMk := hM.le (hk2 h (by simp))
  have hHk := IsArr.le hH (hk2 h (by simp))
  have hSk := IsArr.le hS (hk2 h (by simp))
  have hmb := hmk.bd
  clear hlm hlb h2 hk2
  refine W.weaken [(1, .pointer (some ⟨b1, 0, none⟩)), (3, lb), (5, vi (bestErr r)), (6, lm), (7, vi 0)] [mk] [] (by repeat (first | exact trivial | refine ⟨rfl, ?_⟩)) (by simp) (List.nil_sublist _) ?_; refine W.toS [(1, .pointer (some ⟨b1, 0, none⟩)), (3, lb), (5, vi (bestErr r)), (6, lm), (58, .bool false)] ?_ ?_
  · rcases hbe with hbe | hbe
    · rw [hbe]
      refine W.region ?_
      iterate 6 refine .o rfl ?_
      refine WL.pass rfl rfl rfl ?_; refine WL.pass rfl rfl rfl ?_
      iterate 2 refine .o rfl ?_
      refine WL.nil ?_
      exact Keff.intro (by repeat (first | exact trivial | refine ⟨rfl, ?_⟩)) (by simp) (by repeat first | exact .refl _ | refine .cons _ ?_)
    · rw [hbe]
      refine W.region ?_
      iterate 10 refine .o rfl ?_
      refine WL.nil ?_
      exact Keff.intro (by repeat (first | exact trivial | refine ⟨rfl, ?_⟩)) (by simp) (by repeat first | exact .refl _ | refine .cons _ ?_)
  refine Kseq.go ?_; refine W.condF rfl rfl ?_
  refine W.skip (Kseq.go (W.seq ?_))
  refine W.region ?_; refine .val (.loadPW rfl h2k (by repeat constructor) rfl) rfl rfl rfl ?_
  refine WL.alloc rfl rfl rfl (fun b8 => ?_)
  (refine WL.store [wv, pv, vi r.table.wrong, hv, sv, vi r.start, vi r.calls] rfl (.head _) rfl rfl rfl (Nat.le_of_ble_eq_true rfl) (by simp [Value.cells]; exact ⟨IsArr.one hW, IsArr.one hP, rfl, IsArr.one hH, IsArr.one hS, rfl, rfl⟩) rfl ?_)
  refine WL.nil ?_
  refine Kseq.go (W.seq ?_)
  obtain ⟨pa, pc, rfl⟩ := IsArr.form hPk
  have hPc := hPk.toCells
  have hfl := fsOf_len f r.table.pieces
  have hal := fsOf_all hMk
  have hcl := pcs_len hfl
  let bl : List Int := (movesR r).map (·.piece)
  have hbl : ∀ k, k < (movesR r).length → ((movesR r).getD k default).piece ∈ bl := fun k hk => List.mem_map.2 ⟨_, moves_get' hk, rfl⟩
  have hbl2 := backTo_len r.table (movesR r) bl
  generalize hfs : fsOf f r.table.pieces = fs at *
  have hcl2 : ∀ k, (pcs fs (backTo r.table (movesR r) bl k).pieces).length = r.table.pieces.length := fun k => by rw [pcs_len (by rw [hfl, hbl2]), hbl2]
  refine W.region ?_
  (refine WL.lit (vs := []) [] rfl (Nat.le_of_ble_eq_true rfl) rfl rfl (by simp) (Nat.le_of_ble_eq_true rfl) rfl rfl rfl rfl (fun b60 => ?_))
  refine .val (.fieldAddrB rfl) rfl rfl rfl ?_; refine .val (.fieldAddrB rfl) rfl rfl rfl ?_; refine .val (.loadP rfl h2k (by repeat constructor) rfl) rfl rfl rfl ?_
  (refine WL.append (e := 35) (k := 2) (bytes := 32) (xs := []) (ys := flatv (pcs fs r.table.pieces)) (N := 0) (m2 := r.table.pieces.length) (μ' := fun v' => [kr 35 2 v' (pcs fs r.table.pieces), .blk b8 _ 54]) rfl (fun v' => by simp only [kr, hcl, Nat.zero_add, List.nil_append]; exact .head _) rfl hPc (by repeat constructor) rfl (by omega) (by unfold maxLen; omega) (by omega) rfl rfl rfl ?_; intro a64 c64)
  refine .val (.fieldAddrB rfl) rfl rfl rfl ?_; refine .val (.fieldAddrB rfl) rfl rfl rfl ?_
  refine WL.store [_, _, _, _, _, _, _] rfl (.tail _ (.head _)) rfl rfl rfl (Nat.le_of_ble_eq_true rfl) (by first | (simp [Value.cells, Value.oneCell']; done) | exact IsArr.ones hW (by omega) | exact IsArr.ones hP (by omega) | exact IsArr.ones hS (by omega) | exact IsArr.ones hH (by omega) | exact IsArr.ones hL (by omega) | exact IsArr.ones hB (by omega) | exact IsArr.ones hT (by omega) | exact IsArr.ones hm (by omega)) rfl ?_
  refine WL.nil ?_
  refine Kseq.go (W.seq (W.seq ?_))
  let xv : Value := .slice a64 (0 + r.table.pieces.length) c64
  refine W.region ?_; refine .o rfl ?_; refine WL.nil ?_
  refine Kseq.go (W.block ?_)
  refine W.loop (σ := Nat) (fun k => [(1, .pointer (some ⟨b1, 0, none⟩)), (3, lb), (5, vi (bestErr r)), (6, lm), (8, .pointer (some ⟨b8, 0, none⟩)), (9, vi (k : Int))]) (fun _ => [mk]) (fun k => [.row 35 2 xv r.table.pieces.length (flatv (pcs fs (backTo r.table (movesR r) bl k).pieces)), .blk b8 [wv, xv, vi r.table.wrong, hv, sv, vi r.start, vi r.calls].toArray 54])
    (fun k => k ≤ (movesR r).length) (fun k => (movesR r).length - k) 0 ⟨rfl, rfl, rfl, rfl, rfl, rfl, trivial⟩ (by simp) (sub_eq (by simp only [kr, hcl]; rfl)) (Nat.zero_le _) ?_
  intro k hk
  refine W.seq (W.seq ?_)
  refine W.region ?_
  iterate 2 refine .o rfl ?_
  refine .val (.len rfl hmk) rfl rfl rfl ?_; refine .o rfl ?_; refine WL.nil ?_; refine Kseq.go ?_
  refine W.condD rfl rfl (fun hlt => ?_) (fun hge => ?_)
  · have hkm : k < (movesR r).length := by omega
    obtain ⟨p, hp, hpl⟩ := hpin k hkm
    refine W.skip (Kseq.go (W.seq (W.block (W.seq (W.seq ?_)))))
    refine W.toS [(1, .pointer (some ⟨b1, 0, none⟩)), (3, lb), (5, vi (bestErr r)), (6, lm), (8, .pointer (some ⟨b8, 0, none⟩)), (9, vi (k : Int)), (109, .bool false)] ?_ ?_
    · rcases hbe with hbe | hbe
      · have hb1 := hbr hbe k hkm
        rw [hbe]
        refine W.draw 33 (by kernel_rfl) (by kernel_rfl) (by kernel_rfl) rfl ?_; refine .val [] (.opv rfl) rfl rfl rfl rfl ?_; refine .val [] (.opv rfl) rfl rfl rfl rfl ?_; refine .val [] (.indexAddrN rfl rfl hmk hkm) rfl rfl rfl rfl ?_; refine .val [] (.fieldAddrN rfl hmk hkm) rfl rfl rfl rfl ?_; refine .val [] (.cast (.loadE rfl hmk (by repeat constructor) hkm (by omega)) (congrArg (Value.int .i64) hp)) rfl rfl rfl rfl ?_; refine .val [] (.fieldAddrB rfl) rfl rfl rfl rfl ?_; refine .val [] (.fieldAddrB rfl) rfl rfl rfl rfl ?_; refine .val [] (.loadB rfl (.tail _ (.head _)) rfl) rfl rfl rfl rfl ?_; refine .val [] (.lenR rfl (.head _)) rfl rfl rfl rfl ?_; refine .val [] (.sub rfl rfl (by omega) (by omega)) rfl rfl rfl rfl ?_; refine .val [] (.call rfl (fun m hm => in_any _ _ _)) rfl rfl rfl rfl ?_
        refine .val [] (.cast (.opv rfl) (congrArg Value.bool (show (!decide _) = false by rw [decide_eq_true (by omega)]; rfl))) rfl rfl rfl rfl ?_
        refine .val [] (.opv rfl) rfl rfl rfl rfl ?_; refine .val [] (.opv rfl) rfl rfl rfl rfl ?_; refine .val [] (.opv rfl) rfl rfl rfl rfl ?_; refine .val [] (.opv rfl) rfl rfl rfl rfl ?_; refine .val [] (.opv rfl) rfl rfl rfl rfl ?_; refine .val [] (.opv rfl) rfl rfl rfl rfl ?_; refine .val [] (.opv rfl) rfl rfl rfl rfl ?_; refine .val [] (.indexAddrN rfl rfl hmk hkm) rfl rfl rfl rfl ?_; refine .val [] (.fieldAddrN rfl hmk hkm) rfl rfl rfl rfl ?_; refine .val [] (.cast (.loadE rfl hmk (by repeat constructor) hkm (by omega)) (show _ = vi ((movesR r).getD k default).piece from rfl)) rfl rfl rfl rfl ?_; refine .val [] (.opv rfl) rfl rfl rfl rfl ?_; refine .val [] (.opv rfl) rfl rfl rfl rfl ?_; refine .val [] (.indexAddrN rfl rfl hmk hkm) rfl rfl rfl rfl ?_; refine .val [] (.fieldAddrN rfl hmk hkm) rfl rfl rfl rfl ?_; refine .val [] (.cast (.loadE rfl hmk (by repeat constructor) hkm (by omega)) (show _ = vi ((movesR r).getD k default).fro from rfl)) rfl rfl rfl rfl ?_
        refine .val [] (.opv rfl) rfl rfl rfl rfl ?_; refine .val [] (.opv rfl) rfl rfl rfl rfl ?_; refine .val [] (.indexAddrN rfl rfl hmk hkm) rfl rfl rfl rfl ?_; refine .val [] (.fieldAddrN rfl hmk hkm) rfl rfl rfl rfl ?_; refine .val [] (.cast (.loadE rfl hmk (by repeat constructor) hkm (by omega)) (show _ = vi ((movesR r).getD k default).to from rfl)) rfl rfl rfl rfl ?_; refine .val [] (.build #[vi ((movesR r).getD k default).piece, vi ((movesR r).getD k default).fro, vi ((movesR r).getD k default).to] rfl (by kernel_rfl)) rfl rfl rfl rfl ?_; refine DJ.nil ?_; refine .val (.cast (.call rfl (fun m hm => broughtR_any (hbk.le (by repeat first | exact hm.1 | replace hm := hm.2)) _)) (congrArg Value.bool hb1)) rfl rfl rfl ?_
        iterate 3 refine .o rfl ?_
        refine WL.nil ?_
        exact Keff.intro (by repeat (first | exact trivial | refine ⟨rfl, ?_⟩)) (by simp) (by repeat first | exact .refl _ | refine .cons _ ?_)
      · rw [hbe]
        refine W.draw 33 (by kernel_rfl) (by kernel_rfl) (by kernel_rfl) rfl ?_; refine .val [] (.opv rfl) rfl rfl rfl rfl ?_; refine .val [] (.opv rfl) rfl rfl rfl rfl ?_; refine .val [] (.indexAddrN rfl rfl hmk hkm) rfl rfl rfl rfl ?_; refine .val [] (.fieldAddrN rfl hmk hkm) rfl rfl rfl rfl ?_; refine .val [] (.cast (.loadE rfl hmk (by repeat constructor) hkm (by omega)) (congrArg (Value.int .i64) hp)) rfl rfl rfl rfl ?_; refine .val [] (.fieldAddrB rfl) rfl rfl rfl rfl ?_; refine .val [] (.fieldAddrB rfl) rfl rfl rfl rfl ?_; refine .val [] (.loadB rfl (.tail _ (.head _)) rfl) rfl rfl rfl rfl ?_; refine .val [] (.lenR rfl (.head _)) rfl rfl rfl rfl ?_; refine .val [] (.sub rfl rfl (by omega) (by omega)) rfl rfl rfl rfl ?_; refine .val [] (.call rfl (fun m hm => in_any _ _ _)) rfl rfl rfl rfl ?_
        refine .val [] (.cast (.opv rfl) (congrArg Value.bool (show (!decide _) = false by rw [decide_eq_true (by omega)]; rfl))) rfl rfl rfl rfl ?_
        refine .val [] (.opv rfl) rfl rfl rfl rfl ?_; refine .val [] (.opv rfl) rfl rfl rfl rfl ?_; refine .val [] (.opv rfl) rfl rfl rfl rfl ?_; refine .val [] (.opv rfl) rfl rfl rfl rfl ?_; refine DJ.pass rfl rfl rfl rfl ?_; refine DJ.pass rfl rfl rfl rfl ?_; refine DJ.pass rfl rfl rfl rfl ?_; refine DJ.pass rfl rfl rfl rfl ?_; refine DJ.pass rfl rfl rfl rfl ?_; refine DJ.pass rfl rfl rfl rfl ?_; refine DJ.pass rfl rfl rfl rfl ?_; refine DJ.pass rfl rfl rfl rfl ?_; refine DJ.pass rfl rfl rfl rfl ?_; refine DJ.pass rfl rfl rfl rfl ?_; refine DJ.pass rfl rfl rfl rfl ?_; refine DJ.pass rfl rfl rfl rfl ?_; refine DJ.pass rfl rfl rfl rfl ?_; refine DJ.pass rfl rfl rfl rfl ?_; refine DJ.pass rfl rfl rfl rfl ?_; refine DJ.pass rfl rfl rfl rfl ?_; refine DJ.pass rfl rfl rfl rfl ?_; refine DJ.nil ?_; refine WL.pass rfl rfl rfl ?_; refine WL.pass rfl rfl rfl ?_
        iterate 2 refine .o rfl ?_
        refine WL.nil ?_
        exact Keff.intro (by repeat (first | exact trivial | refine ⟨rfl, ?_⟩)) (by simp) (by repeat first | exact .refl _ | refine .cons _ ?_)
    refine Kseq.go ?_; refine W.condF rfl rfl ?_
    refine W.skip (Kseq.go ?_)
    have ha := hbl k hkm
    have hst := setB_store (fs := fs) (ps := (backTo r.table (movesR r) bl k).pieces) (by rw [hfl, hbl2]) (p := p) (by rw [hbl2]; exact hpl) ((movesR r).getD k default).to
    have hnx : (backTo r.table (movesR r) bl (k + 1)).pieces = setB (backTo r.table (movesR r) bl k).pieces p ((movesR r).getD k default).to := by
      rw [backTo_yes ha, hp]; rfl
    refine W.draw 13 (by kernel_rfl) (by kernel_rfl) (by kernel_rfl) rfl ?_; refine .val [] (.fieldAddrB rfl) rfl rfl rfl rfl ?_; refine .val [] (.fieldAddrB rfl) rfl rfl rfl rfl ?_; refine .val [] (.loadB rfl (.tail _ (.head _)) rfl) rfl rfl rfl rfl ?_; refine .val [] (.opv rfl) rfl rfl rfl rfl ?_; refine .val [] (.opv rfl) rfl rfl rfl rfl ?_; refine .val [] (.indexAddrN rfl rfl hmk hkm) rfl rfl rfl rfl ?_; refine .val [] (.fieldAddrN rfl hmk hkm) rfl rfl rfl rfl ?_; refine .val [] (.cast (.loadE rfl hmk (by repeat constructor) hkm (by omega)) (congrArg (Value.int .i64) hp)) rfl rfl rfl rfl ?_; refine .val [] (.opv rfl) rfl rfl rfl rfl ?_; refine .val [] (.opv rfl) rfl rfl rfl rfl ?_; refine .val [] (.indexAddrN rfl rfl hmk hkm) rfl rfl rfl rfl ?_; refine .val [] (.fieldAddrN rfl hmk hkm) rfl rfl rfl rfl ?_; refine .val [] (.cast (.loadE rfl hmk (by repeat constructor) hkm (by omega)) (show _ = vi ((movesR r).getD k default).to from rfl)) rfl rfl rfl rfl ?_
    refine DJ.nil ?_; refine .val (.indexAddrR rfl rfl (.head _) hpl) rfl rfl rfl ?_; refine .val (.fieldAddrR rfl (.head _) hpl) rfl rfl rfl ?_
    (refine WL.storeR (T := 35) (k := 2) (xs := flatv (pcs fs (backTo r.table (movesR r) bl k).pieces)) (μ' := [.row 35 2 xv r.table.pieces.length (flatv (pcs fs (backTo r.table (movesR r) bl (k + 1)).pieces)), .blk b8 [wv, xv, vi r.table.wrong, hv, sv, vi r.start, vi r.calls].toArray 54]) rfl (by rw [hnx, ← hst]; exact .head _) rfl rfl rfl hpl (Nat.le_of_ble_eq_true rfl) (by simp [Value.cells, Value.oneCell']) ?_)
    refine WL.nil ?_
    refine Kblock.normal (Kseq.go ?_)
    refine W.region ?_; refine .o rfl ?_; refine .val (.incr rfl (by omega)) rfl rfl rfl ?_; refine .o rfl ?_; refine WL.nil ?_
    exact Kloop.next (k + 1) (by omega) (by omega) ⟨rfl, rfl, rfl, rfl, rfl, rfl, trivial⟩ (by simp) (.refl _)
  refine W.exit (Kseq.exit (Kloop.exit (Kblock.here (Kseq.go (W.seq (W.seq ?_))))))
  have hkk : k = (movesR r).length := by omega
  subst hkk
  refine W.weaken [(1, .pointer (some ⟨b1, 0, none⟩)), (8, .pointer (some ⟨b8, 0, none⟩))] [mk] [kr 35 2 xv (pcs fs (backTo r.table (movesR r) bl (movesR r).length).pieces), .blk b8 [wv, xv, vi r.table.wrong, hv, sv, vi r.start, vi r.calls].toArray 54] (by repeat (first | exact trivial | refine ⟨rfl, ?_⟩)) (by simp) (sub_eq (by simp only [kr, hcl2])) ?_
  refine W.freezeK (.head _) (fun b hb => (hF b hb).elim) (by omega) (pcs_size _ _) (pcs_one hal) fun m4 hm4 => ?_
  have hp4 := pieces_of (by rw [hfl, hbl2]) hm4
  clear hm4
  refine W.freezeBox (.head _) (fun b hb => (hF b hb).elim) fun m8 h8 => ?_
  refine W.join fun ml hl => ?_
  subst hfs
  have hx := own_table (n := r.table.wrong) (hl mk (by simp)) (hbl2 _) (backTo_map r.table (movesR r) bl (movesR r).length) (hWk.le (hl mk (by simp))) hMk (hp4.le (hl m4 (by simp)))
  have hxe : (⟨r.table.women, (backTo r.table (movesR r) bl (movesR r).length).pieces, r.table.wrong⟩ : Table) = allBack r.table := by
    have e1 := backTo_women r.table (movesR r) bl (movesR r).length
    have e2 := backTo_wrong r.table (movesR r) bl (movesR r).length
    unfold allBack
    rw [hms, ← e1, ← e2]
  rw [hxe] at hx
  have hab : (allBack r.table).women = r.table.women := allBack_women _
  have hwr : (allBack r.table).wrong = r.table.wrong := by rw [← hxe]
  have hpn : (allBack r.table).pieces.length = r.table.pieces.length := by rw [← hxe]; exact hbl2 _
  have hsT : Sm (allBack r.table) := by
    rw [← hxe]
    refine ⟨hs.table.1, by show (backTo r.table (movesR r) bl (movesR r).length).pieces.length ≤ _; rw [hbl2]; exact hs.table.2.1, fun i hi => ?_⟩
    have hi' : i < r.table.pieces.length := by rw [← hbl2]; exact hi
    have e := congrArg (fun l => l.getD i []) (backTo_map r.table (movesR r) bl (movesR r).length)
    have e2 : ((backTo r.table (movesR r) bl (movesR r).length).pieces.getD i default).marks = (r.table.pieces.getD i default).marks := by
      have hi3 : i < (backTo r.table (movesR r) bl (movesR r).length).pieces.length := by rw [hbl2]; exact hi'
      simpa [List.getD_eq_getElem?_getD, List.getElem?_eq_getElem hi3, List.getElem?_eq_getElem hi'] using e
    show ((backTo r.table (movesR r) bl (movesR r).length).pieces.getD i default).marks.length ≤ _
    rw [e2]
    exact hs.table.2.2 i hi'
  have hsY : SmE (backE r) := ⟨hsT, hs.2, hs.3⟩
  have hY : IsErrand ml (.agg #[wv, xv, vi r.table.wrong, hv, sv, vi r.start, vi r.calls]) (backE r) := by
    obtain ⟨w', p', f2, e, hW2, hP2, hM2⟩ := hx
    injection e with e1
    have e2 := congrArg (fun a => a[0]?) e1
    have e3 := congrArg (fun a => a[1]?) e1
    simp at e2 e3
    subst e2
    refine ⟨wv, xv, hv, sv, f2, ?_, hW2, ?_, hM2, IsArr.le hHk (hl mk (by simp)), IsArr.le hSk (hl mk (by simp))⟩
    · show _ = Value.agg #[wv, xv, vi (allBack r.table).wrong, hv, sv, vi r.start, vi r.calls]
      rw [hwr]
    · rw [show xv = p' from e3]; exact hP2
  have h8l := h8.le (hl m8 (by simp))
  have h2l := h2k.le (hl mk (by simp))
  have hTl := hTk.le (hl mk (by simp))
  have hWl := hWk.le (hl mk (by simp))
  have hC := backE_carried hV
  have hE1 : askE (allBack r.table) = 0 := askE_zeroC hC.valid (by rw [hC.ask]; exact h0a)
  have hVy := backE_valid hV
  have hfy := faultT_zero.2 hVy
  have hlo := hC.lo h0a
  have hmi := fun k => hC.miss h0a k
  have hwh := backE_who hV
  clear hp4 h8 hl hPc hal
  refine W.weaken [(1, .pointer (some ⟨b1, 0, none⟩)), (8, .pointer (some ⟨b8, 0, none⟩))] [ml] [] (by repeat (first | exact trivial | refine ⟨rfl, ?_⟩)) (by simp) (List.nil_sublist _) ?_; refine W.region ?_; refine .val (.loadPW rfl h8l (by repeat constructor) rfl) rfl rfl rfl ?_; refine .val (.cast (.call rfl (fun m hm => faultR11_any (hY.le (by repeat first | exact hm.1 | replace hm := hm.2)) hsY)) (congrArg (Value.int .i64) hfy)) rfl rfl rfl ?_; refine .o rfl ?_; refine WL.nil ?_; refine Kseq.go ?_; refine W.condF rfl rfl ?_
  refine W.skip (Kseq.go (W.seq ?_))
  refine W.region ?_; refine .val (.fieldAddrB rfl) rfl rfl rfl ?_; refine .val (.loadPA (vs := [wv, xv, vi r.table.wrong]) rfl h8l (by repeat constructor) rfl rfl) rfl rfl rfl ?_; refine WL.abs (OpAbs.call rfl (fun m hm => table_any (hx.le (by repeat first | exact hm.1 | replace hm := hm.2)) hsT)) rfl rfl rfl ?_
  rintro m131 v131 h131
  refine .val (.call rfl (fun m hm => astrayC_any (h131.le (by repeat first | exact hm.1 | replace hm := hm.2)) hsT hE1 hlo)) rfl rfl rfl ?_
  iterate 3 refine .o rfl ?_
  refine WL.alloc rfl rfl rfl (fun b10 => ?_)
  (refine WL.store [_, _] rfl (.head _) rfl rfl rfl (Nat.le_of_ble_eq_true rfl) (by simp [Value.cells, Value.oneCell']) rfl ?_)
  refine .o rfl ?_; refine WL.nil ?_
  refine Kseq.go (W.seq ?_)
  refine W.freezeBox (.head _) (fun b hb => (hF b hb).elim) fun m10 h10 => ?_
  refine W.region ?_; refine .val (.fieldAddrB rfl) rfl rfl rfl ?_; refine .val (.loadPA (vs := [wv, xv, vi r.table.wrong]) rfl h8l (by repeat constructor) rfl rfl) rfl rfl rfl ?_; refine WL.abs (OpAbs.call rfl (fun m hm => table_any (hx.le (by repeat first | exact hm.1 | replace hm := hm.2)) hsT)) rfl rfl rfl ?_
  rintro m138 v138 h138
  refine WL.abs (OpAbs.call rfl (fun m hm => missesT_any (h138.le (by repeat first | exact hm.1 | replace hm := hm.2)) hsT)) rfl rfl rfl ?_
  rintro m139 _ ⟨lv12, rfl, hl12⟩
  rw [hE1, if_pos rfl] at hl12
  rw [hE1]
  iterate 5 refine .o rfl ?_
  refine WL.nil ?_
  refine Kseq.go (W.seq ?_)
  refine W.region ?_; refine .val (.loadPW rfl h8l (by repeat constructor) rfl) rfl rfl rfl ?_; refine WL.abs (OpAbs.call rfl (fun m hm => errand_any (hY.le (by repeat first | exact hm.1 | replace hm := hm.2)) hsY)) rfl rfl rfl ?_
  rintro m144 v144 h144
  refine .val (.call rfl (fun m hm => fewestC_any (h144.le (by repeat first | exact hm.1 | replace hm := hm.2)) hsY hfy (backE_fewest hV))) rfl rfl rfl ?_
  iterate 5 refine .o rfl ?_
  refine WL.nil ?_
  refine Kseq.go (W.seq ?_)
  refine W.region ?_; refine .val (.loadPW rfl h8l (by repeat constructor) rfl) rfl rfl rfl ?_; refine WL.abs (OpAbs.call rfl (fun m hm => errand_any (hY.le (by repeat first | exact hm.1 | replace hm := hm.2)) hsY)) rfl rfl rfl ?_
  rintro m150 v150 h150
  refine WL.abs (OpAbs.call rfl (fun m hm => bestC_any hV (h150.le (by repeat first | exact hm.1 | replace hm := hm.2)) hsY)) rfl rfl rfl ?_
  rintro m151 _ ⟨lv16, rfl, hl16⟩
  iterate 7 refine .o rfl ?_
  refine WL.nil ?_
  refine Kseq.go (W.seq ?_)
  refine W.region ?_; refine .val (.fieldAddrB rfl) rfl rfl rfl ?_; refine .val (.loadPA (vs := [wv, .slice pa r.table.pieces.length pc, vi r.table.wrong]) rfl h2l (by repeat constructor) rfl rfl) rfl rfl rfl ?_; refine WL.abs (OpAbs.call rfl (fun m hm => table_any (hTl.le (by repeat first | exact hm.1 | replace hm := hm.2)) hs.table)) rfl rfl rfl ?_
  rintro m158 v158 h158
  refine WL.abs (OpAbs.call rfl (fun m hm => whoseT_any (h158.le (by repeat first | exact hm.1 | replace hm := hm.2)) hs.table)) rfl rfl rfl ?_
  rintro m159 _ ⟨lp, rfl, hlp⟩
  rw [hE0, if_pos rfl] at hlp
  rw [hE0]
  iterate 5 refine .o rfl ?_
  refine WL.nil ?_
  refine Kseq.go (W.seq ?_)
  refine W.region ?_; refine .val (.fieldAddrB rfl) rfl rfl rfl ?_; refine .val (.loadPA (vs := [wv, xv, vi r.table.wrong]) rfl h8l (by repeat constructor) rfl rfl) rfl rfl rfl ?_; refine WL.abs (OpAbs.call rfl (fun m hm => table_any (hx.le (by repeat first | exact hm.1 | replace hm := hm.2)) hsT)) rfl rfl rfl ?_
  rintro m165 v165 h165
  refine WL.abs (OpAbs.call rfl (fun m hm => whoseT_any (h165.le (by repeat first | exact hm.1 | replace hm := hm.2)) hsT)) rfl rfl rfl ?_
  rintro m166 _ ⟨lq, rfl, hlq⟩
  rw [hE1, if_pos rfl, hpn, hwh] at hlq
  rw [hE1]
  iterate 5 refine .o rfl ?_
  refine WL.nil ?_
  refine Kseq.go (W.seq (W.seq ?_))
  refine W.join fun mz hz => ?_
  have q1 := IsInts.le hl12 (hz m139 (by simp))
  have q2 := IsInts.le hl16 (hz m151 (by simp))
  have q3 := hlp.le (hz m159 (by simp))
  have q4 := hlq.le (hz m166 (by simp))
  have h2z := h2l.le (hz ml (by simp))
  have h10z := h10.le (hz m10 (by simp))
  have hml : (missTo (allBack r.table) (allBack r.table).women.length).length = r.table.women.length := by simp [missTo, hab]
  have hwb : r.table.women.length ≤ 50 := hs.table.1
  have hwl9 : (whoTo r.table r.table.pieces.length).length = r.table.pieces.length := by simp [whoTo]
  clear hz hl12 hl16 hlp hlq h10
  refine W.weaken [(1, .pointer (some ⟨b1, 0, none⟩)), (10, .pointer (some ⟨b10, 0, none⟩)), (11, vi 0), (12, lv12), (13, vi 0), (14, vi 0), (15, vi 0), (16, lv16), (17, vi r.start), (18, vi 0), (19, lp), (20, vi 0), (21, lq), (22, vi 0)] [mz] [] (by repeat (first | exact trivial | refine ⟨rfl, ?_⟩)) (by simp) (List.nil_sublist _) ?_
  obtain ⟨vs, hvs, hvA⟩ := q3
  obtain ⟨us, hus, huA⟩ := q4
  refine W.region ?_
  iterate 3 refine .o rfl ?_
  refine .val (.fieldAddrB rfl) rfl rfl rfl ?_; refine .val (.loadP rfl h10z (by repeat constructor) rfl) rfl rfl rfl ?_
  iterate 8 refine .o rfl ?_
  refine .val (.len rfl q1) rfl rfl rfl ?_; refine .val (.fieldAddrB rfl) rfl rfl rfl ?_; refine .val (.fieldAddrB rfl) rfl rfl rfl ?_; refine .val (.loadP rfl h2z (by repeat constructor) rfl) rfl rfl rfl ?_; refine .val (.len rfl hWl) rfl rfl rfl ?_; refine .val (.cast (.opv rfl) (show _ = Value.bool false from congrArg (fun b => Value.bool (!b)) (decide_eq_true (by omega)))) rfl rfl rfl ?_
  iterate 15 refine .o rfl ?_
  refine .val (.cast (.len rfl q2) (show _ = vi 0 from rfl)) rfl rfl rfl ?_
  iterate 4 refine .o rfl ?_
  refine .val (.fieldAddrB rfl) rfl rfl rfl ?_; refine .val (.loadP rfl h2z (by repeat constructor) rfl) rfl rfl rfl ?_; refine .val (OpVal.neqF rfl rfl) rfl rfl rfl ?_
  iterate 11 refine .o rfl ?_
  refine .val (.len rfl hvA) rfl rfl rfl ?_; refine .o rfl ?_; refine .val (.len rfl huA) rfl rfl rfl ?_; refine .val (OpVal.neqF rfl rfl) rfl rfl rfl ?_; refine .o rfl ?_; refine WL.nil ?_; refine Kseq.go ?_; refine W.condF rfl rfl ?_
  refine W.skip (Kseq.go (W.seq (W.seq ?_)))
  refine W.region ?_; refine .o rfl ?_; refine WL.nil ?_
  refine Kseq.go (W.block ?_)
  refine W.loop (σ := Nat) (fun i => [(12, lv12), (19, lp), (21, lq), (23, vi (i : Int))]) (fun _ => [mz]) (fun _ => []) (fun i => i ≤ r.table.women.length) (fun i => r.table.women.length - i) 0 ⟨rfl, rfl, rfl, rfl, trivial⟩ (by simp) (List.nil_sublist _) (Nat.zero_le _) ?_
  intro i hi
  refine W.seq (W.seq ?_)
  refine W.region ?_
  iterate 2 refine .o rfl ?_
  refine .val (.len rfl q1) rfl rfl rfl ?_; refine .o rfl ?_; refine WL.nil ?_; refine Kseq.go ?_
  refine W.condD rfl rfl (fun hlt => ?_) (fun hge => ?_)
  · have hil : i < r.table.women.length := by omega
    have hmv : (missTo (allBack r.table) (allBack r.table).women.length).getD i 0 ≠ 1 := by
      rw [missTo_get (by rw [hab]; exact hil)]
      exact hmi i
    refine W.skip (Kseq.go (W.seq (W.block (W.seq ?_))))
    refine W.region ?_
    iterate 2 refine .o rfl ?_
    refine .val (.indexAddrN rfl rfl q1 (by omega)) rfl rfl rfl ?_; refine .val (.loadE rfl q1 (by repeat constructor) (by omega) (by omega)) rfl rfl rfl ?_; refine .val (.cast (.opv rfl) (congrArg Value.bool (decide_eq_false hmv))) rfl rfl rfl ?_; refine WL.nil ?_; refine Kseq.go ?_; refine W.condF rfl rfl ?_
    refine W.skip (Kblock.normal (Kseq.go ?_))
    refine W.region ?_; refine .o rfl ?_; refine .val (.incr rfl (by omega)) rfl rfl rfl ?_; refine .o rfl ?_; refine WL.nil ?_
    exact Kloop.next (i + 1) (by omega) (by omega) ⟨rfl, rfl, rfl, rfl, trivial⟩ (by simp) (by repeat first | exact .refl _ | refine .cons _ ?_)
  refine W.exit (Kseq.exit (Kloop.exit (Kblock.here (Kseq.go (W.seq (W.seq ?_))))))
  refine W.region ?_; refine .o rfl ?_; refine WL.nil ?_
  refine Kseq.go (W.block ?_)
  refine W.loop (σ := Nat) (fun c => [(19, lp), (21, lq), (24, vi (c : Int))]) (fun _ => [mz]) (fun _ => []) (fun c => c ≤ (whoTo r.table r.table.pieces.length).length) (fun c => (whoTo r.table r.table.pieces.length).length - c) 0 ⟨rfl, rfl, rfl, trivial⟩ (by simp) (List.nil_sublist _) (Nat.zero_le _) ?_
  intro c2 hc2
  refine W.seq (W.seq ?_)
  refine W.region ?_
  iterate 2 refine .o rfl ?_
  refine .val (.len rfl hvA) rfl rfl rfl ?_; refine .o rfl ?_; refine WL.nil ?_; refine Kseq.go ?_
  refine W.condD rfl rfl (fun hlt => ?_) (fun hge => ?_)
  · have hcl3 : c2 < (whoTo r.table r.table.pieces.length).length := by omega
    have hw1 := hvs.2 c2 hcl3
    have hw2 := hus.2 c2 hcl3
    have hwb2 := hw1.bd
    refine W.skip (Kseq.go (W.seq (W.block (W.seq (W.seq ?_)))))
    refine W.draw 10 (by kernel_rfl) (by kernel_rfl) (by kernel_rfl) rfl ?_; refine .val [] (.opv rfl) rfl rfl rfl rfl ?_; refine .val [] (.opv rfl) rfl rfl rfl rfl ?_; refine .val [] (.indexAddrN rfl rfl hvA hcl3) rfl rfl rfl rfl ?_; refine .val [] (.cast (.loadE rfl hvA (by repeat constructor) hcl3 (by omega)) (show _ = vs.getD c2 undef from rfl)) rfl rfl rfl rfl ?_; refine .val [] (.len rfl hw1) rfl rfl rfl rfl ?_; refine .val [] (.opv rfl) rfl rfl rfl rfl ?_; refine .val [] (.opv rfl) rfl rfl rfl rfl ?_; refine .val [] (.indexAddrN rfl rfl huA hcl3) rfl rfl rfl rfl ?_; refine .val [] (.cast (.loadE rfl huA (by repeat constructor) hcl3 (by omega)) (show _ = us.getD c2 undef from rfl)) rfl rfl rfl rfl ?_; refine .val [] (.len rfl hw2) rfl rfl rfl rfl ?_; refine DJ.nil ?_; refine .val (OpVal.neqF rfl rfl) rfl rfl rfl ?_; refine WL.nil ?_; refine Kseq.go ?_; refine W.condF rfl rfl ?_
    refine W.skip (Kseq.go (W.seq ?_))
    refine W.region ?_; refine .o rfl ?_; refine WL.nil ?_
    refine Kseq.go (W.block ?_)
    refine W.loop (σ := Nat) (fun d => [(19, lp), (21, lq), (24, vi (c2 : Int)), (25, vi (d : Int))]) (fun _ => [mz]) (fun _ => []) (fun d => d ≤ ((whoTo r.table r.table.pieces.length).getD c2 []).length) (fun d => ((whoTo r.table r.table.pieces.length).getD c2 []).length - d) 0 ⟨rfl, rfl, rfl, rfl, trivial⟩ (by simp) (List.nil_sublist _) (Nat.zero_le _) ?_
    intro d hd
    refine W.seq (W.seq ?_)
    refine W.region ?_
    iterate 3 refine .o rfl ?_
    refine .val (.indexAddrN rfl rfl hvA hcl3) rfl rfl rfl ?_; refine .val (.cast (.loadE rfl hvA (by repeat constructor) hcl3 (by omega)) (show _ = vs.getD c2 undef from rfl)) rfl rfl rfl ?_; refine .val (.len rfl hw1) rfl rfl rfl ?_; refine .o rfl ?_; refine WL.nil ?_; refine Kseq.go ?_
    refine W.condD rfl rfl (fun hlt2 => ?_) (fun hge2 => ?_)
    · have hdl : d < ((whoTo r.table r.table.pieces.length).getD c2 []).length := by omega
      refine W.skip (Kseq.go (W.seq (W.block (W.seq ?_))))
      refine W.draw 14 (by kernel_rfl) (by kernel_rfl) (by kernel_rfl) rfl ?_; refine .val [] (.opv rfl) rfl rfl rfl rfl ?_; refine .val [] (.opv rfl) rfl rfl rfl rfl ?_; refine .val [] (.indexAddrN rfl rfl hvA hcl3) rfl rfl rfl rfl ?_; refine .val [] (.cast (.loadE rfl hvA (by repeat constructor) hcl3 (by omega)) (show _ = vs.getD c2 undef from rfl)) rfl rfl rfl rfl ?_; refine .val [] (.opv rfl) rfl rfl rfl rfl ?_; refine .val [] (.indexAddrN rfl rfl hw1 hdl) rfl rfl rfl rfl ?_; refine .val [] (.loadE rfl hw1 (by repeat constructor) hdl (by omega)) rfl rfl rfl rfl ?_; refine .val [] (.opv rfl) rfl rfl rfl rfl ?_; refine .val [] (.opv rfl) rfl rfl rfl rfl ?_; refine .val [] (.indexAddrN rfl rfl huA hcl3) rfl rfl rfl rfl ?_; refine .val [] (.cast (.loadE rfl huA (by repeat constructor) hcl3 (by omega)) (show _ = us.getD c2 undef from rfl)) rfl rfl rfl rfl ?_; refine .val [] (.opv rfl) rfl rfl rfl rfl ?_
      refine .val [] (.indexAddrN rfl rfl hw2 hdl) rfl rfl rfl rfl ?_; refine .val [] (.loadE rfl hw2 (by repeat constructor) hdl (by omega)) rfl rfl rfl rfl ?_; refine DJ.nil ?_; refine .val (OpVal.neqF rfl rfl) rfl rfl rfl ?_; refine WL.nil ?_; refine Kseq.go ?_; refine W.condF rfl rfl ?_
      refine W.skip (Kblock.normal (Kseq.go ?_))
      refine W.region ?_; refine .o rfl ?_; refine .val (.incr rfl (by omega)) rfl rfl rfl ?_; refine .o rfl ?_; refine WL.nil ?_
      exact Kloop.next (d + 1) (by omega) (by omega) ⟨rfl, rfl, rfl, rfl, trivial⟩ (by simp) (by repeat first | exact .refl _ | refine .cons _ ?_)
    refine W.exit (Kseq.exit (Kloop.exit (Kblock.here (Kblock.normal (Kseq.go ?_)))))
    refine W.region ?_; refine .o rfl ?_; refine .val (.incr rfl (by omega)) rfl rfl rfl ?_; refine .o rfl ?_; refine WL.nil ?_
    exact Kloop.next (c2 + 1) (by omega) (by omega) ⟨rfl, rfl, rfl, trivial⟩ (by simp) (by repeat first | exact .refl _ | refine .cons _ ?_)
  refine W.exit (Kseq.exit (Kloop.exit (Kblock.here (Kseq.go (W.seq ?_)))))
  refine W.region ?_; refine .val (.call rfl (fun m hm => carriedTop_any)) rfl rfl rfl ?_; refine .o rfl ?_; refine WL.nil ?_; refine Kseq.go ?_
  refine W.ret ?_; refine ⟨.inl rfl, [_], mz, ⟨.tmp rfl, trivial⟩, (by repeat constructor), ?_⟩
  rfl
end Go.Proofs.Ytppkhehbkoeinaa
