/- The statement BundleRead: its contract. -/
import Derived.Test.YtgolpbkapphciaaT51
import Derived.Test.YtgolpbkapphciaaT46
namespace Go.Proofs.Ytgolpbkapphciaa
open Go Go.Eng Go.RowKit

theorem kept_at {h : Mem} {av bv : Value} {a b : List Int} (ha : IsInts h av a) (hb : IsInts h bv b) (hs : keptB a b = true) : FnV Try.prog 44 #[av, bv] h (.bool true) := by
  have := kept_any ha hb
  rwa [hs] at this
theorem pcs_one' {fs : List Value} {ps : List Piece} (h : ∀ u ∈ fs, u.oneCell' = true) : ∀ u ∈ pcs fs ps, ∀ x ∈ u.cells.toList, x.oneCell' = true := by
  intro u hu
  obtain ⟨j, hj, rfl⟩ := List.mem_iff_getElem.1 hu
  simp [pcs, pv2, Value.cells, Value.oneCell']
  exact h _ (List.getElem_mem _)
/-- BundleRead -/
theorem bundleRead_any {h : Mem} {v : Value} {t : Table} {n n2 : Nat} (hv : IsTable h v t) (hn : n < 256) (hn2 : n2 < 256) : FnV Try.prog 9 #[v, .int .u8 n, .int .u8 n2] h (.bool true) := by
  have hv' := hv
  obtain ⟨wv, pv, f, rfl, hW, hP, hM⟩ := hv
  refine FnR.val ?_
  refine FnR.of_W (n := 172) Try.func9 rfl rfl (Nat.le_of_ble_eq_true rfl) fun c hr hD hF => ?_
  refine W.seq ?_
  refine W.region ?_
  refine WL.box rfl rfl rfl rfl (fun b3 => ?_)
  refine WL.val (OpVal.opv rfl) rfl rfl rfl ?_
  refine WL.nil ?_
  refine Kseq.go (W.seq (W.seq ?_))
  refine W.freezeBox (.head _) (fun b hb => (hF b hb).elim) fun m1 h1 => ?_
  by_cases hR : readyB t = false
  · skip
    refine W.region ?_
    refine WL.val (OpVal.loadPW rfl (by assumption) (by repeat (first | exact .head _ | refine .tail _ ?_)) (by rfl)) rfl rfl rfl ?_
    refine WL.val (OpVal.cast (OpVal.call rfl (fun m hm => ready_any (hv'.le (by repeat (first | exact hm.1 | replace hm := hm.2))))) (congrArg Value.bool hR)) rfl rfl rfl ?_
    refine WL.val (OpVal.opv rfl) rfl rfl rfl ?_
    refine WL.val (OpVal.opv rfl) rfl rfl rfl ?_
    refine WL.pass rfl rfl rfl ?_
    refine WL.pass rfl rfl rfl ?_
    refine WL.pass rfl rfl rfl ?_
    refine WL.pass rfl rfl rfl ?_
    refine WL.val (OpVal.opv rfl) rfl rfl rfl ?_
    refine WL.nil ?_
    refine Kseq.go ?_
    refine W.condT rfl rfl ?_
    refine W.seq ?_
    refine W.region ?_
    refine WL.val (OpVal.call rfl (fun m hm => awake_any)) rfl rfl rfl ?_
    refine WL.val (OpVal.opv rfl) rfl rfl rfl ?_
    refine WL.nil ?_
    refine Kseq.go ?_
    refine W.ret ?_; refine Kseq.ret ?_; refine ⟨.inl rfl, [_], h, ⟨.tmp rfl, trivial⟩, (by repeat (first | exact .head _ | refine .tail _ ?_)), ?_⟩
    rfl
  have hR : readyB t = true := by simpa using hR
  by_cases hp0 : t.pieces.length = 0
  · skip
    refine W.region ?_
    refine WL.val (OpVal.loadPW rfl (by assumption) (by repeat (first | exact .head _ | refine .tail _ ?_)) (by rfl)) rfl rfl rfl ?_
    refine WL.val (OpVal.cast (OpVal.call rfl (fun m hm => ready_any (hv'.le (by repeat (first | exact hm.1 | replace hm := hm.2))))) (congrArg Value.bool hR)) rfl rfl rfl ?_
    refine WL.val (OpVal.opv rfl) rfl rfl rfl ?_
    refine WL.val (OpVal.opv rfl) rfl rfl rfl ?_
    refine WL.val (OpVal.fieldAddrB rfl) rfl rfl rfl ?_
    refine WL.val (OpVal.loadP rfl (by assumption) (by repeat (first | exact .head _ | refine .tail _ ?_)) rfl) rfl rfl rfl ?_
    refine WL.val (OpVal.len rfl hP) rfl rfl rfl ?_
    refine WL.val (OpVal.cast (OpVal.opv rfl) (congrArg Value.bool (decide_eq_true (by omega)))) rfl rfl rfl ?_
    refine WL.val (OpVal.opv rfl) rfl rfl rfl ?_
    refine WL.nil ?_
    refine Kseq.go ?_
    refine W.condT rfl rfl ?_
    refine W.seq ?_
    refine W.region ?_
    refine WL.val (OpVal.call rfl (fun m hm => awake_any)) rfl rfl rfl ?_
    refine WL.val (OpVal.opv rfl) rfl rfl rfl ?_
    refine WL.nil ?_
    refine Kseq.go ?_
    refine W.ret ?_; refine Kseq.ret ?_; refine ⟨.inl rfl, [_], h, ⟨.tmp rfl, trivial⟩, (by repeat (first | exact .head _ | refine .tail _ ?_)), ?_⟩
    rfl
  skip
  refine W.region ?_
  refine WL.val (OpVal.loadPW rfl (by assumption) (by repeat (first | exact .head _ | refine .tail _ ?_)) (by rfl)) rfl rfl rfl ?_
  refine WL.val (OpVal.cast (OpVal.call rfl (fun m hm => ready_any (hv'.le (by repeat (first | exact hm.1 | replace hm := hm.2))))) (congrArg Value.bool hR)) rfl rfl rfl ?_
  refine WL.val (OpVal.opv rfl) rfl rfl rfl ?_
  refine WL.val (OpVal.opv rfl) rfl rfl rfl ?_
  refine WL.val (OpVal.fieldAddrB rfl) rfl rfl rfl ?_
  refine WL.val (OpVal.loadP rfl (by assumption) (by repeat (first | exact .head _ | refine .tail _ ?_)) rfl) rfl rfl rfl ?_
  refine WL.val (OpVal.len rfl hP) rfl rfl rfl ?_
  refine WL.val (OpVal.cast (OpVal.opv rfl) (congrArg Value.bool (decide_eq_false (by omega)))) rfl rfl rfl ?_
  refine WL.val (OpVal.opv rfl) rfl rfl rfl ?_
  refine WL.nil ?_
  refine Kseq.go ?_
  refine W.condF rfl rfl ?_
  obtain ⟨hTh, hVa⟩ := readyB_iff.1 hR
  have hs : Sm t := ThinB.sm hTh
  have hs1 := hs.1
  have hs2 := hs.2.1
  have hpl : n % t.pieces.length < t.pieces.length := Nat.mod_lt _ (by omega)
  refine W.skip (Kseq.go (W.seq ?_))
  skip
  refine W.region ?_
  refine WL.val (OpVal.opv rfl) rfl rfl rfl ?_
  refine WL.val (OpVal.conv rfl (i64_in (by omega) (by omega))) rfl rfl rfl ?_
  refine WL.val (OpVal.fieldAddrB rfl) rfl rfl rfl ?_
  refine WL.val (OpVal.loadP rfl (by assumption) (by repeat (first | exact .head _ | refine .tail _ ?_)) rfl) rfl rfl rfl ?_
  refine WL.val (OpVal.len rfl hP) rfl rfl rfl ?_
  refine WL.val (OpVal.cast (OpVal.rem rfl rfl (by omega) (by omega)) (show vi ((n : Int) % (t.pieces.length : Int)) = vi ((n % t.pieces.length : Nat) : Int) from rfl)) rfl rfl rfl ?_
  refine WL.val (OpVal.opv rfl) rfl rfl rfl ?_
  refine WL.nil ?_
  refine Kseq.go (W.seq ?_)
  generalize n % t.pieces.length = p at *
  obtain ⟨wa, wc, rfl⟩ := IsArr.form hW
  obtain ⟨pa, pc, rfl⟩ := IsArr.form hP
  have hPc := hP.toCells
  have hfl := fsOf_len f t.pieces
  have hal := fsOf_all hM
  have hcl := pcs_len hfl
  have hmk : IsInts h ((fsOf f t.pieces).getD p undef) (t.pieces.getD p default).marks := by rw [fsOf_get hpl]; exact hM p hpl
  have hms3 := hs.2.2 p hpl
  have hmpos : 0 < (t.pieces.getD p default).marks.length := by
    have h1 := hVa.owned p hpl
    obtain ⟨w, _, h2, _⟩ := mem_sel.1 (mem_getD (xs := womenOf t p) h1)
    exact List.length_pos_of_mem (of_decide_eq_true h2)
  have hat := marks_at hfl hpl
  have est := fun (u : Value) (hu : u.cells = #[u]) (ms : List Int) => setM_store hfl hpl u hu ms
  have hL2 := setM_len t.pieces p
  generalize hfs : fsOf f t.pieces = fs at *
  generalize hfv : fs.getD p undef = fv at *
  generalize hms : (t.pieces.getD p default).marks = ms at *
  have hk2 : n2 % ms.length < ms.length := Nat.mod_lt _ hmpos
  skip
  refine W.region ?_
  refine WL.val (OpVal.loadPW rfl (by assumption) (by repeat (first | exact .head _ | refine .tail _ ?_)) (by rfl)) rfl rfl rfl ?_
  refine WL.alloc rfl rfl rfl (fun b8 => ?_)
  refine WL.store [_, _, _] rfl (.head _) rfl rfl rfl (Nat.le_of_ble_eq_true rfl) (by first | (simp [Value.cells, Value.oneCell']; done) | exact IsArr.ones hW (by omega) | exact IsArr.ones hP (by omega)) rfl ?_
  refine WL.nil ?_
  refine Kseq.go (W.seq ?_)
  skip
  refine W.region ?_
  (refine WL.lit (vs := []) [] rfl (Nat.le_of_ble_eq_true rfl) rfl rfl (by simp) (Nat.le_of_ble_eq_true rfl) rfl rfl rfl rfl (fun b40 => ?_))
  refine WL.val (OpVal.fieldAddrB rfl) rfl rfl rfl ?_
  refine WL.val (OpVal.loadP rfl (by assumption) (by repeat (first | exact .head _ | refine .tail _ ?_)) rfl) rfl rfl rfl ?_
  (refine WL.append (e := 62) (k := 2) (bytes := 32) (xs := []) (ys := flatv (pcs fs t.pieces)) (N := 0) (m2 := t.pieces.length) (μ' := fun v' => [kr 62 2 v' (pcs fs t.pieces), .blk b8 _ 25]) rfl (fun v' => by simp only [kr, hcl, Nat.zero_add, List.nil_append]; exact .head _) rfl hPc (by repeat (first | exact .head _ | refine .tail _ ?_)) rfl (by omega) (by unfold maxLen; omega) (by omega) rfl rfl rfl ?_; intro a43 c43)
  refine WL.val (OpVal.fieldAddrB rfl) rfl rfl rfl ?_
  refine WL.store [_, _, _] rfl (.tail _ (.head _)) rfl rfl rfl (Nat.le_of_ble_eq_true rfl) (by first | (simp [Value.cells, Value.oneCell']; done) | exact IsArr.ones hW (by omega) | exact IsArr.ones hP (by omega)) rfl ?_
  refine WL.nil ?_
  refine Kseq.go (W.seq ?_)
  skip
  refine W.region ?_
  refine WL.val (OpVal.fieldAddrB rfl) rfl rfl rfl ?_
  refine WL.val (OpVal.loadB rfl (.tail _ (.head _)) rfl) rfl rfl rfl ?_
  refine WL.val (OpVal.opv rfl) rfl rfl rfl ?_
  refine WL.val (OpVal.indexAddrR rfl rfl (.head _) (by omega)) rfl rfl rfl ?_
  refine WL.val (OpVal.fieldAddrR rfl (.head _) (by rw [hcl]; exact hpl)) rfl rfl rfl ?_
  refine WL.val (OpVal.loadR rfl (.head _) (by rw [hcl]; exact hpl) (by omega) hat) rfl rfl rfl ?_
  refine WL.val (OpVal.opv rfl) rfl rfl rfl ?_
  refine WL.nil ?_
  refine Kseq.go (W.seq ?_)
  skip
  refine W.region ?_
  refine WL.val (OpVal.opv rfl) rfl rfl rfl ?_
  refine WL.val (OpVal.conv rfl (i64_in (by omega) (by omega))) rfl rfl rfl ?_
  refine WL.val (OpVal.opv rfl) rfl rfl rfl ?_
  refine WL.val (OpVal.len rfl hmk) rfl rfl rfl ?_
  refine WL.val (OpVal.cast (OpVal.rem rfl rfl (by omega) (by omega)) (show vi ((n2 : Int) % (ms.length : Int)) = vi ((n2 % ms.length : Nat) : Int) from rfl)) rfl rfl rfl ?_
  refine WL.val (OpVal.opv rfl) rfl rfl rfl ?_
  refine WL.nil ?_
  refine Kseq.go (W.seq ?_)
  generalize n2 % ms.length = k at *
  have hA := hmk.sub (lo := 0) (hi := k) (by omega) (by omega)
  have hB := hmk.sub (lo := k + 1) (hi := ms.length) (by omega) (by omega)
  have hsub : ∀ y ∈ (ms.drop 0).take (k - 0) ++ (ms.drop (k + 1)).take (ms.length - (k + 1)), y ∈ ms := fun y hy => by
    rcases List.mem_append.1 hy with hy | hy
    · exact List.mem_of_mem_drop (List.mem_of_mem_take hy)
    · exact List.mem_of_mem_drop (List.mem_of_mem_take hy)
  have hlA : ((ms.drop 0).take (k - 0)).length ≤ 50 := by rw [List.length_take, List.length_drop]; omega
  have hlB : ((ms.drop (k + 1)).take (ms.length - (k + 1))).length ≤ 50 := by rw [List.length_take, List.length_drop]; omega
  generalize (ms.drop 0).take (k - 0) = A at *
  generalize (ms.drop (k + 1)).take (ms.length - (k + 1)) = B at *
  let l0 : List (Nat × Value) := [(3, .pointer (some ⟨b3, 0, none⟩)), (7, .int .i64 (p : Int)), (8, .pointer (some ⟨b8, 0, none⟩)), (9, fv), (10, .int .i64 (k : Int))]
  skip
  refine W.weaken l0 [m1, h] [kr 62 2 (.slice a43 (0 + t.pieces.length) c43) (pcs fs t.pieces), .blk b8 [.slice wa t.women.length wc, .slice a43 (0 + t.pieces.length) c43, vi t.wrong].toArray 25] (by repeat (first | exact trivial | refine ⟨rfl, ?_⟩)) (by simp) (.refl _) ?_
  skip
  refine W.drawN (γ := Ph3 Nat (Option Addr × Nat) (Option Addr × Nat)) .a 13 [3, 7, 12] (Ph3.sel l0 (fun b => (59, .slice (some ⟨b, 0, none⟩) 0 0) :: l0) (fun b g => (63, .slice g.1 (([] : List Int).length + A.length) g.2) :: (59, .slice (some ⟨b, 0, none⟩) 0 0) :: l0) (fun b g g2 => (68, .slice g2.1 (A.length + B.length) g2.2) :: (63, .slice g.1 (([] : List Int).length + A.length) g.2) :: (59, .slice (some ⟨b, 0, none⟩) 0 0) :: l0)) (Ph3.sel [kr 62 2 (.slice a43 (0 + t.pieces.length) c43) (pcs fs t.pieces), .blk b8 [.slice wa t.women.length wc, .slice a43 (0 + t.pieces.length) c43, vi t.wrong].toArray 25] (fun b => [ir 3 (.slice (some ⟨b, 0, none⟩) 0 0) [], kr 62 2 (.slice a43 (0 + t.pieces.length) c43) (pcs fs t.pieces), .blk b8 [.slice wa t.women.length wc, .slice a43 (0 + t.pieces.length) c43, vi t.wrong].toArray 25]) (fun b g => [ir 3 (.slice g.1 (([] : List Int).length + A.length) g.2) A, kr 62 2 (.slice a43 (0 + t.pieces.length) c43) (pcs fs t.pieces), .blk b8 [.slice wa t.women.length wc, .slice a43 (0 + t.pieces.length) c43, vi t.wrong].toArray 25]) (fun b g g2 => [ir 3 (.slice g2.1 (A.length + B.length) g2.2) (A ++ B), kr 62 2 (.slice a43 (0 + t.pieces.length) c43) (pcs fs t.pieces), .blk b8 [.slice wa t.women.length wc, .slice a43 (0 + t.pieces.length) c43, vi t.wrong].toArray 25])) Ph3.num (by kernel_rfl) (by kernel_rfl) (by kernel_rfl) rfl Ph3.le (Ph3.all rfl (fun _ => rfl) (fun _ _ => rfl) (fun _ _ _ => rfl)) rfl rfl ?_
  refine DJN.val [] (Ph3.all (fun hg => OpVal.fieldAddrB rfl) (fun x1 hg => OpVal.fieldAddrB rfl) (fun x1 x2 hg => OpVal.fieldAddrB rfl) (fun x1 x2 x3 hg => OpVal.fieldAddrB rfl)) (Ph3.all (fun hg => rfl) (fun x1 hg => rfl) (fun x1 x2 hg => rfl) (fun x1 x2 x3 hg => rfl)) rfl rfl (Ph3.all rfl (fun _ => rfl) (fun _ _ => rfl) (fun _ _ _ => rfl)) rfl ?_
  refine DJN.val [] (Ph3.all (fun hg => (by first | exact OpVal.loadB rfl (.head _) rfl | exact OpVal.loadB rfl (.tail _ (.head _)) rfl | exact OpVal.loadB rfl (.tail _ (.tail _ (.head _))) rfl | exact OpVal.loadB rfl (.tail _ (.tail _ (.tail _ (.head _)))) rfl | exact OpVal.loadB rfl (.tail _ (.tail _ (.tail _ (.tail _ (.head _))))) rfl | exact OpVal.loadB rfl (.tail _ (.tail _ (.tail _ (.tail _ (.tail _ (.head _)))))) rfl | exact OpVal.loadP rfl (by assumption) (by repeat (first | exact .head _ | refine .tail _ ?_)) rfl)) (fun x1 hg => (by first | exact OpVal.loadB rfl (.head _) rfl | exact OpVal.loadB rfl (.tail _ (.head _)) rfl | exact OpVal.loadB rfl (.tail _ (.tail _ (.head _))) rfl | exact OpVal.loadB rfl (.tail _ (.tail _ (.tail _ (.head _)))) rfl | exact OpVal.loadB rfl (.tail _ (.tail _ (.tail _ (.tail _ (.head _))))) rfl | exact OpVal.loadB rfl (.tail _ (.tail _ (.tail _ (.tail _ (.tail _ (.head _)))))) rfl | exact OpVal.loadP rfl (by assumption) (by repeat (first | exact .head _ | refine .tail _ ?_)) rfl)) (fun x1 x2 hg => (by first | exact OpVal.loadB rfl (.head _) rfl | exact OpVal.loadB rfl (.tail _ (.head _)) rfl | exact OpVal.loadB rfl (.tail _ (.tail _ (.head _))) rfl | exact OpVal.loadB rfl (.tail _ (.tail _ (.tail _ (.head _)))) rfl | exact OpVal.loadB rfl (.tail _ (.tail _ (.tail _ (.tail _ (.head _))))) rfl | exact OpVal.loadB rfl (.tail _ (.tail _ (.tail _ (.tail _ (.tail _ (.head _)))))) rfl | exact OpVal.loadP rfl (by assumption) (by repeat (first | exact .head _ | refine .tail _ ?_)) rfl)) (fun x1 x2 x3 hg => (by first | exact OpVal.loadB rfl (.head _) rfl | exact OpVal.loadB rfl (.tail _ (.head _)) rfl | exact OpVal.loadB rfl (.tail _ (.tail _ (.head _))) rfl | exact OpVal.loadB rfl (.tail _ (.tail _ (.tail _ (.head _)))) rfl | exact OpVal.loadB rfl (.tail _ (.tail _ (.tail _ (.tail _ (.head _))))) rfl | exact OpVal.loadB rfl (.tail _ (.tail _ (.tail _ (.tail _ (.tail _ (.head _)))))) rfl | exact OpVal.loadP rfl (by assumption) (by repeat (first | exact .head _ | refine .tail _ ?_)) rfl))) (Ph3.all (fun hg => rfl) (fun x1 hg => rfl) (fun x1 x2 hg => rfl) (fun x1 x2 x3 hg => rfl)) rfl rfl (Ph3.all rfl (fun _ => rfl) (fun _ _ => rfl) (fun _ _ _ => rfl)) rfl ?_
  refine DJN.val [] (Ph3.all (fun hg => OpVal.opv rfl) (fun x1 hg => OpVal.opv rfl) (fun x1 x2 hg => OpVal.opv rfl) (fun x1 x2 x3 hg => OpVal.opv rfl)) (Ph3.all (fun hg => rfl) (fun x1 hg => rfl) (fun x1 x2 hg => rfl) (fun x1 x2 x3 hg => rfl)) rfl rfl (Ph3.all rfl (fun _ => rfl) (fun _ _ => rfl) (fun _ _ _ => rfl)) rfl ?_
  refine DJN.eff 0 [] trivial rfl rfl [] trivial (Ph3.all (fun hg => ⟨rfl, fun M2 hM2 => ?_⟩) (fun x1 hg => absurd hg (by simp [Ph3.num])) (fun x1 x2 hg => absurd hg (by simp [Ph3.num])) (fun x1 x2 x3 hg => absurd hg (by simp [Ph3.num]))) ?_
  · (refine WL.lit (vs := []) [] rfl (Nat.le_of_ble_eq_true rfl) rfl rfl (by simp) (Nat.le_of_ble_eq_true rfl) rfl rfl rfl rfl (fun b59 => ?_); exact WL.nil ⟨.b b59, rfl, Keff.intro (by repeat (first | exact trivial | refine ⟨rfl, ?_⟩)) (fun x hx => hx) (.refl _)⟩)
  refine DJN.val [] (Ph3.all (fun hg => OpVal.opv rfl) (fun x1 hg => OpVal.opv rfl) (fun x1 x2 hg => OpVal.opv rfl) (fun x1 x2 x3 hg => OpVal.opv rfl)) (Ph3.all (fun hg => rfl) (fun x1 hg => rfl) (fun x1 x2 hg => rfl) (fun x1 x2 x3 hg => rfl)) rfl rfl (Ph3.all rfl (fun _ => rfl) (fun _ _ => rfl) (fun _ _ _ => rfl)) rfl ?_
  refine DJN.val [] (Ph3.all (fun hg => OpVal.opv rfl) (fun x1 hg => OpVal.opv rfl) (fun x1 x2 hg => OpVal.opv rfl) (fun x1 x2 x3 hg => OpVal.opv rfl)) (Ph3.all (fun hg => rfl) (fun x1 hg => rfl) (fun x1 x2 hg => rfl) (fun x1 x2 x3 hg => rfl)) rfl rfl (Ph3.all rfl (fun _ => rfl) (fun _ _ => rfl) (fun _ _ _ => rfl)) rfl ?_
  refine DJN.val [] (Ph3.all (fun hg => OpVal.sliceH rfl rfl hmk (by omega)) (fun x1 hg => OpVal.sliceH rfl rfl hmk (by omega)) (fun x1 x2 hg => Bool.noConfusion (show false = true from hg)) (fun x1 x2 x3 hg => Bool.noConfusion (show false = true from hg))) (Ph3.all (fun hg => rfl) (fun x1 hg => rfl) (fun x1 x2 hg => Bool.noConfusion (show false = true from hg)) (fun x1 x2 x3 hg => Bool.noConfusion (show false = true from hg))) rfl rfl (Ph3.all rfl (fun _ => rfl) (fun _ _ => rfl) (fun _ _ _ => rfl)) rfl ?_
  refine DJN.eff 1 [(62, _)] ⟨rfl, trivial⟩ rfl rfl [] trivial (Ph3.all (fun hg => absurd hg (by simp [Ph3.num])) (fun x1 hg => ⟨rfl, fun M2 hM2 => ?_⟩) (fun x1 x2 hg => absurd hg (by simp [Ph3.num])) (fun x1 x2 x3 hg => absurd hg (by simp [Ph3.num]))) ?_
  · (refine WL.appInts (xs := []) (ys := A) rfl (fun _ => .head _) rfl hA (hM2 _ (by simp)) (by simp only [List.length_nil]; omega) rfl rfl rfl ?_; intro a63 c63; exact WL.nil ⟨.c x1 (a63, c63), rfl, Keff.intro (by repeat (first | exact trivial | refine ⟨rfl, ?_⟩)) (fun x hx => hx) (.refl _)⟩)
  refine DJN.val [] (Ph3.all (fun hg => OpVal.opv rfl) (fun x1 hg => OpVal.opv rfl) (fun x1 x2 hg => OpVal.opv rfl) (fun x1 x2 x3 hg => OpVal.opv rfl)) (Ph3.all (fun hg => rfl) (fun x1 hg => rfl) (fun x1 x2 hg => rfl) (fun x1 x2 x3 hg => rfl)) rfl rfl (Ph3.all rfl (fun _ => rfl) (fun _ _ => rfl) (fun _ _ _ => rfl)) rfl ?_
  refine DJN.val [] (Ph3.all (fun hg => OpVal.opv rfl) (fun x1 hg => OpVal.opv rfl) (fun x1 x2 hg => OpVal.opv rfl) (fun x1 x2 x3 hg => OpVal.opv rfl)) (Ph3.all (fun hg => rfl) (fun x1 hg => rfl) (fun x1 x2 hg => rfl) (fun x1 x2 x3 hg => rfl)) rfl rfl (Ph3.all rfl (fun _ => rfl) (fun _ _ => rfl) (fun _ _ _ => rfl)) rfl ?_
  refine DJN.val [] (Ph3.all (fun hg => (by first | exact OpVal.incr rfl (by omega) | exact OpVal.add rfl rfl (by omega) (by omega))) (fun x1 hg => (by first | exact OpVal.incr rfl (by omega) | exact OpVal.add rfl rfl (by omega) (by omega))) (fun x1 x2 hg => (by first | exact OpVal.incr rfl (by omega) | exact OpVal.add rfl rfl (by omega) (by omega))) (fun x1 x2 x3 hg => (by first | exact OpVal.incr rfl (by omega) | exact OpVal.add rfl rfl (by omega) (by omega)))) (Ph3.all (fun hg => rfl) (fun x1 hg => rfl) (fun x1 x2 hg => rfl) (fun x1 x2 x3 hg => rfl)) rfl rfl (Ph3.all rfl (fun _ => rfl) (fun _ _ => rfl) (fun _ _ _ => rfl)) rfl ?_
  refine DJN.val [] (Ph3.all (fun hg => OpVal.sliceL rfl rfl hmk (by omega)) (fun x1 hg => OpVal.sliceL rfl rfl hmk (by omega)) (fun x1 x2 hg => OpVal.sliceL rfl rfl hmk (by omega)) (fun x1 x2 x3 hg => Bool.noConfusion (show false = true from hg))) (Ph3.all (fun hg => rfl) (fun x1 hg => rfl) (fun x1 x2 hg => rfl) (fun x1 x2 x3 hg => Bool.noConfusion (show false = true from hg))) rfl rfl (Ph3.all rfl (fun _ => rfl) (fun _ _ => rfl) (fun _ _ _ => rfl)) rfl ?_
  refine DJN.eff 2 [(67, _)] ⟨rfl, trivial⟩ rfl rfl [] trivial (Ph3.all (fun hg => absurd hg (by simp [Ph3.num])) (fun x1 hg => absurd hg (by simp [Ph3.num])) (fun x1 x2 hg => ⟨rfl, fun M2 hM2 => ?_⟩) (fun x1 x2 x3 hg => absurd hg (by simp [Ph3.num]))) ?_
  · (refine WL.appInts (xs := A) (ys := B) rfl (fun _ => .head _) rfl hB (hM2 _ (by simp)) (by omega) rfl rfl rfl ?_; intro a68 c68; exact WL.nil ⟨.d x1 x2 (a68, c68), rfl, Keff.intro (by repeat (first | exact trivial | refine ⟨rfl, ?_⟩)) (fun x hx => hx) (.refl _)⟩)
  refine DJN.nil (Ph3.all (fun hg => absurd hg (by simp [Ph3.num])) (fun x1 hg => absurd hg (by simp [Ph3.num])) (fun x1 x2 hg => absurd hg (by simp [Ph3.num])) (fun x1 x2 x3 hg => ?_))
  refine WL.val (OpVal.indexAddrR rfl rfl (.tail _ (.head _)) (by rw [hcl]; exact hpl)) rfl rfl rfl ?_
  refine WL.val (OpVal.fieldAddrR rfl (.tail _ (.head _)) (by rw [hcl]; exact hpl)) rfl rfl rfl ?_
  (refine WL.storeR (T := 62) (k := 2) (xs := flatv (pcs fs t.pieces)) (μ' := [ir 3 (.slice x3.1 (A.length + B.length) x3.2) (A ++ B), kr 62 2 (.slice a43 (0 + t.pieces.length) c43) (pcs (fs.set p (.slice x3.1 (A.length + B.length) x3.2)) (setM t.pieces p (A ++ B))), .blk b8 [.slice wa t.women.length wc, .slice a43 (0 + t.pieces.length) c43, vi t.wrong].toArray 25]) rfl (by unfold kr; rw [← est (.slice x3.1 (A.length + B.length) x3.2) rfl (A ++ B), hcl, pcs_len (by rw [List.length_set, hfl, hL2]), hL2]; exact .tail _ (.head _)) rfl rfl rfl hpl (Nat.le_of_ble_eq_true rfl) (by simp [Value.cells, Value.oneCell']) ?_)
  refine WL.nil ?_
  refine Kseq.go (W.seq (W.seq ?_))
  skip
  refine W.freezeInts (.head _) (fun b hb => (hF b hb).elim) fun m4 hm4 => ?_
  refine W.freezeK (.head _) (fun b hb => (hF b hb).elim) (by omega) (pcs_size _ _) (pcs_one' fun u hu => by
    rcases List.mem_or_eq_of_mem_set hu with hu | rfl
    · exact hal.one u hu
    · rfl) fun m5 hm5 => ?_
  have hp5 := pieces_of (by rw [List.length_set, hfl, hL2]) hm5
  clear hm5
  refine W.join fun mj hj => ?_
  subst hfs
  have hx := read_table hpl (n := t.wrong) (hj h (by simp)) (hW.le (hj h (by simp))) hM (hm4.le (hj m4 (by simp))) (hp5.le (hj m5 (by simp)))
  have hFw := setM_fewer hpl (t := t) (ms := A ++ B) (by rw [hms]; exact hsub)
  generalize (⟨t.women, setM t.pieces p (A ++ B), t.wrong⟩ : Table) = x at *
  skip
  refine W.region ?_
  refine WL.val (OpVal.loadBW rfl (.head _) rfl) rfl rfl rfl ?_
  refine WL.val (OpVal.call rfl (fun m hm => ready_any (hx.le (by repeat (first | exact hm.1 | replace hm := hm.2))))) rfl rfl rfl ?_
  refine WL.val (OpVal.opv rfl) rfl rfl rfl ?_
  refine WL.nil ?_
  refine Kseq.go ?_
  refine W.cond rfl rfl (fun he => ?_) (fun hne => ?_)
  · refine W.seq ?_
    refine W.region ?_
    refine WL.val (OpVal.call rfl (fun m hm => awake_any)) rfl rfl rfl ?_
    refine WL.val (OpVal.opv rfl) rfl rfl rfl ?_
    refine WL.nil ?_
    refine Kseq.go ?_
    refine W.ret ?_; refine Kseq.ret ?_; refine ⟨.inl rfl, [_], h, ⟨.tmp rfl, trivial⟩, (by repeat (first | exact .head _ | refine .tail _ ?_)), ?_⟩
    rfl
  obtain ⟨hThx, hVx⟩ := readyB_iff.1 (by simpa using hne)
  have hsx : Sm x := ThinB.sm hThx
  refine W.skip (Kseq.go (W.seq ?_))
  skip
  refine W.region ?_
  refine WL.val (OpVal.loadPW rfl (by assumption) (by repeat (first | exact .head _ | refine .tail _ ?_)) (by rfl)) rfl rfl rfl ?_
  refine WL.abs (OpAbs.call rfl (fun m hm => table_any (hv'.le (by repeat (first | exact hm.1 | replace hm := hm.2))) hs)) rfl rfl rfl ?_
  rintro m77 v77 h77
  refine WL.abs (OpAbs.call rfl (fun m hm => whoseT_any (h77.le (by repeat (first | exact hm.1 | replace hm := hm.2))) hs)) rfl rfl rfl ?_
  rintro m78 _ ⟨w1, rfl, hw1⟩
  refine WL.val (OpVal.opv rfl) rfl rfl rfl ?_
  refine WL.val (OpVal.opv rfl) rfl rfl rfl ?_
  refine WL.val (OpVal.opv rfl) rfl rfl rfl ?_
  refine WL.val (OpVal.opv rfl) rfl rfl rfl ?_
  refine WL.val (OpVal.opv rfl) rfl rfl rfl ?_
  refine WL.nil ?_
  refine Kseq.go (W.seq ?_)
  skip
  refine W.region ?_
  refine WL.val (OpVal.loadBW rfl (.head _) rfl) rfl rfl rfl ?_
  refine WL.abs (OpAbs.call rfl (fun m hm => table_any (hx.le (by repeat (first | exact hm.1 | replace hm := hm.2))) hsx)) rfl rfl rfl ?_
  rintro m83 v83 h83
  refine WL.abs (OpAbs.call rfl (fun m hm => whoseT_any (h83.le (by repeat (first | exact hm.1 | replace hm := hm.2))) hsx)) rfl rfl rfl ?_
  rintro m84 _ ⟨w2, rfl, hw2⟩
  refine WL.val (OpVal.opv rfl) rfl rfl rfl ?_
  refine WL.val (OpVal.opv rfl) rfl rfl rfl ?_
  refine WL.val (OpVal.opv rfl) rfl rfl rfl ?_
  refine WL.val (OpVal.opv rfl) rfl rfl rfl ?_
  refine WL.val (OpVal.opv rfl) rfl rfl rfl ?_
  refine WL.nil ?_
  refine Kseq.go (W.seq (W.seq ?_))
  by_cases hEx : askE x = 0
  · have h0 := askE_ne hEx
    have hE : askE t = 0 := by rw [askE_nil hVa, if_neg (hFw.ne h0)]
    rw [if_pos hE] at hw1
    rw [if_pos hEx] at hw2
    have hlo := hFw.lo h0
    have hhi := hFw.hi h0
    obtain ⟨lo1, hlo1⟩ : ∃ z, loQ (aN t) (ask t) (ask t).length = z := ⟨_, rfl⟩
    obtain ⟨hi1, hhi1⟩ : ∃ z, hiQ (aN t) (ask t) (ask t).length = z := ⟨_, rfl⟩
    obtain ⟨lo2, hlo2⟩ : ∃ z, loQ (aN x) (ask x) (ask x).length = z := ⟨_, rfl⟩
    obtain ⟨hi2, hhi2⟩ : ∃ z, hiQ (aN x) (ask x) (ask x).length = z := ⟨_, rfl⟩
    rw [hlo1, hlo2] at hlo
    rw [hhi1, hhi2] at hhi
    rw [hE, hEx]
    skip
    refine W.region ?_
    refine WL.val (OpVal.opv rfl) rfl rfl rfl ?_
    refine WL.val (OpVal.neqF rfl rfl) rfl rfl rfl ?_
    refine WL.nil ?_
    refine Kseq.go ?_
    refine W.condF rfl rfl ?_
    refine W.skip (Kseq.go (W.seq ?_))
    skip
    refine W.region ?_
    refine WL.val (OpVal.loadPW rfl (by assumption) (by repeat (first | exact .head _ | refine .tail _ ?_)) (by rfl)) rfl rfl rfl ?_
    refine WL.abs (OpAbs.call rfl (fun m hm => table_any (hv'.le (by repeat (first | exact hm.1 | replace hm := hm.2))) hs)) rfl rfl rfl ?_
    rintro m105 v105 h105
    refine WL.val (OpVal.call rfl (fun m hm => astrayT_at (h105.le (by repeat (first | exact hm.1 | replace hm := hm.2))) hs hE hlo1 hhi1)) rfl rfl rfl ?_
    refine WL.val (OpVal.opv rfl) rfl rfl rfl ?_
    refine WL.val (OpVal.opv rfl) rfl rfl rfl ?_
    refine WL.val (OpVal.opv rfl) rfl rfl rfl ?_
    refine WL.alloc rfl rfl rfl (fun b15 => ?_)
    refine WL.store [_, _] rfl (.head _) rfl rfl rfl (Nat.le_of_ble_eq_true rfl) (by first | (simp [Value.cells, Value.oneCell']; done) | exact IsArr.ones hW (by omega) | exact IsArr.ones hP (by omega)) rfl ?_
    refine WL.val (OpVal.opv rfl) rfl rfl rfl ?_
    refine WL.nil ?_
    refine Kseq.go (W.seq ?_)
    skip
    refine W.region ?_
    refine WL.val (OpVal.loadBW rfl (.tail _ (.head _)) rfl) rfl rfl rfl ?_
    refine WL.abs (OpAbs.call rfl (fun m hm => table_any (hx.le (by repeat (first | exact hm.1 | replace hm := hm.2))) hsx)) rfl rfl rfl ?_
    rintro m111 v111 h111
    refine WL.val (OpVal.call rfl (fun m hm => astrayT_at (h111.le (by repeat (first | exact hm.1 | replace hm := hm.2))) hsx hEx hlo2 hhi2)) rfl rfl rfl ?_
    refine WL.val (OpVal.opv rfl) rfl rfl rfl ?_
    refine WL.val (OpVal.opv rfl) rfl rfl rfl ?_
    refine WL.val (OpVal.opv rfl) rfl rfl rfl ?_
    refine WL.alloc rfl rfl rfl (fun b17 => ?_)
    refine WL.store [_, _] rfl (.head _) rfl rfl rfl (Nat.le_of_ble_eq_true rfl) (by first | (simp [Value.cells, Value.oneCell']; done) | exact IsArr.ones hW (by omega) | exact IsArr.ones hP (by omega)) rfl ?_
    refine WL.val (OpVal.opv rfl) rfl rfl rfl ?_
    refine WL.nil ?_
    refine Kseq.go (W.seq ?_)
    skip
    refine W.region ?_
    refine WL.val (OpVal.loadPW rfl (by assumption) (by repeat (first | exact .head _ | refine .tail _ ?_)) (by rfl)) rfl rfl rfl ?_
    refine WL.abs (OpAbs.call rfl (fun m hm => table_any (hv'.le (by repeat (first | exact hm.1 | replace hm := hm.2))) hs)) rfl rfl rfl ?_
    rintro m117 v117 h117
    refine WL.abs (OpAbs.call rfl (fun m hm => missesT_any (h117.le (by repeat (first | exact hm.1 | replace hm := hm.2))) hs)) rfl rfl rfl ?_
    rintro m118 _ ⟨u1, rfl, hu1⟩
    refine WL.val (OpVal.opv rfl) rfl rfl rfl ?_
    refine WL.val (OpVal.opv rfl) rfl rfl rfl ?_
    refine WL.val (OpVal.opv rfl) rfl rfl rfl ?_
    refine WL.val (OpVal.opv rfl) rfl rfl rfl ?_
    refine WL.val (OpVal.opv rfl) rfl rfl rfl ?_
    refine WL.nil ?_
    refine Kseq.go (W.seq ?_)
    skip
    refine W.region ?_
    refine WL.val (OpVal.loadBW rfl (.tail _ (.tail _ (.head _))) rfl) rfl rfl rfl ?_
    refine WL.abs (OpAbs.call rfl (fun m hm => table_any (hx.le (by repeat (first | exact hm.1 | replace hm := hm.2))) hsx)) rfl rfl rfl ?_
    rintro m123 v123 h123
    refine WL.abs (OpAbs.call rfl (fun m hm => missesT_any (h123.le (by repeat (first | exact hm.1 | replace hm := hm.2))) hsx)) rfl rfl rfl ?_
    rintro m124 _ ⟨u2, rfl, hu2⟩
    refine WL.val (OpVal.opv rfl) rfl rfl rfl ?_
    refine WL.val (OpVal.opv rfl) rfl rfl rfl ?_
    refine WL.val (OpVal.opv rfl) rfl rfl rfl ?_
    refine WL.val (OpVal.opv rfl) rfl rfl rfl ?_
    refine WL.val (OpVal.opv rfl) rfl rfl rfl ?_
    refine WL.nil ?_
    refine Kseq.go (W.seq ?_)
    rw [if_pos hE] at hu1
    rw [if_pos hEx] at hu2
    rw [hE, hEx]
    skip
    refine W.region ?_
    refine WL.val (OpVal.opv rfl) rfl rfl rfl ?_
    refine WL.val (OpVal.eqT rfl rfl) rfl rfl rfl ?_
    refine WL.val (OpVal.opv rfl) rfl rfl rfl ?_
    refine WL.val (OpVal.opv rfl) rfl rfl rfl ?_
    refine WL.val (OpVal.opv rfl) rfl rfl rfl ?_
    refine WL.val (OpVal.call rfl (fun m hm => subsets_at (hw2.le (by repeat (first | exact hm.1 | replace hm := hm.2))) (hw1.le (by repeat (first | exact hm.1 | replace hm := hm.2))) hFw.who)) rfl rfl rfl ?_
    refine WL.val (OpVal.opv rfl) rfl rfl rfl ?_
    refine WL.val (OpVal.opv rfl) rfl rfl rfl ?_
    refine WL.val (OpVal.opv rfl) rfl rfl rfl ?_
    refine WL.val (OpVal.eqT rfl rfl) rfl rfl rfl ?_
    refine WL.val (OpVal.opv rfl) rfl rfl rfl ?_
    refine WL.val (OpVal.opv rfl) rfl rfl rfl ?_
    refine WL.val (OpVal.opv rfl) rfl rfl rfl ?_
    refine WL.val (OpVal.eqT rfl rfl) rfl rfl rfl ?_
    refine WL.val (OpVal.opv rfl) rfl rfl rfl ?_
    refine WL.val (OpVal.opv rfl) rfl rfl rfl ?_
    refine WL.val (OpVal.fieldAddrB rfl) rfl rfl rfl ?_
    refine WL.val (OpVal.loadB rfl (.head _) rfl) rfl rfl rfl ?_
    refine WL.val (OpVal.fieldAddrB rfl) rfl rfl rfl ?_
    refine WL.val (OpVal.loadB rfl (.tail _ (.head _)) rfl) rfl rfl rfl ?_
    refine WL.val (OpVal.cast (OpVal.opv rfl) (congrArg Value.bool (decide_eq_true (by omega)))) rfl rfl rfl ?_
    refine WL.val (OpVal.opv rfl) rfl rfl rfl ?_
    refine WL.val (OpVal.opv rfl) rfl rfl rfl ?_
    refine WL.val (OpVal.fieldAddrB rfl) rfl rfl rfl ?_
    refine WL.val (OpVal.loadB rfl (.head _) rfl) rfl rfl rfl ?_
    refine WL.val (OpVal.fieldAddrB rfl) rfl rfl rfl ?_
    refine WL.val (OpVal.loadB rfl (.tail _ (.head _)) rfl) rfl rfl rfl ?_
    refine WL.val (OpVal.cast (OpVal.opv rfl) (congrArg Value.bool (decide_eq_true (by omega)))) rfl rfl rfl ?_
    refine WL.val (OpVal.opv rfl) rfl rfl rfl ?_
    refine WL.val (OpVal.opv rfl) rfl rfl rfl ?_
    refine WL.val (OpVal.opv rfl) rfl rfl rfl ?_
    refine WL.val (OpVal.eqT rfl rfl) rfl rfl rfl ?_
    refine WL.val (OpVal.opv rfl) rfl rfl rfl ?_
    refine WL.val (OpVal.opv rfl) rfl rfl rfl ?_
    refine WL.val (OpVal.opv rfl) rfl rfl rfl ?_
    refine WL.val (OpVal.eqT rfl rfl) rfl rfl rfl ?_
    refine WL.val (OpVal.opv rfl) rfl rfl rfl ?_
    refine WL.val (OpVal.opv rfl) rfl rfl rfl ?_
    refine WL.val (OpVal.opv rfl) rfl rfl rfl ?_
    refine WL.val (OpVal.opv rfl) rfl rfl rfl ?_
    refine WL.val (OpVal.call rfl (fun m hm => kept_at (hu1.le (by repeat (first | exact hm.1 | replace hm := hm.2))) (hu2.le (by repeat (first | exact hm.1 | replace hm := hm.2))) (hFw.kept h0))) rfl rfl rfl ?_
    refine WL.val (OpVal.opv rfl) rfl rfl rfl ?_
    refine WL.val (OpVal.opv rfl) rfl rfl rfl ?_
    refine WL.val (OpVal.call rfl (fun m hm => awake_any)) rfl rfl rfl ?_
    refine WL.val (OpVal.opv rfl) rfl rfl rfl ?_
    refine WL.val (OpVal.opv rfl) rfl rfl rfl ?_
    refine WL.nil ?_
    refine Kseq.go ?_
    refine W.ret ?_; skip; refine ⟨.inl rfl, [_], h, ⟨.tmp rfl, trivial⟩, (by repeat (first | exact .head _ | refine .tail _ ?_)), ?_⟩
    rfl
  · rw [(askE_valid hVx hEx).1]
    skip
    refine W.region ?_
    refine WL.val (OpVal.opv rfl) rfl rfl rfl ?_
    refine WL.val (OpVal.cast (OpVal.opv rfl) (congrArg (fun b => Value.bool (!b)) (decide_eq_false (by decide)))) rfl rfl rfl ?_
    refine WL.nil ?_
    refine Kseq.go ?_
    refine W.condT rfl rfl ?_
    by_cases hE : askE t = 0
    · rw [hE]
      refine W.seq ?_
      refine W.region ?_
      refine WL.val (OpVal.opv rfl) rfl rfl rfl ?_
      refine WL.val (OpVal.eqT rfl rfl) rfl rfl rfl ?_
      refine WL.val (OpVal.opv rfl) rfl rfl rfl ?_
      refine WL.val (OpVal.opv rfl) rfl rfl rfl ?_
      refine WL.val (OpVal.eqT rfl rfl) rfl rfl rfl ?_
      refine WL.val (OpVal.opv rfl) rfl rfl rfl ?_
      refine WL.pass rfl rfl rfl ?_
      refine WL.pass rfl rfl rfl ?_
      refine WL.pass rfl rfl rfl ?_
      refine WL.val (OpVal.opv rfl) rfl rfl rfl ?_
      refine WL.val (OpVal.opv rfl) rfl rfl rfl ?_
      refine WL.val (OpVal.opv rfl) rfl rfl rfl ?_
      refine WL.val (OpVal.call rfl (fun m hm => awake_any)) rfl rfl rfl ?_
      refine WL.val (OpVal.opv rfl) rfl rfl rfl ?_
      refine WL.val (OpVal.opv rfl) rfl rfl rfl ?_
      refine WL.nil ?_
      refine Kseq.go ?_
      refine W.ret ?_; refine Kseq.ret ?_; refine ⟨.inl rfl, [_], h, ⟨.tmp rfl, trivial⟩, (by repeat (first | exact .head _ | refine .tail _ ?_)), ?_⟩
      rfl
    · rw [(askE_valid hVa hE).1]
      refine W.seq ?_
      refine W.region ?_
      refine WL.val (OpVal.opv rfl) rfl rfl rfl ?_
      refine WL.val (OpVal.eqT rfl rfl) rfl rfl rfl ?_
      refine WL.val (OpVal.opv rfl) rfl rfl rfl ?_
      refine WL.val (OpVal.opv rfl) rfl rfl rfl ?_
      refine WL.val (OpVal.eqF rfl rfl (by decide)) rfl rfl rfl ?_
      refine WL.val (OpVal.opv rfl) rfl rfl rfl ?_
      refine WL.val (OpVal.opv rfl) rfl rfl rfl ?_
      refine WL.val (OpVal.opv rfl) rfl rfl rfl ?_
      refine WL.val (OpVal.eqT rfl rfl) rfl rfl rfl ?_
      refine WL.val (OpVal.opv rfl) rfl rfl rfl ?_
      refine WL.val (OpVal.opv rfl) rfl rfl rfl ?_
      refine WL.val (OpVal.opv rfl) rfl rfl rfl ?_
      refine WL.val (OpVal.call rfl (fun m hm => awake_any)) rfl rfl rfl ?_
      refine WL.val (OpVal.opv rfl) rfl rfl rfl ?_
      refine WL.val (OpVal.opv rfl) rfl rfl rfl ?_
      refine WL.nil ?_
      refine Kseq.go ?_
      refine W.ret ?_; refine Kseq.ret ?_; refine ⟨.inl rfl, [_], h, ⟨.tmp rfl, trivial⟩, (by repeat (first | exact .head _ | refine .tail _ ?_)), ?_⟩
      rfl
end Go.Proofs.Ytgolpbkapphciaa
