/- The statement ErrandWay: its contract. -/
import Derived.Test.YtdjkokpbeaapoaaGreatT95
import Derived.Test.YtdjkokpbeaapoaaGreatT99
namespace Go.Proofs.YtdjkokpbeaapoaaGreat
open Go Go.Eng Go.RowKit

theorem IsArr.empty (m : Mem) (k : Nat) (a : Option Addr) (cap : Nat) (hc : cap ≤ maxLen) (f : Nat → Nat → Value) : IsArr m k (.slice a 0 cap) 0 f := ⟨a, cap, rfl, Nat.zero_le _, hc, fun i j hi => absurd hi (Nat.not_lt_zero _), fun h => absurd h (Nat.lt_irrefl _)⟩
/-- The first ranges turned. -/
def mapTo (rs : List Rg) (g : Rg → Rg) (k : Nat) : List Rg := (rs.take k).map g ++ rs.drop k
theorem mapTo_zero (rs : List Rg) (g : Rg → Rg) : mapTo rs g 0 = rs := rfl
theorem mapTo_len (rs : List Rg) (g : Rg → Rg) (k : Nat) : (mapTo rs g k).length = rs.length := by simp [mapTo]; omega
theorem mapTo_all (rs : List Rg) (g : Rg → Rg) : mapTo rs g rs.length = rs.map g := by simp [mapTo]
theorem mapTo_succ {rs : List Rg} {g : Rg → Rg} {k : Nat} (h : k < rs.length) : (mapTo rs g k).set k (g (rs.getD k default)) = mapTo rs g (k + 1) := by
  unfold mapTo
  have hl : ((rs.take k).map g).length = k := by simp; omega
  rw [List.set_append_right _ _ (by omega), hl, Nat.sub_self, List.drop_eq_getElem_cons h, List.set_cons_zero, take_snoc h, List.map_append, List.append_assoc]
  rfl
/-- Is a woman From or To of one of the first moves? -/
def hitW (ms : List Move) (x : Int) (k : Nat) : Bool := ex k fun j => decide (x = (ms.getD j default).fro) || decide (x = (ms.getD j default).to)
theorem hitW_succ (ms : List Move) (x : Int) (k : Nat) : hitW ms x (k + 1) = (hitW ms x k || (decide (x = (ms.getD k default).fro) || decide (x = (ms.getD k default).to))) := ex_succ ..
theorem hitW_yes {ms : List Move} {x : Int} (h : ∃ m ∈ ms, x = m.fro ∨ x = m.to) : hitW ms x ms.length = true := by
  obtain ⟨m, hm, e⟩ := h
  obtain ⟨j, hj, rfl⟩ := List.mem_iff_getElem.1 hm
  refine ex_iff.2 ⟨j, hj, ?_⟩
  rw [List.getD_eq_getElem?_getD, List.getElem?_eq_getElem hj, Option.getD_some]
  rcases e with e | e
  · rw [decide_eq_true e]; rfl
  · rw [decide_eq_true e, Bool.or_true]
theorem rgs_set_size {rs : List Rg} : (∀ u ∈ rs.map rv2, u.cells.size = 2) ∧ ∀ u ∈ rs.map rv2, ∀ x ∈ u.cells.toList, x.oneCell' = true :=
  ⟨fun u hu => by obtain ⟨w, _, rfl⟩ := List.mem_map.1 hu; rfl, fun u hu => by obtain ⟨w, _, rfl⟩ := List.mem_map.1 hu; simp [rv2, Value.cells, Value.oneCell']⟩
set_option maxHeartbeats 1600000 in
/-- ErrandWay -/
theorem errandWay_any {h : Mem} {v : Value} {r : Errand} (hv : IsErrand h v r) : FnV Tryz.prog 6 #[v] h (.bool true) := by
  have hv' := hv
  obtain ⟨wov, pv, hov, sv, f, rfl, hW, hP, hM, hH, hS⟩ := hv
  have hT := IsErrand.tableOf hW hP hM
  obtain ⟨hhA, hhC, rfl⟩ := IsArr.form hH
  obtain ⟨ssA, ssC, rfl⟩ := IsArr.form hS
  refine FnR.val ?_
  refine FnR.of_W (n := 143) Tryz.func6 rfl rfl (Nat.le_of_ble_eq_true rfl) fun c hr hD hF => ?_
  refine W.seq ?_
  refine W.region ?_
  refine WL.box rfl rfl rfl rfl (fun b1 => ?_)
  refine WL.val (OpVal.opv rfl) rfl rfl rfl ?_
  refine WL.nil ?_
  refine Kseq.go (W.seq (W.seq ?_))
  refine W.freezeBox (.head _) (fun b hb => (hF b hb).elim) fun m1 h1 => ?_
  skip
  refine W.region ?_
  refine WL.val (OpVal.loadPW rfl (by assumption) (by repeat (first | exact .head _ | refine .tail _ ?_)) (by rfl)) rfl rfl rfl ?_
  refine WL.val (OpVal.call rfl (fun m hm => ready11_any (hv'.le (by repeat (first | exact hm.1 | replace hm := hm.2))))) rfl rfl rfl ?_
  refine WL.val (OpVal.opv rfl) rfl rfl rfl ?_
  refine WL.nil ?_
  refine Kseq.go ?_
  refine W.cond rfl rfl (fun he => ?_) (fun hne => ?_)
  · refine W.seq ?_
    refine W.region ?_
    refine WL.val (OpVal.call rfl (fun m hm => awake11_any)) rfl rfl rfl ?_
    refine WL.val (OpVal.opv rfl) rfl rfl rfl ?_
    refine WL.nil ?_
    refine Kseq.go ?_
    refine W.ret ?_; refine Kseq.ret ?_; refine ⟨.inl rfl, [_], h, ⟨.tmp rfl, trivial⟩, (by repeat (first | exact .head _ | refine .tail _ ?_)), ?_⟩
    rfl
  obtain ⟨hth, hV⟩ := readyE_iff.1 (show readyE r = true by simpa using hne)
  have hs : SmE r := ThinE.sm hth
  have hVt := hV.table
  have hat := ask_truths hVt
  have h0a : ask r.table ≠ [] := by rw [hat]; exact hV.some
  have hask : askE r.table = 0 := by unfold askE; rw [if_pos (fault_zero.2 hVt), if_neg h0a]
  have hhl := hV.homeLen
  have hst := hV.streetsLen
  have hsl := streets_le hV.women
  have hn4 := hV.women
  have hHc := IsRgs.toCells hH
  have hSc := IsRgs.toCells hS
  refine W.skip (Kseq.go (W.seq ?_))
  skip
  refine W.region ?_
  refine WL.val (OpVal.loadPW rfl h1 (by repeat (first | exact .head _ | refine .tail _ ?_)) rfl) rfl rfl rfl ?_
  refine WL.alloc rfl rfl rfl (fun b3 => ?_)
  (refine WL.store [_, _, _, _, _, _, _] rfl (.head _) rfl rfl rfl (Nat.le_of_ble_eq_true rfl) (by simp [Value.cells]; exact ⟨IsArr.one hW, IsArr.one hP, rfl, rfl, rfl, rfl, rfl⟩) rfl ?_)
  refine WL.nil ?_
  refine Kseq.go (W.seq ?_)
  generalize hovE : Value.slice hhA r.home.length hhC = hov at *
  generalize hsvE : Value.slice ssA r.streets.length ssC = sv at *
  by_cases hn0 : r.n = 0
  · have hl0 : r.home.length = 0 := by omega
    have hl1 : r.streets.length = 0 := by rw [hst, hn0]
    have hh0 : r.home = [] := List.eq_nil_of_length_eq_zero hl0
    have hs0 : r.streets = [] := List.eq_nil_of_length_eq_zero hl1
    subst hovE hsvE
    skip
    skip
    refine W.draw 9 (by kernel_rfl) (by kernel_rfl) (by kernel_rfl) rfl ?_
    refine DJ.abs (A := fun m r => ∃ b, r = .slice (some ⟨b, 0, none⟩) 0 0) [] (OpAbs.mono (OpAbs.lit (vs := []) [] rfl (Nat.le_of_ble_eq_true rfl) rfl rfl (by simp) (Nat.le_of_ble_eq_true rfl) rfl (by simp)) (fun m r hr => hr.2)) rfl rfl rfl rfl ?_
    refine DJ.val [] (OpVal.fieldAddrB rfl) rfl rfl rfl rfl ?_
    refine DJ.val [] (OpVal.loadP rfl h1 (by repeat (first | exact .head _ | refine .tail _ ?_)) rfl) rfl rfl rfl rfl ?_
    refine DJ.abs (A := fun m r => ∃ b, r = .slice (some ⟨b, 0, none⟩) 0 0) [(20, fun m r => ∃ b, r = .slice (some ⟨b, 0, none⟩) 0 0)] (fun m20 v20 h20 => by obtain ⟨bA, rfl⟩ := h20; exact OpAbs.ofVal (OpVal.append00 rfl rfl hl0) (by repeat (first | exact .head _ | refine .tail _ ?_)) ⟨bA, rfl⟩) rfl rfl rfl rfl ?_ (hG := ⟨(by repeat (first | exact .head _ | refine .tail _ ?_)), rfl, trivial⟩)
    refine DJ.abs (A := fun m r => ∃ b, r = .slice (some ⟨b, 0, none⟩) 0 0) [] (OpAbs.mono (OpAbs.lit (vs := []) [] rfl (Nat.le_of_ble_eq_true rfl) rfl rfl (by simp) (Nat.le_of_ble_eq_true rfl) rfl (by simp)) (fun m r hr => hr.2)) rfl rfl rfl rfl ?_
    refine DJ.val [] (OpVal.fieldAddrB rfl) rfl rfl rfl rfl ?_
    refine DJ.val [] (OpVal.loadP rfl h1 (by repeat (first | exact .head _ | refine .tail _ ?_)) rfl) rfl rfl rfl rfl ?_
    refine DJ.abs (A := fun m r => ∃ b, r = .slice (some ⟨b, 0, none⟩) 0 0) [(24, fun m r => ∃ b, r = .slice (some ⟨b, 0, none⟩) 0 0)] (fun m24 v24 h24 => by obtain ⟨bA, rfl⟩ := h24; exact OpAbs.ofVal (OpVal.append00 rfl rfl hl1) (by repeat (first | exact .head _ | refine .tail _ ?_)) ⟨bA, rfl⟩) rfl rfl rfl rfl ?_ (hG := ⟨(by repeat (first | exact .head _ | refine .tail _ ?_)), rfl, trivial⟩)
    refine DJ.val [] (OpVal.fieldAddrB rfl) rfl rfl rfl rfl ?_
    refine DJ.nil ?_
    rintro m27 v27 h27
    rintro m24 v24 h24
    rintro m23 v23 h23
    rintro m20 v20 h20
    (obtain ⟨hA, rfl⟩ := h23; obtain ⟨sA, rfl⟩ := h27; refine WL.store [_, _, _, _, _, _, _] rfl (.head _) rfl rfl rfl (Nat.le_of_ble_eq_true rfl) (by simp [Value.cells, Value.oneCell']) rfl ?_)
    refine WL.val (OpVal.fieldAddrB rfl) rfl rfl rfl ?_
    (refine WL.store [_, _, _, _, _, _, _] rfl (.head _) rfl rfl rfl (Nat.le_of_ble_eq_true rfl) (by simp [Value.cells, Value.oneCell']) rfl ?_)
    refine WL.nil ?_
    refine Kseq.go (W.seq (W.seq ?_))
    skip
    refine W.region ?_
    refine WL.val (OpVal.opv rfl) rfl rfl rfl ?_
    refine WL.nil ?_
    refine Kseq.go (W.block ?_)
    refine W.loop (σ := Unit) (fun _ => [(1, .pointer (some ⟨b1, 0, none⟩)), (3, .pointer (some ⟨b3, 0, none⟩)), (4, vi 0)]) (fun _ => [m1, h]) (fun _ => [.blk b3 [wov, pv, .int .i64 r.table.wrong, .slice (some ⟨hA, 0, none⟩) 0 0, .slice (some ⟨sA, 0, none⟩) 0 0, .int .i64 r.start, .int .i64 r.calls].toArray 28]) (fun _ => True) (fun _ => 0) () ⟨rfl, rfl, rfl, trivial⟩ (by simp) (.refl _) trivial ?_
    intro _ _
    refine W.seq (W.seq ?_)
    refine W.region ?_
    refine WL.val (OpVal.opv rfl) rfl rfl rfl ?_
    refine WL.val (OpVal.fieldAddrB rfl) rfl rfl rfl ?_
    refine WL.val (OpVal.loadB rfl (.head _) rfl) rfl rfl rfl ?_
    refine WL.val (OpVal.lenNil rfl) rfl rfl rfl ?_
    refine WL.val (OpVal.opv rfl) rfl rfl rfl ?_
    refine WL.nil ?_
    refine Kseq.go ?_
    refine W.condD rfl rfl (fun hlt => absurd hlt (by decide)) (fun _ => ?_)
    refine W.exit (Kseq.exit (Kloop.exit (Kblock.here (Kseq.go (W.seq (W.seq ?_))))))
    skip
    refine W.region ?_
    refine WL.val (OpVal.opv rfl) rfl rfl rfl ?_
    refine WL.nil ?_
    refine Kseq.go (W.block ?_)
    refine W.loop (σ := Unit) (fun _ => [(1, .pointer (some ⟨b1, 0, none⟩)), (3, .pointer (some ⟨b3, 0, none⟩)), (5, vi 0)]) (fun _ => [m1, h]) (fun _ => [.blk b3 [wov, pv, .int .i64 r.table.wrong, .slice (some ⟨hA, 0, none⟩) 0 0, .slice (some ⟨sA, 0, none⟩) 0 0, .int .i64 r.start, .int .i64 r.calls].toArray 28]) (fun _ => True) (fun _ => 0) () ⟨rfl, rfl, rfl, trivial⟩ (by simp) (.refl _) trivial ?_
    intro _ _
    refine W.seq (W.seq ?_)
    refine W.region ?_
    refine WL.val (OpVal.opv rfl) rfl rfl rfl ?_
    refine WL.val (OpVal.fieldAddrB rfl) rfl rfl rfl ?_
    refine WL.val (OpVal.loadB rfl (.head _) rfl) rfl rfl rfl ?_
    refine WL.val (OpVal.lenNil rfl) rfl rfl rfl ?_
    refine WL.val (OpVal.opv rfl) rfl rfl rfl ?_
    refine WL.nil ?_
    refine Kseq.go ?_
    refine W.condD rfl rfl (fun hlt => absurd hlt (by decide)) (fun _ => ?_)
    refine W.exit (Kseq.exit (Kloop.exit (Kblock.here (Kseq.go (W.seq ?_)))))
    refine W.freezeBox (.head _) (fun b hb => (hF b hb).elim) fun m3 h3' => ?_
    refine W.join fun mj hj => ?_
    have hjh : MLe h mj := hj h (by simp)
    have h3 := h3'.le (hj m3 (by simp))
    have hvx : IsErrand mj (.agg #[wov, pv, .int .i64 r.table.wrong, .slice (some ⟨hA, 0, none⟩) 0 0, .slice (some ⟨sA, 0, none⟩) 0 0, .int .i64 r.start, .int .i64 r.calls]) (wayX r) := by
      refine ⟨wov, pv, _, _, f, rfl, hW.le hjh, hP.le hjh, hM.le hjh, ?_, ?_⟩
      · unfold IsRgs wayX; rw [hh0]; exact IsArr.empty _ _ _ _ (by unfold maxLen; omega) _
      · unfold IsRgs wayX; rw [hs0]; exact IsArr.empty _ _ _ _ (by unfold maxLen; omega) _
    have hsx : SmE (wayX r) := ⟨hs.table, by simp [wayX]; exact hs.home, by simp [wayX]; exact hs.streets⟩
    have hVx := wayX_valid hV
    have f1 := faultT_zero.2 hVx
    have hTj := hT.le hjh
    have hbe2 : bestErr (wayX r) = 0 ∨ bestErr (wayX r) = 10 := by unfold bestErr; rw [if_neg (by omega)]; split <;> simp
    have hbv : bestV (wayX r) = bestE (wayX r) := bestP_eq (walks_pairwise _ _) (Nat.le_refl _)
    have hwho : ∀ i, i < (if bestErr (wayX r) = 0 then foundW (bestV (wayX r)) else []).length → ∃ m ∈ movesR r, (if bestErr (wayX r) = 0 then foundW (bestV (wayX r)) else []).getD i 0 = m.fro ∨ (if bestErr (wayX r) = 0 then foundW (bestV (wayX r)) else []).getD i 0 = m.to := fun i hi => by
      split at hi
      · rename_i e
        rw [if_pos e]
        rw [hbv] at hi ⊢
        cases hb : bestE (wayX r) with
        | none => rw [hb] at hi; exact absurd hi (by simp [foundW])
        | some w =>
          rw [hb] at hi
          exact way_who hV hb hi
      · exact absurd hi (by simp)
    skip
    skip
    refine W.region ?_
    refine WL.val (OpVal.loadPW rfl h3 (by repeat (first | exact .head _ | refine .tail _ ?_)) rfl) rfl rfl rfl ?_
    refine WL.abs (OpAbs.call rfl (fun m hm => errand_any (hvx.le (by repeat (first | exact hm.1 | replace hm := hm.2))) hsx)) rfl rfl rfl ?_
    rintro m81 v81 h81
    refine WL.abs (OpAbs.call rfl (fun m hm => bestT_any (h81.le (by repeat (first | exact hm.1 | replace hm := hm.2))) hsx)) rfl rfl rfl ?_
    rintro m82 _ ⟨cv, rfl, hcv⟩
    generalize (if bestErr (wayX r) = 0 then foundW (bestV (wayX r)) else []) = w at hcv hwho
    generalize (if bestErr (wayX r) = 0 then (foundC (wayX r) (bestV (wayX r))).2 else 0) = bn
    refine WL.val (OpVal.opv rfl) rfl rfl rfl ?_
    refine WL.val (OpVal.opv rfl) rfl rfl rfl ?_
    refine WL.val (OpVal.opv rfl) rfl rfl rfl ?_
    refine WL.val (OpVal.opv rfl) rfl rfl rfl ?_
    refine WL.val (OpVal.opv rfl) rfl rfl rfl ?_
    refine WL.val (OpVal.opv rfl) rfl rfl rfl ?_
    refine WL.val (OpVal.opv rfl) rfl rfl rfl ?_
    refine WL.nil ?_
    refine Kseq.go (W.seq ?_)
    skip
    refine W.region ?_
    refine WL.val (OpVal.fieldAddrB rfl) rfl rfl rfl ?_
    refine WL.val (OpVal.loadPA (vs := [wov, pv, vi r.table.wrong]) rfl h3 (by repeat (first | exact .head _ | refine .tail _ ?_)) rfl rfl) rfl rfl rfl ?_
    refine WL.abs (OpAbs.call rfl (fun m hm => table_any (hTj.le (by repeat (first | exact hm.1 | replace hm := hm.2))) hs.table)) rfl rfl rfl ?_
    rintro m89 v89 h89
    refine WL.abs (OpAbs.call rfl (fun m hm => movesT_any (h89.le (by repeat (first | exact hm.1 | replace hm := hm.2))) hs.table)) rfl rfl rfl ?_
    rintro m90 _ ⟨mv, rfl, hmv⟩
    refine WL.val (OpVal.opv rfl) rfl rfl rfl ?_
    refine WL.val (OpVal.opv rfl) rfl rfl rfl ?_
    refine WL.val (OpVal.opv rfl) rfl rfl rfl ?_
    refine WL.val (OpVal.opv rfl) rfl rfl rfl ?_
    refine WL.val (OpVal.opv rfl) rfl rfl rfl ?_
    refine WL.nil ?_
    refine Kseq.go (W.seq (W.seq ?_))
    rw [if_pos hask, hat] at hmv
    replace hmv : IsMoves m90 mv (movesR r) := hmv
    rw [hask]
    have h7 := (movesR_ok hV).len
    generalize movesR r = ms at *
    skip
    refine W.toS [(7, cv), (10, mv), (102, .bool false)] ?_ ?_
    · rcases hbe2 with e | e
      · rw [e]
        skip
        refine W.region ?_
        refine WL.val (OpVal.opv rfl) rfl rfl rfl ?_
        refine WL.val (OpVal.cast (OpVal.opv rfl) (show _ = Value.bool false from rfl)) rfl rfl rfl ?_
        refine WL.val (OpVal.opv rfl) rfl rfl rfl ?_
        refine WL.val (OpVal.opv rfl) rfl rfl rfl ?_
        refine WL.val (OpVal.cast (OpVal.opv rfl) (show _ = Value.bool false from rfl)) rfl rfl rfl ?_
        refine WL.val (OpVal.opv rfl) rfl rfl rfl ?_
        refine WL.pass rfl rfl rfl ?_
        refine WL.pass rfl rfl rfl ?_
        refine WL.val (OpVal.opv rfl) rfl rfl rfl ?_
        refine WL.val (OpVal.opv rfl) rfl rfl rfl ?_
        refine WL.nil ?_
        skip
        exact Keff.intro ⟨rfl, rfl, rfl, trivial⟩ (by simp) (by repeat (first | exact List.Sublist.refl _ | refine List.Sublist.cons _ ?_ | refine List.Sublist.cons_cons _ ?_))
      · rw [e]
        skip
        refine W.region ?_
        refine WL.val (OpVal.opv rfl) rfl rfl rfl ?_
        refine WL.val (OpVal.cast (OpVal.opv rfl) (show _ = Value.bool false from rfl)) rfl rfl rfl ?_
        refine WL.val (OpVal.opv rfl) rfl rfl rfl ?_
        refine WL.val (OpVal.opv rfl) rfl rfl rfl ?_
        refine WL.val (OpVal.cast (OpVal.opv rfl) (show _ = Value.bool true from rfl)) rfl rfl rfl ?_
        refine WL.val (OpVal.opv rfl) rfl rfl rfl ?_
        refine WL.val (OpVal.opv rfl) rfl rfl rfl ?_
        refine WL.val (OpVal.cast (OpVal.opv rfl) (show _ = Value.bool false from rfl)) rfl rfl rfl ?_
        refine WL.val (OpVal.opv rfl) rfl rfl rfl ?_
        refine WL.val (OpVal.opv rfl) rfl rfl rfl ?_
        refine WL.nil ?_
        skip
        exact Keff.intro ⟨rfl, rfl, rfl, trivial⟩ (by simp) (by repeat (first | exact List.Sublist.refl _ | refine List.Sublist.cons _ ?_ | refine List.Sublist.cons_cons _ ?_))
    refine Kseq.go ?_
    refine W.cond rfl rfl (fun he => absurd he (by simp)) (fun _ => ?_)
    refine W.skip (Kseq.go (W.seq (W.seq ?_)))
    skip
    refine W.region ?_
    refine WL.val (OpVal.opv rfl) rfl rfl rfl ?_
    refine WL.nil ?_
    refine Kseq.go (W.block ?_)
    have hwb := hcv.bd
    refine W.loopC (σ := Nat) (fun i => [(7, cv), (10, mv), (12, .int .i64 (i : Int))]) (fun i => i ≤ w.length) (fun i => w.length - i) 0 ⟨rfl, rfl, rfl, trivial⟩ (Nat.zero_le _) ?_
    intro i hi
    refine W.seq (W.seq ?_)
    refine W.region ?_
    refine WL.val (OpVal.opv rfl) rfl rfl rfl ?_
    refine WL.val (OpVal.opv rfl) rfl rfl rfl ?_
    refine WL.val (OpVal.len rfl hcv) rfl rfl rfl ?_
    refine WL.val (OpVal.opv rfl) rfl rfl rfl ?_
    refine WL.nil ?_
    refine Kseq.go ?_
    refine W.condD rfl rfl (fun hlt => ?_) (fun hge => ?_)
    · have hil : i < w.length := by omega
      refine W.skip (Kseq.go (W.seq (W.block (W.seq ?_))))
      refine W.region ?_
      refine WL.val (OpVal.opv rfl) rfl rfl rfl ?_
      refine WL.nil ?_
      refine Kseq.go (W.seq (W.seq ?_))
      skip
      refine W.region ?_
      refine WL.val (OpVal.opv rfl) rfl rfl rfl ?_
      refine WL.nil ?_
      refine Kseq.go (W.block ?_)
      refine W.loopC (σ := Nat) (fun k => [(7, cv), (10, mv), (12, .int .i64 (i : Int)), (13, .bool (hitW ms (w.getD i 0) k)), (14, .int .i64 (k : Int))]) (fun k => k ≤ ms.length) (fun k => ms.length - k) 0 ⟨rfl, rfl, rfl, rfl, rfl, trivial⟩ (Nat.zero_le _) ?_
      intro k hk
      refine W.seq (W.seq ?_)
      refine W.region ?_
      refine WL.val (OpVal.opv rfl) rfl rfl rfl ?_
      refine WL.val (OpVal.opv rfl) rfl rfl rfl ?_
      refine WL.val (OpVal.len rfl hmv) rfl rfl rfl ?_
      refine WL.val (OpVal.opv rfl) rfl rfl rfl ?_
      refine WL.nil ?_
      refine Kseq.go ?_
      refine W.condD rfl rfl (fun hlt2 => ?_) (fun hge2 => ?_)
      · have hkl : k < ms.length := by omega
        have hsu := hitW_succ ms (w.getD i 0) k
        refine W.skip (Kseq.go (W.seq (W.block ?_)))
        refine W.toS [(7, cv), (10, mv), (12, .int .i64 (i : Int)), (13, .bool (hitW ms (w.getD i 0) (k + 1))), (14, .int .i64 (k : Int))] ?_ ?_
        · skip
          refine W.draw 23 (by kernel_rfl) (by kernel_rfl) (by kernel_rfl) rfl ?_
          refine DJ.val [] (OpVal.opv rfl) rfl rfl rfl rfl ?_
          refine DJ.val [] (OpVal.opv rfl) rfl rfl rfl rfl ?_
          refine DJ.splitB rfl rfl (fun g116 => ?_) (fun g116 => ?_)
          · refine DJ.pass rfl rfl rfl rfl ?_
            refine DJ.pass rfl rfl rfl rfl ?_
            refine DJ.pass rfl rfl rfl rfl ?_
            refine DJ.pass rfl rfl rfl rfl ?_
            refine DJ.pass rfl rfl rfl rfl ?_
            refine DJ.pass rfl rfl rfl rfl ?_
            refine DJ.pass rfl rfl rfl rfl ?_
            refine DJ.pass rfl rfl rfl rfl ?_
            refine DJ.pass rfl rfl rfl rfl ?_
            refine DJ.pass rfl rfl rfl rfl ?_
            refine DJ.val [] (OpVal.opv rfl) rfl rfl rfl rfl ?_
            refine DJ.val [] (OpVal.opv rfl) rfl rfl rfl rfl ?_
            refine DJ.pass rfl rfl rfl rfl ?_
            refine DJ.pass rfl rfl rfl rfl ?_
            refine DJ.pass rfl rfl rfl rfl ?_
            refine DJ.pass rfl rfl rfl rfl ?_
            refine DJ.pass rfl rfl rfl rfl ?_
            refine DJ.pass rfl rfl rfl rfl ?_
            refine DJ.pass rfl rfl rfl rfl ?_
            refine DJ.pass rfl rfl rfl rfl ?_
            refine DJ.pass rfl rfl rfl rfl ?_
            refine DJ.nil ?_
            refine WL.pass rfl rfl rfl ?_
            refine WL.val (OpVal.opv rfl) rfl rfl rfl ?_
            refine WL.val (OpVal.opv rfl) rfl rfl rfl ?_
            refine WL.nil ?_
            skip
            exact Keff.intro ⟨rfl, rfl, rfl, congrArg (fun b => some (Value.bool b)) (by rw [hsu]; simp_all), rfl, trivial⟩ (by simp) (by repeat (first | exact List.Sublist.refl _ | refine List.Sublist.cons _ ?_ | refine List.Sublist.cons_cons _ ?_))
          · refine DJ.val [] (OpVal.opv rfl) rfl rfl rfl rfl ?_
            refine DJ.val [] (OpVal.opv rfl) rfl rfl rfl rfl ?_
            refine DJ.val [] (OpVal.indexAddrN rfl rfl hcv hil) rfl rfl rfl rfl ?_
            refine DJ.val [] (OpVal.loadE rfl hcv (by repeat (first | exact .head _ | refine .tail _ ?_)) hil (by omega)) rfl rfl rfl rfl ?_
            refine DJ.val [] (OpVal.opv rfl) rfl rfl rfl rfl ?_
            refine DJ.val [] (OpVal.opv rfl) rfl rfl rfl rfl ?_
            refine DJ.val [] (OpVal.indexAddrN rfl rfl hmv hkl) rfl rfl rfl rfl ?_
            refine DJ.val [] (OpVal.fieldAddrN rfl hmv hkl) rfl rfl rfl rfl ?_
            refine DJ.val [] (OpVal.loadE rfl hmv (by repeat (first | exact .head _ | refine .tail _ ?_)) hkl (by omega)) rfl rfl rfl rfl ?_
            refine DJ.val [] (OpVal.opv rfl) rfl rfl rfl rfl ?_
            refine DJ.val [] (OpVal.opv rfl) rfl rfl rfl rfl ?_
            refine DJ.val [] (OpVal.opv rfl) rfl rfl rfl rfl ?_
            refine DJ.split rfl rfl (fun g128 => ?_) (fun g128 => ?_)
            · refine DJ.pass rfl rfl rfl rfl ?_
              refine DJ.pass rfl rfl rfl rfl ?_
              refine DJ.pass rfl rfl rfl rfl ?_
              refine DJ.pass rfl rfl rfl rfl ?_
              refine DJ.pass rfl rfl rfl rfl ?_
              refine DJ.pass rfl rfl rfl rfl ?_
              refine DJ.pass rfl rfl rfl rfl ?_
              refine DJ.pass rfl rfl rfl rfl ?_
              refine DJ.pass rfl rfl rfl rfl ?_
              refine DJ.nil ?_
              refine WL.pass rfl rfl rfl ?_
              refine WL.val (OpVal.opv rfl) rfl rfl rfl ?_
              refine WL.val (OpVal.opv rfl) rfl rfl rfl ?_
              refine WL.nil ?_
              skip
              exact Keff.intro ⟨rfl, rfl, rfl, congrArg (fun b => some (Value.bool b)) (by rw [hsu]; simp_all), rfl, trivial⟩ (by simp) (by repeat (first | exact List.Sublist.refl _ | refine List.Sublist.cons _ ?_ | refine List.Sublist.cons_cons _ ?_))
            · refine DJ.val [] (OpVal.opv rfl) rfl rfl rfl rfl ?_
              refine DJ.val [] (OpVal.opv rfl) rfl rfl rfl rfl ?_
              refine DJ.val [] (OpVal.indexAddrN rfl rfl hcv hil) rfl rfl rfl rfl ?_
              refine DJ.val [] (OpVal.loadE rfl hcv (by repeat (first | exact .head _ | refine .tail _ ?_)) hil (by omega)) rfl rfl rfl rfl ?_
              refine DJ.val [] (OpVal.opv rfl) rfl rfl rfl rfl ?_
              refine DJ.val [] (OpVal.opv rfl) rfl rfl rfl rfl ?_
              refine DJ.val [] (OpVal.indexAddrN rfl rfl hmv hkl) rfl rfl rfl rfl ?_
              refine DJ.val [] (OpVal.fieldAddrN rfl hmv hkl) rfl rfl rfl rfl ?_
              refine DJ.val [] (OpVal.loadE rfl hmv (by repeat (first | exact .head _ | refine .tail _ ?_)) hkl (by omega)) rfl rfl rfl rfl ?_
              refine DJ.nil ?_
              refine WL.val (OpVal.opv rfl) rfl rfl rfl ?_
              refine WL.val (OpVal.opv rfl) rfl rfl rfl ?_
              refine WL.val (OpVal.opv rfl) rfl rfl rfl ?_
              refine WL.nil ?_
              skip
              exact Keff.intro ⟨rfl, rfl, rfl, congrArg (fun b => some (Value.bool b)) (by rw [hsu]; simp_all), rfl, trivial⟩ (by simp) (by repeat (first | exact List.Sublist.refl _ | refine List.Sublist.cons _ ?_ | refine List.Sublist.cons_cons _ ?_))
        refine Kblock.normal (Kseq.go ?_)
        skip
        refine W.region ?_
        refine WL.val (OpVal.opv rfl) rfl rfl rfl ?_
        refine WL.val (OpVal.incr rfl (by omega)) rfl rfl rfl ?_
        refine WL.val (OpVal.opv rfl) rfl rfl rfl ?_
        refine WL.nil ?_
        skip
        exact Kloop.nextC (k + 1) (by omega) (by omega) ⟨rfl, rfl, rfl, rfl, rfl, trivial⟩ (by simp) (by repeat (first | exact List.Sublist.refl _ | refine List.Sublist.cons _ ?_ | refine List.Sublist.cons_cons _ ?_))
      have hkk : k = ms.length := by omega
      subst hkk
      refine W.exit (Kseq.exit (Kloop.exit (Kblock.here (Kseq.go (W.seq ?_)))))
      skip
      refine W.region ?_
      refine WL.val (OpVal.opv rfl) rfl rfl rfl ?_
      refine WL.val (OpVal.cast (OpVal.opv rfl) (congrArg Value.bool (show (!hitW ms (w.getD i 0) ms.length) = false by rw [hitW_yes (hwho i hil)]; rfl))) rfl rfl rfl ?_
      refine WL.nil ?_
      refine Kseq.go ?_
      refine W.cond rfl rfl (fun he => absurd he (by simp)) (fun _ => ?_)
      refine W.skip (Kblock.normal (Kseq.go ?_))
      refine W.region ?_
      refine WL.val (OpVal.opv rfl) rfl rfl rfl ?_
      refine WL.val (OpVal.incr rfl (by omega)) rfl rfl rfl ?_
      refine WL.val (OpVal.opv rfl) rfl rfl rfl ?_
      refine WL.nil ?_
      skip
      exact Kloop.nextC (i + 1) (by omega) (by omega) ⟨rfl, rfl, rfl, trivial⟩ (by simp) (by repeat (first | exact List.Sublist.refl _ | refine List.Sublist.cons _ ?_ | refine List.Sublist.cons_cons _ ?_))
    refine W.exit (Kseq.exit (Kloop.exit (Kblock.here (Kseq.go (W.seq ?_)))))
    skip
    refine W.region ?_
    refine WL.val (OpVal.call rfl (fun m hm => awake11_any)) rfl rfl rfl ?_
    refine WL.val (OpVal.opv rfl) rfl rfl rfl ?_
    refine WL.nil ?_
    refine Kseq.go ?_
    refine W.ret ?_; skip; refine ⟨.inl rfl, [_], h, ⟨.tmp rfl, trivial⟩, (by repeat (first | exact .head _ | refine .tail _ ?_)), ?_⟩
    rfl
  have hlh : 0 < r.home.length := by omega
  have hls : 0 < r.streets.length := by
    rw [hst]
    have h2 : 1 * 2 ≤ r.n * (r.n + 1) := Nat.mul_le_mul (by omega) (by omega)
    omega
  let l0 : List (Nat × Value) := [(1, .pointer (some ⟨b1, 0, none⟩)), (3, .pointer (some ⟨b3, 0, none⟩))]
  skip
  refine W.weaken l0 [m1, h] [.blk b3 [wov, pv, .int .i64 r.table.wrong, hov, sv, .int .i64 r.start, .int .i64 r.calls].toArray 28] (by repeat (first | exact trivial | refine ⟨rfl, ?_⟩)) (by simp) (.refl _) ?_
  skip
  refine W.drawN (γ := Ph2 (Option Addr × Nat) (Option Addr × Nat)) .a 9 [3, 7] (Ph2.sel l0 (fun g => (23, .slice g.1 r.home.length g.2) :: l0) (fun g g2 => (27, .slice g2.1 r.streets.length g2.2) :: (23, .slice g.1 r.home.length g.2) :: l0)) (Ph2.sel [.blk b3 [wov, pv, .int .i64 r.table.wrong, hov, sv, .int .i64 r.start, .int .i64 r.calls].toArray 28] (fun g => [.row 73 2 (.slice g.1 r.home.length g.2) r.home.length (flatv (r.home.map rv2)), .blk b3 [wov, pv, .int .i64 r.table.wrong, hov, sv, .int .i64 r.start, .int .i64 r.calls].toArray 28]) (fun g g2 => [.row 73 2 (.slice g2.1 r.streets.length g2.2) r.streets.length (flatv (r.streets.map rv2)), .row 73 2 (.slice g.1 r.home.length g.2) r.home.length (flatv (r.home.map rv2)), .blk b3 [wov, pv, .int .i64 r.table.wrong, hov, sv, .int .i64 r.start, .int .i64 r.calls].toArray 28])) Ph2.num (by kernel_rfl) (by kernel_rfl) (by kernel_rfl) rfl Ph2.le (Ph2.all rfl (fun _ => rfl) (fun _ _ => rfl)) rfl rfl ?_
  refine DJN.abs (A := fun m r => ∃ b, r = .slice (some ⟨b, 0, none⟩) 0 0) [] (Ph2.all (fun hg => (OpAbs.mono (OpAbs.lit (vs := []) [] rfl (Nat.le_of_ble_eq_true rfl) rfl rfl (by simp) (Nat.le_of_ble_eq_true rfl) rfl (by simp)) (fun m r hr => hr.2))) (fun x1 hg => Bool.noConfusion (show false = true from hg)) (fun x1 x2 hg => Bool.noConfusion (show false = true from hg))) (Ph2.all (fun hg => rfl) (fun x1 hg => Bool.noConfusion (show false = true from hg)) (fun x1 x2 hg => Bool.noConfusion (show false = true from hg))) rfl rfl (Ph2.all rfl (fun _ => rfl) (fun _ _ => rfl)) rfl ?_
  refine DJN.val [] (Ph2.all (fun hg => OpVal.fieldAddrB rfl) (fun x1 hg => OpVal.fieldAddrB rfl) (fun x1 x2 hg => OpVal.fieldAddrB rfl)) (Ph2.all (fun hg => rfl) (fun x1 hg => rfl) (fun x1 x2 hg => rfl)) rfl rfl (Ph2.all rfl (fun _ => rfl) (fun _ _ => rfl)) rfl ?_
  refine DJN.val [] (Ph2.all (fun hg => OpVal.loadP rfl h1 (by repeat (first | exact .head _ | refine .tail _ ?_)) rfl) (fun x1 hg => Bool.noConfusion (show false = true from hg)) (fun x1 x2 hg => Bool.noConfusion (show false = true from hg))) (Ph2.all (fun hg => rfl) (fun x1 hg => Bool.noConfusion (show false = true from hg)) (fun x1 x2 hg => Bool.noConfusion (show false = true from hg))) rfl rfl (Ph2.all rfl (fun _ => rfl) (fun _ _ => rfl)) rfl ?_
  refine DJN.eff 0 [(22, _)] ⟨rfl, trivial⟩ rfl rfl [(20, fun m r => ∃ b, r = .slice (some ⟨b, 0, none⟩) 0 0)] ⟨(by repeat (first | exact .head _ | refine .tail _ ?_)), rfl, trivial⟩ (Ph2.all (fun hg => ⟨rfl, fun M2 hM2 => ?_⟩) (fun x1 hg => absurd hg (by simp [Ph2.num])) (fun x1 x2 hg => absurd hg (by simp [Ph2.num]))) ?_
  · intro m20 v20 h20
    (obtain ⟨bA, rfl⟩ := h20; refine WL.append0 rfl rfl hHc (.tail _ (hM2 h (by simp))) (by omega) rfl (by omega) (by unfold maxLen; omega) (by omega) rfl rfl rfl ?_; intro a23 c23; exact WL.nil ⟨.b (a23, c23), rfl, Keff.intro (by repeat (first | exact trivial | refine ⟨rfl, ?_⟩)) (fun x hx => .tail _ hx) (.refl _)⟩)
  refine DJN.abs (A := fun m r => ∃ b, r = .slice (some ⟨b, 0, none⟩) 0 0) [] (Ph2.all (fun hg => (OpAbs.mono (OpAbs.lit (vs := []) [] rfl (Nat.le_of_ble_eq_true rfl) rfl rfl (by simp) (Nat.le_of_ble_eq_true rfl) rfl (by simp)) (fun m r hr => hr.2))) (fun x1 hg => (OpAbs.mono (OpAbs.lit (vs := []) [] rfl (Nat.le_of_ble_eq_true rfl) rfl rfl (by simp) (Nat.le_of_ble_eq_true rfl) rfl (by simp)) (fun m r hr => hr.2))) (fun x1 x2 hg => Bool.noConfusion (show false = true from hg))) (Ph2.all (fun hg => rfl) (fun x1 hg => rfl) (fun x1 x2 hg => Bool.noConfusion (show false = true from hg))) rfl rfl (Ph2.all rfl (fun _ => rfl) (fun _ _ => rfl)) rfl ?_
  refine DJN.val [] (Ph2.all (fun hg => OpVal.fieldAddrB rfl) (fun x1 hg => OpVal.fieldAddrB rfl) (fun x1 x2 hg => OpVal.fieldAddrB rfl)) (Ph2.all (fun hg => rfl) (fun x1 hg => rfl) (fun x1 x2 hg => rfl)) rfl rfl (Ph2.all rfl (fun _ => rfl) (fun _ _ => rfl)) rfl ?_
  refine DJN.val [] (Ph2.all (fun hg => OpVal.loadP rfl h1 (by repeat (first | exact .head _ | refine .tail _ ?_)) rfl) (fun x1 hg => OpVal.loadP rfl h1 (by repeat (first | exact .head _ | refine .tail _ ?_)) rfl) (fun x1 x2 hg => Bool.noConfusion (show false = true from hg))) (Ph2.all (fun hg => rfl) (fun x1 hg => rfl) (fun x1 x2 hg => Bool.noConfusion (show false = true from hg))) rfl rfl (Ph2.all rfl (fun _ => rfl) (fun _ _ => rfl)) rfl ?_
  refine DJN.eff 1 [(26, _)] ⟨rfl, trivial⟩ rfl rfl [(24, fun m r => ∃ b, r = .slice (some ⟨b, 0, none⟩) 0 0)] ⟨(by repeat (first | exact .head _ | refine .tail _ ?_)), rfl, trivial⟩ (Ph2.all (fun hg => absurd hg (by simp [Ph2.num])) (fun x1 hg => ⟨rfl, fun M2 hM2 => ?_⟩) (fun x1 x2 hg => absurd hg (by simp [Ph2.num]))) ?_
  · intro m24 v24 h24
    (obtain ⟨bA, rfl⟩ := h24; refine WL.append0 rfl rfl hSc (.tail _ (hM2 h (by simp))) (by omega) rfl (by omega) (by unfold maxLen; omega) (by omega) rfl rfl rfl ?_; intro a27 c27; exact WL.nil ⟨.c x1 (a27, c27), rfl, Keff.intro (by repeat (first | exact trivial | refine ⟨rfl, ?_⟩)) (fun x hx => .tail _ hx) (.refl _)⟩)
  refine DJN.val [] (Ph2.all (fun hg => Bool.noConfusion (show false = true from hg)) (fun x1 hg => OpVal.fieldAddrB rfl) (fun x1 x2 hg => OpVal.fieldAddrB rfl)) (Ph2.all (fun hg => Bool.noConfusion (show false = true from hg)) (fun x1 hg => rfl) (fun x1 x2 hg => rfl)) rfl rfl (Ph2.all rfl (fun _ => rfl) (fun _ _ => rfl)) rfl ?_
  refine DJN.nil (Ph2.all (fun hg => absurd hg (by simp [Ph2.num])) (fun x1 hg => absurd hg (by simp [Ph2.num])) (fun x1 x2 hg => ?_))
  rintro m24 v24 h24
  rintro m20 v20 h20
  (refine WL.store [_, _, _, _, _, _, _] rfl (.tail _ (.tail _ (.head _))) rfl rfl rfl (Nat.le_of_ble_eq_true rfl) (by simp [Value.cells, Value.oneCell']) rfl ?_)
  refine WL.val (OpVal.fieldAddrB rfl) rfl rfl rfl ?_
  (refine WL.store [_, _, _, _, _, _, _] rfl (.tail _ (.tail _ (.head _))) rfl rfl rfl (Nat.le_of_ble_eq_true rfl) (by simp [Value.cells, Value.oneCell']) rfl ?_)
  refine WL.nil ?_
  refine Kseq.go (W.seq (W.seq ?_))
  obtain ⟨hA, hC⟩ := x1
  obtain ⟨sA, sC⟩ := x2
  dsimp only
  skip
  refine W.region ?_
  refine WL.val (OpVal.opv rfl) rfl rfl rfl ?_
  refine WL.nil ?_
  refine Kseq.go (W.block ?_)
  refine W.loop (σ := Nat) (fun k => [(1, .pointer (some ⟨b1, 0, none⟩)), (3, .pointer (some ⟨b3, 0, none⟩)), (4, .int .i64 (k : Int))]) (fun _ => [m1, h]) (fun k => [.row 73 2 (.slice sA r.streets.length sC) r.streets.length (flatv ((r.streets).map rv2)), .row 73 2 (.slice hA r.home.length hC) r.home.length (flatv ((mapTo r.home (fun _ => ⟨0, 1439⟩) k).map rv2)), .blk b3 [wov, pv, .int .i64 r.table.wrong, .slice hA r.home.length hC, .slice sA r.streets.length sC, .int .i64 r.start, .int .i64 r.calls].toArray 28]) (fun k => k ≤ r.home.length) (fun k => r.home.length - k) 0 ⟨rfl, rfl, rfl, trivial⟩ (by simp) (.refl _) (Nat.zero_le _) ?_
  intro k hk
  have hml := mapTo_len r.home (fun _ => (⟨0, 1439⟩ : Rg)) k
  refine W.seq (W.seq ?_)
  refine W.region ?_
  refine WL.val (OpVal.opv rfl) rfl rfl rfl ?_
  refine WL.val (OpVal.fieldAddrB rfl) rfl rfl rfl ?_
  refine WL.val (OpVal.loadB rfl (.tail _ (.tail _ (.head _))) rfl) rfl rfl rfl ?_
  refine WL.val (OpVal.lenR rfl (.tail _ (.head _))) rfl rfl rfl ?_
  refine WL.val (OpVal.opv rfl) rfl rfl rfl ?_
  refine WL.nil ?_
  refine Kseq.go ?_
  refine W.condD rfl rfl (fun hlt => ?_) (fun hge => ?_)
  · have hkl : k < r.home.length := by omega
    have est := rgs_put (ws := mapTo r.home (fun _ => (⟨0, 1439⟩ : Rg)) k) (i := k) (by omega) ⟨0, 1439⟩
    have hsu := mapTo_succ (g := fun _ => (⟨0, 1439⟩ : Rg)) hkl
    rw [hsu] at est
    refine W.skip (Kseq.go (W.seq (W.block ?_)))
    refine W.region ?_
    refine WL.val (OpVal.fieldAddrB rfl) rfl rfl rfl ?_
    refine WL.val (OpVal.loadB rfl (.tail _ (.tail _ (.head _))) rfl) rfl rfl rfl ?_
    refine WL.val (OpVal.opv rfl) rfl rfl rfl ?_
    refine WL.val (OpVal.cast (OpVal.build2 rfl rfl) (show _ = rv2 ⟨0, 1439⟩ from rfl)) rfl rfl rfl ?_
    refine WL.val (OpVal.indexAddrR rfl rfl (.tail _ (.head _)) hkl) rfl rfl rfl ?_
    (refine WL.storeR (T := 73) (k := 2) (xs := flatv ((mapTo r.home (fun _ => (⟨0, 1439⟩ : Rg)) k).map rv2)) (μ' := [.row 73 2 (.slice sA r.streets.length sC) r.streets.length (flatv ((r.streets).map rv2)), .row 73 2 (.slice hA r.home.length hC) r.home.length (flatv ((mapTo r.home (fun _ => ⟨0, 1439⟩) (k + 1)).map rv2)), .blk b3 [wov, pv, .int .i64 r.table.wrong, .slice hA r.home.length hC, .slice sA r.streets.length sC, .int .i64 r.start, .int .i64 r.calls].toArray 28]) rfl (by rw [← est]; exact .tail _ (.head _)) rfl rfl rfl hkl (Nat.le_of_ble_eq_true rfl) (by simp [rv2, Value.cells, Value.oneCell']) ?_)
    refine WL.nil ?_
    refine Kblock.normal (Kseq.go ?_)
    skip
    refine W.region ?_
    refine WL.val (OpVal.opv rfl) rfl rfl rfl ?_
    refine WL.val (OpVal.incr rfl (by omega)) rfl rfl rfl ?_
    refine WL.val (OpVal.opv rfl) rfl rfl rfl ?_
    refine WL.nil ?_
    skip
    exact Kloop.next (k + 1) (by omega) (by omega) ⟨rfl, rfl, rfl, trivial⟩ (by simp) (.refl _)
  refine W.exit (Kseq.exit (Kloop.exit (Kblock.here (Kseq.go (W.seq (W.seq ?_))))))
  have hkk : k = r.home.length := by omega
  subst hkk
  rw [mapTo_all]
  clear hml
  skip
  refine W.region ?_
  refine WL.val (OpVal.opv rfl) rfl rfl rfl ?_
  refine WL.nil ?_
  refine Kseq.go (W.block ?_)
  refine W.loop (σ := Nat) (fun k => [(1, .pointer (some ⟨b1, 0, none⟩)), (3, .pointer (some ⟨b3, 0, none⟩)), (5, .int .i64 (k : Int))]) (fun _ => [m1, h]) (fun k => [.row 73 2 (.slice sA r.streets.length sC) r.streets.length (flatv ((mapTo r.streets wayStreet k).map rv2)), .row 73 2 (.slice hA r.home.length hC) r.home.length (flatv ((r.home.map fun _ => ⟨0, 1439⟩).map rv2)), .blk b3 [wov, pv, .int .i64 r.table.wrong, .slice hA r.home.length hC, .slice sA r.streets.length sC, .int .i64 r.start, .int .i64 r.calls].toArray 28]) (fun k => k ≤ r.streets.length) (fun k => r.streets.length - k) 0 ⟨rfl, rfl, rfl, trivial⟩ (by simp) (.refl _) (Nat.zero_le _) ?_
  intro k hk
  have hml := mapTo_len r.streets wayStreet k
  refine W.seq (W.seq ?_)
  refine W.region ?_
  refine WL.val (OpVal.opv rfl) rfl rfl rfl ?_
  refine WL.val (OpVal.fieldAddrB rfl) rfl rfl rfl ?_
  refine WL.val (OpVal.loadB rfl (.tail _ (.tail _ (.head _))) rfl) rfl rfl rfl ?_
  refine WL.val (OpVal.lenR rfl (.head _)) rfl rfl rfl ?_
  refine WL.val (OpVal.opv rfl) rfl rfl rfl ?_
  refine WL.nil ?_
  refine Kseq.go ?_
  refine W.condD rfl rfl (fun hlt => ?_) (fun hge => ?_)
  · have hkl : k < r.streets.length := by omega
    have hin := inside_iff.1 (hV.street k hkl)
    have est := rgs_put (ws := mapTo r.streets wayStreet k) (i := k) (by omega) (wayStreet (r.streets.getD k default))
    rw [mapTo_succ hkl] at est
    generalize hq : r.streets.getD k default = q at *
    refine W.skip (Kseq.go (W.seq (W.block (W.seq ?_))))
    refine W.region ?_
    refine WL.val (OpVal.fieldAddrB rfl) rfl rfl rfl ?_
    refine WL.val (OpVal.loadP rfl h1 (by repeat (first | exact .head _ | refine .tail _ ?_)) rfl) rfl rfl rfl ?_
    refine WL.val (OpVal.opv rfl) rfl rfl rfl ?_
    refine WL.val (OpVal.indexAddrN rfl rfl hS hkl) rfl rfl rfl ?_
    refine WL.val (OpVal.fieldAddrN rfl hS hkl) rfl rfl rfl ?_
    refine WL.val (OpVal.cast (OpVal.loadE rfl hS (by repeat (first | exact .head _ | refine .tail _ ?_)) hkl (by omega)) (show _ = vi q.lo from congrArg (fun x : Rg => vi x.lo) hq)) rfl rfl rfl ?_
    refine WL.val (OpVal.rem rfl rfl (by omega) (by omega)) rfl rfl rfl ?_
    refine WL.val (OpVal.add rfl rfl (by omega) (by omega)) rfl rfl rfl ?_
    refine WL.val (OpVal.opv rfl) rfl rfl rfl ?_
    refine WL.nil ?_
    refine Kseq.go ?_
    skip
    refine W.draw 21 (by kernel_rfl) (by kernel_rfl) (by kernel_rfl) rfl ?_
    refine DJ.val [] (OpVal.fieldAddrB rfl) rfl rfl rfl rfl ?_
    refine DJ.val [] (OpVal.loadB rfl (.tail _ (.tail _ (.head _))) rfl) rfl rfl rfl rfl ?_
    refine DJ.val [] (OpVal.opv rfl) rfl rfl rfl rfl ?_
    refine DJ.val [] (OpVal.opv rfl) rfl rfl rfl rfl ?_
    refine DJ.val [] (OpVal.opv rfl) rfl rfl rfl rfl ?_
    refine DJ.val [] (OpVal.fieldAddrB rfl) rfl rfl rfl rfl ?_
    refine DJ.val [] (OpVal.loadP rfl h1 (by repeat (first | exact .head _ | refine .tail _ ?_)) rfl) rfl rfl rfl rfl ?_
    refine DJ.val [] (OpVal.opv rfl) rfl rfl rfl rfl ?_
    refine DJ.val [] (OpVal.indexAddrN rfl rfl hS hkl) rfl rfl rfl rfl ?_
    refine DJ.val [] (OpVal.fieldAddrN rfl hS hkl) rfl rfl rfl rfl ?_
    refine DJ.val [] (OpVal.cast (OpVal.loadE rfl hS (by repeat (first | exact .head _ | refine .tail _ ?_)) hkl (by omega)) (show _ = vi q.hi from congrArg (fun x : Rg => vi x.hi) hq)) rfl rfl rfl rfl ?_
    refine DJ.val [] (OpVal.fieldAddrB rfl) rfl rfl rfl rfl ?_
    refine DJ.val [] (OpVal.loadP rfl h1 (by repeat (first | exact .head _ | refine .tail _ ?_)) rfl) rfl rfl rfl rfl ?_
    refine DJ.val [] (OpVal.opv rfl) rfl rfl rfl rfl ?_
    refine DJ.val [] (OpVal.indexAddrN rfl rfl hS hkl) rfl rfl rfl rfl ?_
    refine DJ.val [] (OpVal.fieldAddrN rfl hS hkl) rfl rfl rfl rfl ?_
    refine DJ.val [] (OpVal.cast (OpVal.loadE rfl hS (by repeat (first | exact .head _ | refine .tail _ ?_)) hkl (by omega)) (show _ = vi q.lo from congrArg (fun x : Rg => vi x.lo) hq)) rfl rfl rfl rfl ?_
    refine DJ.val [] (OpVal.sub rfl rfl (by omega) (by omega)) rfl rfl rfl rfl ?_
    refine DJ.val [] (OpVal.rem rfl rfl (by omega) (by omega)) rfl rfl rfl rfl ?_
    refine DJ.val [] (OpVal.add rfl rfl (by omega) (by omega)) rfl rfl rfl rfl ?_
    refine DJ.val [] (OpVal.cast (OpVal.build2 rfl rfl) (show _ = rv2 (wayStreet q) from rfl)) rfl rfl rfl rfl ?_
    refine DJ.nil ?_
    refine WL.val (OpVal.indexAddrR rfl rfl (.head _) hkl) rfl rfl rfl ?_
    (refine WL.storeR (T := 73) (k := 2) (xs := flatv ((mapTo r.streets wayStreet k).map rv2)) (μ' := [.row 73 2 (.slice sA r.streets.length sC) r.streets.length (flatv ((mapTo r.streets wayStreet (k + 1)).map rv2)), .row 73 2 (.slice hA r.home.length hC) r.home.length (flatv ((r.home.map fun _ => ⟨0, 1439⟩).map rv2)), .blk b3 [wov, pv, .int .i64 r.table.wrong, .slice hA r.home.length hC, .slice sA r.streets.length sC, .int .i64 r.start, .int .i64 r.calls].toArray 28]) rfl (by rw [← est]; exact .head _) rfl rfl rfl hkl (Nat.le_of_ble_eq_true rfl) (by simp [rv2, Value.cells, Value.oneCell']) ?_)
    refine WL.nil ?_
    refine Kblock.normal (Kseq.go ?_)
    skip
    refine W.region ?_
    refine WL.val (OpVal.opv rfl) rfl rfl rfl ?_
    refine WL.val (OpVal.incr rfl (by omega)) rfl rfl rfl ?_
    refine WL.val (OpVal.opv rfl) rfl rfl rfl ?_
    refine WL.nil ?_
    skip
    exact Kloop.next (k + 1) (by omega) (by omega) ⟨rfl, rfl, rfl, trivial⟩ (by simp) (.refl _)
  refine W.exit (Kseq.exit (Kloop.exit (Kblock.here (Kseq.go (W.seq ?_)))))
  have hkk : k = r.streets.length := by omega
  subst hkk
  rw [mapTo_all]
  clear hml
  refine W.weaken [(1, .pointer (some ⟨b1, 0, none⟩)), (3, .pointer (some ⟨b3, 0, none⟩))] [m1, h] [kr 73 2 (.slice sA r.streets.length sC) ((r.streets.map wayStreet).map rv2), kr 73 2 (.slice hA r.home.length hC) ((r.home.map fun _ => (⟨0, 1439⟩ : Rg)).map rv2), .blk b3 [wov, pv, .int .i64 r.table.wrong, .slice hA r.home.length hC, .slice sA r.streets.length sC, .int .i64 r.start, .int .i64 r.calls].toArray 28] (by repeat (first | exact trivial | refine ⟨rfl, ?_⟩)) (by simp) (sub_eq (by simp [kr])) ?_
  refine W.freezeK (.head _) (fun b hb => (hF b hb).elim) (by omega) rgs_set_size.1 rgs_set_size.2 fun m4 hm4 => ?_
  have hS4 := rgs_of hm4
  clear hm4
  refine W.freezeK (.head _) (fun b hb => (hF b hb).elim) (by omega) rgs_set_size.1 rgs_set_size.2 fun m5 hm5 => ?_
  have hH5 := rgs_of hm5
  clear hm5
  refine W.freezeBox (.head _) (fun b hb => (hF b hb).elim) fun m3 h3' => ?_
  refine W.join fun mj hj => ?_
  have hjh : MLe h mj := hj h (by simp)
  have h3 := h3'.le (hj m3 (by simp))
  have hvx : IsErrand mj (.agg #[wov, pv, .int .i64 r.table.wrong, .slice hA r.home.length hC, .slice sA r.streets.length sC, .int .i64 r.start, .int .i64 r.calls]) (wayX r) := ⟨wov, pv, _, _, f, rfl, hW.le hjh, hP.le hjh, hM.le hjh, hH5.le (hj m5 (by simp)), hS4.le (hj m4 (by simp))⟩
  have hsx : SmE (wayX r) := ⟨hs.table, by simp [wayX]; exact hs.home, by simp [wayX]; exact hs.streets⟩
  have hVx := wayX_valid hV
  have f1 := faultT_zero.2 hVx
  have hTj := hT.le hjh
  have hbe2 : bestErr (wayX r) = 0 ∨ bestErr (wayX r) = 10 := by unfold bestErr; rw [if_neg (by omega)]; split <;> simp
  have hbv : bestV (wayX r) = bestE (wayX r) := bestP_eq (walks_pairwise _ _) (Nat.le_refl _)
  have hwho : ∀ i, i < (if bestErr (wayX r) = 0 then foundW (bestV (wayX r)) else []).length → ∃ m ∈ movesR r, (if bestErr (wayX r) = 0 then foundW (bestV (wayX r)) else []).getD i 0 = m.fro ∨ (if bestErr (wayX r) = 0 then foundW (bestV (wayX r)) else []).getD i 0 = m.to := fun i hi => by
    split at hi
    · rename_i e
      rw [if_pos e]
      rw [hbv] at hi ⊢
      cases hb : bestE (wayX r) with
      | none => rw [hb] at hi; exact absurd hi (by simp [foundW])
      | some w =>
        rw [hb] at hi
        exact way_who hV hb hi
    · exact absurd hi (by simp)
  skip
  skip
  refine W.region ?_
  refine WL.val (OpVal.loadPW rfl h3 (by repeat (first | exact .head _ | refine .tail _ ?_)) rfl) rfl rfl rfl ?_
  refine WL.abs (OpAbs.call rfl (fun m hm => errand_any (hvx.le (by repeat (first | exact hm.1 | replace hm := hm.2))) hsx)) rfl rfl rfl ?_
  rintro m81 v81 h81
  refine WL.abs (OpAbs.call rfl (fun m hm => bestT_any (h81.le (by repeat (first | exact hm.1 | replace hm := hm.2))) hsx)) rfl rfl rfl ?_
  rintro m82 _ ⟨cv, rfl, hcv⟩
  generalize (if bestErr (wayX r) = 0 then foundW (bestV (wayX r)) else []) = w at hcv hwho
  generalize (if bestErr (wayX r) = 0 then (foundC (wayX r) (bestV (wayX r))).2 else 0) = bn
  refine WL.val (OpVal.opv rfl) rfl rfl rfl ?_
  refine WL.val (OpVal.opv rfl) rfl rfl rfl ?_
  refine WL.val (OpVal.opv rfl) rfl rfl rfl ?_
  refine WL.val (OpVal.opv rfl) rfl rfl rfl ?_
  refine WL.val (OpVal.opv rfl) rfl rfl rfl ?_
  refine WL.val (OpVal.opv rfl) rfl rfl rfl ?_
  refine WL.val (OpVal.opv rfl) rfl rfl rfl ?_
  refine WL.nil ?_
  refine Kseq.go (W.seq ?_)
  skip
  refine W.region ?_
  refine WL.val (OpVal.fieldAddrB rfl) rfl rfl rfl ?_
  refine WL.val (OpVal.loadPA (vs := [wov, pv, vi r.table.wrong]) rfl h3 (by repeat (first | exact .head _ | refine .tail _ ?_)) rfl rfl) rfl rfl rfl ?_
  refine WL.abs (OpAbs.call rfl (fun m hm => table_any (hTj.le (by repeat (first | exact hm.1 | replace hm := hm.2))) hs.table)) rfl rfl rfl ?_
  rintro m89 v89 h89
  refine WL.abs (OpAbs.call rfl (fun m hm => movesT_any (h89.le (by repeat (first | exact hm.1 | replace hm := hm.2))) hs.table)) rfl rfl rfl ?_
  rintro m90 _ ⟨mv, rfl, hmv⟩
  refine WL.val (OpVal.opv rfl) rfl rfl rfl ?_
  refine WL.val (OpVal.opv rfl) rfl rfl rfl ?_
  refine WL.val (OpVal.opv rfl) rfl rfl rfl ?_
  refine WL.val (OpVal.opv rfl) rfl rfl rfl ?_
  refine WL.val (OpVal.opv rfl) rfl rfl rfl ?_
  refine WL.nil ?_
  refine Kseq.go (W.seq (W.seq ?_))
  rw [if_pos hask, hat] at hmv
  replace hmv : IsMoves m90 mv (movesR r) := hmv
  rw [hask]
  have h7 := (movesR_ok hV).len
  generalize movesR r = ms at *
  skip
  refine W.toS [(7, cv), (10, mv), (102, .bool false)] ?_ ?_
  · rcases hbe2 with e | e
    · rw [e]
      skip
      refine W.region ?_
      refine WL.val (OpVal.opv rfl) rfl rfl rfl ?_
      refine WL.val (OpVal.cast (OpVal.opv rfl) (show _ = Value.bool false from rfl)) rfl rfl rfl ?_
      refine WL.val (OpVal.opv rfl) rfl rfl rfl ?_
      refine WL.val (OpVal.opv rfl) rfl rfl rfl ?_
      refine WL.val (OpVal.cast (OpVal.opv rfl) (show _ = Value.bool false from rfl)) rfl rfl rfl ?_
      refine WL.val (OpVal.opv rfl) rfl rfl rfl ?_
      refine WL.pass rfl rfl rfl ?_
      refine WL.pass rfl rfl rfl ?_
      refine WL.val (OpVal.opv rfl) rfl rfl rfl ?_
      refine WL.val (OpVal.opv rfl) rfl rfl rfl ?_
      refine WL.nil ?_
      skip
      exact Keff.intro ⟨rfl, rfl, rfl, trivial⟩ (by simp) (by repeat (first | exact List.Sublist.refl _ | refine List.Sublist.cons _ ?_ | refine List.Sublist.cons_cons _ ?_))
    · rw [e]
      skip
      refine W.region ?_
      refine WL.val (OpVal.opv rfl) rfl rfl rfl ?_
      refine WL.val (OpVal.cast (OpVal.opv rfl) (show _ = Value.bool false from rfl)) rfl rfl rfl ?_
      refine WL.val (OpVal.opv rfl) rfl rfl rfl ?_
      refine WL.val (OpVal.opv rfl) rfl rfl rfl ?_
      refine WL.val (OpVal.cast (OpVal.opv rfl) (show _ = Value.bool true from rfl)) rfl rfl rfl ?_
      refine WL.val (OpVal.opv rfl) rfl rfl rfl ?_
      refine WL.val (OpVal.opv rfl) rfl rfl rfl ?_
      refine WL.val (OpVal.cast (OpVal.opv rfl) (show _ = Value.bool false from rfl)) rfl rfl rfl ?_
      refine WL.val (OpVal.opv rfl) rfl rfl rfl ?_
      refine WL.val (OpVal.opv rfl) rfl rfl rfl ?_
      refine WL.nil ?_
      skip
      exact Keff.intro ⟨rfl, rfl, rfl, trivial⟩ (by simp) (by repeat (first | exact List.Sublist.refl _ | refine List.Sublist.cons _ ?_ | refine List.Sublist.cons_cons _ ?_))
  refine Kseq.go ?_
  refine W.cond rfl rfl (fun he => absurd he (by simp)) (fun _ => ?_)
  refine W.skip (Kseq.go (W.seq (W.seq ?_)))
  skip
  refine W.region ?_
  refine WL.val (OpVal.opv rfl) rfl rfl rfl ?_
  refine WL.nil ?_
  refine Kseq.go (W.block ?_)
  have hwb := hcv.bd
  refine W.loopC (σ := Nat) (fun i => [(7, cv), (10, mv), (12, .int .i64 (i : Int))]) (fun i => i ≤ w.length) (fun i => w.length - i) 0 ⟨rfl, rfl, rfl, trivial⟩ (Nat.zero_le _) ?_
  intro i hi
  refine W.seq (W.seq ?_)
  refine W.region ?_
  refine WL.val (OpVal.opv rfl) rfl rfl rfl ?_
  refine WL.val (OpVal.opv rfl) rfl rfl rfl ?_
  refine WL.val (OpVal.len rfl hcv) rfl rfl rfl ?_
  refine WL.val (OpVal.opv rfl) rfl rfl rfl ?_
  refine WL.nil ?_
  refine Kseq.go ?_
  refine W.condD rfl rfl (fun hlt => ?_) (fun hge => ?_)
  · have hil : i < w.length := by omega
    refine W.skip (Kseq.go (W.seq (W.block (W.seq ?_))))
    refine W.region ?_
    refine WL.val (OpVal.opv rfl) rfl rfl rfl ?_
    refine WL.nil ?_
    refine Kseq.go (W.seq (W.seq ?_))
    skip
    refine W.region ?_
    refine WL.val (OpVal.opv rfl) rfl rfl rfl ?_
    refine WL.nil ?_
    refine Kseq.go (W.block ?_)
    refine W.loopC (σ := Nat) (fun k => [(7, cv), (10, mv), (12, .int .i64 (i : Int)), (13, .bool (hitW ms (w.getD i 0) k)), (14, .int .i64 (k : Int))]) (fun k => k ≤ ms.length) (fun k => ms.length - k) 0 ⟨rfl, rfl, rfl, rfl, rfl, trivial⟩ (Nat.zero_le _) ?_
    intro k hk
    refine W.seq (W.seq ?_)
    refine W.region ?_
    refine WL.val (OpVal.opv rfl) rfl rfl rfl ?_
    refine WL.val (OpVal.opv rfl) rfl rfl rfl ?_
    refine WL.val (OpVal.len rfl hmv) rfl rfl rfl ?_
    refine WL.val (OpVal.opv rfl) rfl rfl rfl ?_
    refine WL.nil ?_
    refine Kseq.go ?_
    refine W.condD rfl rfl (fun hlt2 => ?_) (fun hge2 => ?_)
    · have hkl : k < ms.length := by omega
      have hsu := hitW_succ ms (w.getD i 0) k
      refine W.skip (Kseq.go (W.seq (W.block ?_)))
      refine W.toS [(7, cv), (10, mv), (12, .int .i64 (i : Int)), (13, .bool (hitW ms (w.getD i 0) (k + 1))), (14, .int .i64 (k : Int))] ?_ ?_
      · skip
        refine W.draw 23 (by kernel_rfl) (by kernel_rfl) (by kernel_rfl) rfl ?_
        refine DJ.val [] (OpVal.opv rfl) rfl rfl rfl rfl ?_
        refine DJ.val [] (OpVal.opv rfl) rfl rfl rfl rfl ?_
        refine DJ.splitB rfl rfl (fun g116 => ?_) (fun g116 => ?_)
        · refine DJ.pass rfl rfl rfl rfl ?_
          refine DJ.pass rfl rfl rfl rfl ?_
          refine DJ.pass rfl rfl rfl rfl ?_
          refine DJ.pass rfl rfl rfl rfl ?_
          refine DJ.pass rfl rfl rfl rfl ?_
          refine DJ.pass rfl rfl rfl rfl ?_
          refine DJ.pass rfl rfl rfl rfl ?_
          refine DJ.pass rfl rfl rfl rfl ?_
          refine DJ.pass rfl rfl rfl rfl ?_
          refine DJ.pass rfl rfl rfl rfl ?_
          refine DJ.val [] (OpVal.opv rfl) rfl rfl rfl rfl ?_
          refine DJ.val [] (OpVal.opv rfl) rfl rfl rfl rfl ?_
          refine DJ.pass rfl rfl rfl rfl ?_
          refine DJ.pass rfl rfl rfl rfl ?_
          refine DJ.pass rfl rfl rfl rfl ?_
          refine DJ.pass rfl rfl rfl rfl ?_
          refine DJ.pass rfl rfl rfl rfl ?_
          refine DJ.pass rfl rfl rfl rfl ?_
          refine DJ.pass rfl rfl rfl rfl ?_
          refine DJ.pass rfl rfl rfl rfl ?_
          refine DJ.pass rfl rfl rfl rfl ?_
          refine DJ.nil ?_
          refine WL.pass rfl rfl rfl ?_
          refine WL.val (OpVal.opv rfl) rfl rfl rfl ?_
          refine WL.val (OpVal.opv rfl) rfl rfl rfl ?_
          refine WL.nil ?_
          skip
          exact Keff.intro ⟨rfl, rfl, rfl, congrArg (fun b => some (Value.bool b)) (by rw [hsu]; simp_all), rfl, trivial⟩ (by simp) (by repeat (first | exact List.Sublist.refl _ | refine List.Sublist.cons _ ?_ | refine List.Sublist.cons_cons _ ?_))
        · refine DJ.val [] (OpVal.opv rfl) rfl rfl rfl rfl ?_
          refine DJ.val [] (OpVal.opv rfl) rfl rfl rfl rfl ?_
          refine DJ.val [] (OpVal.indexAddrN rfl rfl hcv hil) rfl rfl rfl rfl ?_
          refine DJ.val [] (OpVal.loadE rfl hcv (by repeat (first | exact .head _ | refine .tail _ ?_)) hil (by omega)) rfl rfl rfl rfl ?_
          refine DJ.val [] (OpVal.opv rfl) rfl rfl rfl rfl ?_
          refine DJ.val [] (OpVal.opv rfl) rfl rfl rfl rfl ?_
          refine DJ.val [] (OpVal.indexAddrN rfl rfl hmv hkl) rfl rfl rfl rfl ?_
          refine DJ.val [] (OpVal.fieldAddrN rfl hmv hkl) rfl rfl rfl rfl ?_
          refine DJ.val [] (OpVal.loadE rfl hmv (by repeat (first | exact .head _ | refine .tail _ ?_)) hkl (by omega)) rfl rfl rfl rfl ?_
          refine DJ.val [] (OpVal.opv rfl) rfl rfl rfl rfl ?_
          refine DJ.val [] (OpVal.opv rfl) rfl rfl rfl rfl ?_
          refine DJ.val [] (OpVal.opv rfl) rfl rfl rfl rfl ?_
          refine DJ.split rfl rfl (fun g128 => ?_) (fun g128 => ?_)
          · refine DJ.pass rfl rfl rfl rfl ?_
            refine DJ.pass rfl rfl rfl rfl ?_
            refine DJ.pass rfl rfl rfl rfl ?_
            refine DJ.pass rfl rfl rfl rfl ?_
            refine DJ.pass rfl rfl rfl rfl ?_
            refine DJ.pass rfl rfl rfl rfl ?_
            refine DJ.pass rfl rfl rfl rfl ?_
            refine DJ.pass rfl rfl rfl rfl ?_
            refine DJ.pass rfl rfl rfl rfl ?_
            refine DJ.nil ?_
            refine WL.pass rfl rfl rfl ?_
            refine WL.val (OpVal.opv rfl) rfl rfl rfl ?_
            refine WL.val (OpVal.opv rfl) rfl rfl rfl ?_
            refine WL.nil ?_
            skip
            exact Keff.intro ⟨rfl, rfl, rfl, congrArg (fun b => some (Value.bool b)) (by rw [hsu]; simp_all), rfl, trivial⟩ (by simp) (by repeat (first | exact List.Sublist.refl _ | refine List.Sublist.cons _ ?_ | refine List.Sublist.cons_cons _ ?_))
          · refine DJ.val [] (OpVal.opv rfl) rfl rfl rfl rfl ?_
            refine DJ.val [] (OpVal.opv rfl) rfl rfl rfl rfl ?_
            refine DJ.val [] (OpVal.indexAddrN rfl rfl hcv hil) rfl rfl rfl rfl ?_
            refine DJ.val [] (OpVal.loadE rfl hcv (by repeat (first | exact .head _ | refine .tail _ ?_)) hil (by omega)) rfl rfl rfl rfl ?_
            refine DJ.val [] (OpVal.opv rfl) rfl rfl rfl rfl ?_
            refine DJ.val [] (OpVal.opv rfl) rfl rfl rfl rfl ?_
            refine DJ.val [] (OpVal.indexAddrN rfl rfl hmv hkl) rfl rfl rfl rfl ?_
            refine DJ.val [] (OpVal.fieldAddrN rfl hmv hkl) rfl rfl rfl rfl ?_
            refine DJ.val [] (OpVal.loadE rfl hmv (by repeat (first | exact .head _ | refine .tail _ ?_)) hkl (by omega)) rfl rfl rfl rfl ?_
            refine DJ.nil ?_
            refine WL.val (OpVal.opv rfl) rfl rfl rfl ?_
            refine WL.val (OpVal.opv rfl) rfl rfl rfl ?_
            refine WL.val (OpVal.opv rfl) rfl rfl rfl ?_
            refine WL.nil ?_
            skip
            exact Keff.intro ⟨rfl, rfl, rfl, congrArg (fun b => some (Value.bool b)) (by rw [hsu]; simp_all), rfl, trivial⟩ (by simp) (by repeat (first | exact List.Sublist.refl _ | refine List.Sublist.cons _ ?_ | refine List.Sublist.cons_cons _ ?_))
      refine Kblock.normal (Kseq.go ?_)
      skip
      refine W.region ?_
      refine WL.val (OpVal.opv rfl) rfl rfl rfl ?_
      refine WL.val (OpVal.incr rfl (by omega)) rfl rfl rfl ?_
      refine WL.val (OpVal.opv rfl) rfl rfl rfl ?_
      refine WL.nil ?_
      skip
      exact Kloop.nextC (k + 1) (by omega) (by omega) ⟨rfl, rfl, rfl, rfl, rfl, trivial⟩ (by simp) (by repeat (first | exact List.Sublist.refl _ | refine List.Sublist.cons _ ?_ | refine List.Sublist.cons_cons _ ?_))
    have hkk : k = ms.length := by omega
    subst hkk
    refine W.exit (Kseq.exit (Kloop.exit (Kblock.here (Kseq.go (W.seq ?_)))))
    skip
    refine W.region ?_
    refine WL.val (OpVal.opv rfl) rfl rfl rfl ?_
    refine WL.val (OpVal.cast (OpVal.opv rfl) (congrArg Value.bool (show (!hitW ms (w.getD i 0) ms.length) = false by rw [hitW_yes (hwho i hil)]; rfl))) rfl rfl rfl ?_
    refine WL.nil ?_
    refine Kseq.go ?_
    refine W.cond rfl rfl (fun he => absurd he (by simp)) (fun _ => ?_)
    refine W.skip (Kblock.normal (Kseq.go ?_))
    refine W.region ?_
    refine WL.val (OpVal.opv rfl) rfl rfl rfl ?_
    refine WL.val (OpVal.incr rfl (by omega)) rfl rfl rfl ?_
    refine WL.val (OpVal.opv rfl) rfl rfl rfl ?_
    refine WL.nil ?_
    skip
    exact Kloop.nextC (i + 1) (by omega) (by omega) ⟨rfl, rfl, rfl, trivial⟩ (by simp) (by repeat (first | exact List.Sublist.refl _ | refine List.Sublist.cons _ ?_ | refine List.Sublist.cons_cons _ ?_))
  refine W.exit (Kseq.exit (Kloop.exit (Kblock.here (Kseq.go (W.seq ?_)))))
  skip
  refine W.region ?_
  refine WL.val (OpVal.call rfl (fun m hm => awake11_any)) rfl rfl rfl ?_
  refine WL.val (OpVal.opv rfl) rfl rfl rfl ?_
  refine WL.nil ?_
  refine Kseq.go ?_
  refine W.ret ?_; skip; refine ⟨.inl rfl, [_], h, ⟨.tmp rfl, trivial⟩, (by repeat (first | exact .head _ | refine .tail _ ?_)), ?_⟩
  rfl
end Go.Proofs.YtdjkokpbeaapoaaGreat
