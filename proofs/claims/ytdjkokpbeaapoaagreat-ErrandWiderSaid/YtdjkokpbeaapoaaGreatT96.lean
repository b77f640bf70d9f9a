/- The statement ErrandWider: its contract. -/
import Derived.Test.YtdjkokpbeaapoaaGreatT95
namespace Go.Proofs.YtdjkokpbeaapoaaGreat
open Go Go.Eng Go.RowKit

def widerR (r : Errand) (n b : Nat) : Errand := ⟨r.table, r.home, r.streets.set (n % r.streets.length) ⟨max 0 ((r.streets.getD (n % r.streets.length) default).lo - (b : Int) % 3), min 60 ((r.streets.getD (n % r.streets.length) default).hi + (b : Int) / 3 % 5)⟩, r.start, r.calls⟩
theorem widerR_get {r : Errand} {n b : Nat} (h0 : 0 < r.streets.length) (i : Nat) : (widerR r n b).streets.getD i default = if i = n % r.streets.length then ⟨max 0 ((r.streets.getD (n % r.streets.length) default).lo - (b : Int) % 3), min 60 ((r.streets.getD (n % r.streets.length) default).hi + (b : Int) / 3 % 5)⟩ else r.streets.getD i default := by
  show (r.streets.set _ _).getD i default = _
  rw [getD_setR]
  have := Nat.mod_lt n h0
  by_cases h : i = n % r.streets.length
  · rw [if_pos ⟨h, this⟩, if_pos h]
  · rw [if_neg (fun e => h e.1), if_neg h]
theorem widerR_valid {r : Errand} {n b : Nat} (hV : ValidE r) (h0 : 0 < r.streets.length) : ValidE (widerR r n b) := by
  obtain ⟨h1, h2, h3, h4, h5, h6, h7, h8, h9⟩ := hV
  refine ⟨h1, h2, h3, h4, h5, by show (r.streets.set _ _).length = _; rw [List.length_set]; exact h6, h7, h8, fun i hi => ?_⟩
  have hi' : i < r.streets.length := by have : (widerR r n b).streets.length = r.streets.length := by simp [widerR]
                                        omega
  rw [widerR_get h0, inside_iff]
  have hk := inside_iff.1 (h9 _ (Nat.mod_lt n h0))
  have hi2 := inside_iff.1 (h9 i hi')
  split
  · dsimp only
    omega
  · exact hi2
theorem widerR_lo {r : Errand} {n b : Nat} (hV : ValidE r) (h0 : 0 < r.streets.length) (i : Nat) : ((widerR r n b).streets.getD i default).lo ≤ (r.streets.getD i default).lo ∧ (r.streets.getD i default).hi ≤ ((widerR r n b).streets.getD i default).hi := by
  rw [widerR_get h0]
  have hk := inside_iff.1 (hV.street _ (Nat.mod_lt n h0))
  split
  · rename_i h
    rw [h]
    dsimp only
    omega
  · exact ⟨Int.le_refl _, Int.le_refl _⟩
theorem proveB_iff {r : Errand} {l : List Int} (hV : ValidE r) (hw : Walk r.n l) (c : Int) : proveB r l c = true ↔ sureB r l = true ∧ bringsN (movesR r) l = fullM (movesR r) ∧ (l.length : Int) ≤ c := by
  unfold proveB
  rw [walkedE_of hV hw]
  simp [Bool.and_assoc, and_assoc]
/-- ErrandWider -/
theorem errandWider_any {h : Mem} {v wv : Value} {r : Errand} {ws : List Nat} {n by' : Nat} (hv : IsErrand h v r) (hn : n < 256) (hby : by' < 256) (hws : IsWds h wv ws) : FnV Tryz.prog 8 #[v, .int .u8 (n : Int), .int .u8 (by' : Int), wv] h (.bool true) := by
  have hv' := hv
  obtain ⟨wov, pv, hov, sv, f, rfl, hW, hP, hM, hH, hS⟩ := hv
  refine FnR.val ?_
  refine FnR.of_W (n := 183) Tryz.func8 rfl rfl (Nat.le_of_ble_eq_true rfl) fun c hr hD hF => ?_
  refine W.seq ?_
  refine W.region ?_
  refine WL.box rfl rfl rfl rfl (fun b4 => ?_)
  refine WL.val (OpVal.opv rfl) rfl rfl rfl ?_
  refine WL.nil ?_
  refine Kseq.go (W.seq (W.seq ?_))
  refine W.freezeBox (.head _) (fun b hb => (hF b hb).elim) fun m1 h1 => ?_
  refine W.toS [(1, .int .u8 (n : Int)), (2, .int .u8 (by' : Int)), (3, wv), (4, .pointer (some ⟨b4, 0, none⟩)), (29, .bool (!readyE r || decide ((r.streets.length : Int) = 0)))] ?_ ?_
  · skip
    refine W.region ?_
    refine WL.val (OpVal.loadPW rfl (by assumption) (by repeat (first | exact .head _ | refine .tail _ ?_)) (by rfl)) rfl rfl rfl ?_
    refine WL.val (OpVal.call rfl (fun m hm => ready11_any (hv'.le (by repeat (first | exact hm.1 | replace hm := hm.2))))) rfl rfl rfl ?_
    refine WL.val (OpVal.opv rfl) rfl rfl rfl ?_
    refine WL.val (OpVal.opv rfl) rfl rfl rfl ?_
    refine WL.splitB rfl rfl (fun g24 => ?_) (fun g24 => ?_)
    · refine WL.pass rfl rfl rfl ?_
      refine WL.pass rfl rfl rfl ?_
      refine WL.pass rfl rfl rfl ?_
      refine WL.pass rfl rfl rfl ?_
      refine WL.val (OpVal.opv rfl) rfl rfl rfl ?_
      refine WL.nil ?_
      skip
      exact Keff.intro ⟨rfl, rfl, rfl, rfl, congrArg (fun b => some (Value.bool b)) (by simp_all), trivial⟩ (by simp) (by repeat (first | exact List.Sublist.refl _ | refine List.Sublist.cons _ ?_ | refine List.Sublist.cons_cons _ ?_))
    · refine WL.val (OpVal.fieldAddrB rfl) rfl rfl rfl ?_
      refine WL.val (OpVal.loadP rfl h1 (by repeat (first | exact .head _ | refine .tail _ ?_)) rfl) rfl rfl rfl ?_
      refine WL.val (OpVal.len rfl hS) rfl rfl rfl ?_
      refine WL.val (OpVal.opv rfl) rfl rfl rfl ?_
      refine WL.val (OpVal.opv rfl) rfl rfl rfl ?_
      refine WL.nil ?_
      skip
      exact Keff.intro ⟨rfl, rfl, rfl, rfl, congrArg (fun b => some (Value.bool b)) (by simp_all), trivial⟩ (by simp) (by repeat (first | exact List.Sublist.refl _ | refine List.Sublist.cons _ ?_ | refine List.Sublist.cons_cons _ ?_))
  refine Kseq.go ?_
  refine W.cond rfl rfl (fun he => ?_) (fun hne => ?_)
  · refine W.seq ?_
    refine W.region ?_
    refine WL.val (OpVal.call rfl (fun m hm => awake11_any)) rfl rfl rfl ?_
    refine WL.val (OpVal.opv rfl) rfl rfl rfl ?_
    refine WL.nil ?_
    refine Kseq.go ?_
    refine W.ret ?_; refine Kseq.ret ?_; refine ⟨.inl rfl, [_], h, ⟨.tmp rfl, trivial⟩, (by repeat (first | exact .head _ | refine .tail _ ?_)), ?_⟩
    rfl
  rw [Bool.or_eq_false_iff] at hne
  obtain ⟨hth, hV⟩ := readyE_iff.1 (show readyE r = true by simpa using hne.1)
  have h0 : 0 < r.streets.length := by have := of_decide_eq_false hne.2; omega
  have hs : SmE r := ThinE.sm hth
  have hst := hV.streetsLen
  have hsl := streets_le hV.women
  have hkl : n % r.streets.length < r.streets.length := Nat.mod_lt _ h0
  have hSc := IsRgs.toCells hS
  have hwl : (r.streets.map rv2).length = r.streets.length := by rw [List.length_map]
  have hVx := widerR_valid (n := n) (b := by') hV h0
  have hxl := widerR_lo (n := n) (b := by') hV h0
  have hxd : widerR r n by' = ⟨r.table, r.home, r.streets.set (n % r.streets.length) ⟨max 0 ((r.streets.getD (n % r.streets.length) default).lo - (by' : Int) % 3), min 60 ((r.streets.getD (n % r.streets.length) default).hi + (by' : Int) / 3 % 5)⟩, r.start, r.calls⟩ := rfl
  generalize hxe : widerR r n by' = rx at *
  refine W.skip (Kseq.go (W.seq ?_))
  skip
  refine W.region ?_
  refine WL.val (OpVal.loadPW rfl h1 (by repeat (first | exact .head _ | refine .tail _ ?_)) rfl) rfl rfl rfl ?_
  refine WL.alloc rfl rfl rfl (fun b9 => ?_)
  (refine WL.store [_, _, _, _, _, _, _] rfl (.head _) rfl rfl rfl (Nat.le_of_ble_eq_true rfl) (by simp [Value.cells]; exact ⟨IsArr.one hW, IsArr.one hP, rfl, IsArr.one hH, IsArr.one hS, rfl, rfl⟩) rfl ?_)
  refine WL.nil ?_
  refine Kseq.go (W.seq ?_)
  skip
  refine W.region ?_
  (refine WL.lit (vs := []) [] rfl (Nat.le_of_ble_eq_true rfl) rfl rfl (by simp) (Nat.le_of_ble_eq_true rfl) rfl rfl rfl rfl (fun b32 => ?_))
  refine WL.val (OpVal.fieldAddrB rfl) rfl rfl rfl ?_
  refine WL.val (OpVal.loadP rfl (by assumption) (by repeat (first | exact .head _ | refine .tail _ ?_)) rfl) rfl rfl rfl ?_
  (refine WL.append (e := 73) (k := 2) (bytes := 16) (xs := []) (ys := flatv (r.streets.map rv2)) (N := 0) (m2 := r.streets.length) (μ' := fun v' => [kr 73 2 v' (r.streets.map rv2), .blk b9 _ 28]) rfl (fun v' => by simp only [kr, List.length_map, Nat.zero_add, List.nil_append]; exact .head _) rfl hSc (by repeat (first | exact .head _ | refine .tail _ ?_)) rfl (by omega) (by unfold maxLen; omega) (by omega) rfl rfl rfl ?_; intro a35 c35)
  refine WL.val (OpVal.fieldAddrB rfl) rfl rfl rfl ?_
  (refine WL.store [_, _, _, _, _, _, _] rfl (.tail _ (.head _)) rfl rfl rfl (Nat.le_of_ble_eq_true rfl) (by simp [Value.cells, Value.oneCell']) rfl ?_)
  refine WL.nil ?_
  refine Kseq.go (W.seq ?_)
  skip
  refine W.draw 8 (by kernel_rfl) (by kernel_rfl) (by kernel_rfl) rfl ?_
  refine DJ.val [] (OpVal.fieldAddrB rfl) rfl rfl rfl rfl ?_
  refine DJ.val [] (OpVal.loadB rfl (.tail _ (.head _)) rfl) rfl rfl rfl rfl ?_
  refine DJ.val [] (OpVal.opv rfl) rfl rfl rfl rfl ?_
  refine DJ.val [] (OpVal.conv rfl (i64_in (by omega) (by omega))) rfl rfl rfl rfl ?_
  refine DJ.val [] (OpVal.fieldAddrB rfl) rfl rfl rfl rfl ?_
  refine DJ.val [] (OpVal.loadB rfl (.tail _ (.head _)) rfl) rfl rfl rfl rfl ?_
  refine DJ.val [] (OpVal.cast (OpVal.lenR rfl (.head _)) (congrArg (fun x : Nat => vi (x : Int)) hwl)) rfl rfl rfl rfl ?_
  refine DJ.val [] (OpVal.cast (OpVal.rem rfl rfl (by omega) (by omega)) (show vi ((n : Int) % (r.streets.length : Int)) = vi ((n % r.streets.length : Nat) : Int) from rfl)) rfl rfl rfl rfl ?_
  refine DJ.nil ?_
  refine WL.val (OpVal.indexAddrR rfl rfl (.head _) (by rw [hwl]; exact hkl)) rfl rfl rfl ?_
  refine WL.val (OpVal.opv rfl) rfl rfl rfl ?_
  refine WL.nil ?_
  refine Kseq.go (W.seq ?_)
  generalize n % r.streets.length = k at *
  have hwk := inside_iff.1 (hV.street k hkl)
  obtain ⟨hat1, hat2⟩ := rgs_at hkl
  have e1 := rgs_lo hkl (max 0 ((r.streets.getD k default).lo - (by' : Int) % 3))
  generalize hwd : r.streets.getD k default = q at *
  have hk := hkl
  have hkw2 : k < (r.streets.set k ⟨max 0 (q.lo - (by' : Int) % 3), q.hi⟩).length := by simpa using hkl
  have e2 := rgs_hi hkw2 (min 60 (q.hi + (by' : Int) / 3 % 5))
  have hg : (r.streets.set k ⟨max 0 (q.lo - (by' : Int) % 3), q.hi⟩).getD k default = ⟨max 0 (q.lo - (by' : Int) % 3), q.hi⟩ := by
    rw [getD_setR, if_pos ⟨rfl, hkl⟩]
  rw [hg, List.set_set] at e2
  let l0 : List (Nat × Value) := [(2, .int .u8 (by' : Int)), (3, wv), (4, .pointer (some ⟨b4, 0, none⟩)), (9, .pointer (some ⟨b9, 0, none⟩)), (10, EP (.slice a35 (0 + r.streets.length) c35) 2 k 0)]
  have hl2 : ((r.streets.set k ⟨max 0 (q.lo - (by' : Int) % 3), q.hi⟩).map rv2).length = r.streets.length := by rw [List.length_map, List.length_set]
  have hl3 : ((r.streets.set k ⟨max 0 (q.lo - (by' : Int) % 3), min 60 (q.hi + (by' : Int) / 3 % 5)⟩).map rv2).length = r.streets.length := by rw [List.length_map, List.length_set]
  skip
  refine W.weaken l0 _ _ (by repeat (first | exact trivial | refine ⟨rfl, ?_⟩)) (fun _ h => h) (.refl _) ?_
  skip
  refine W.drawN (γ := Ph1 Unit) .a 24 [23] (Ph1.sel l0 (fun _ => l0)) (Ph1.sel [kr 73 2 (.slice a35 (0 + r.streets.length) c35) (r.streets.map rv2), .blk b9 [wov, pv, .int .i64 r.table.wrong, hov, .slice a35 (0 + r.streets.length) c35, .int .i64 r.start, .int .i64 r.calls].toArray 28] (fun _ => [kr 73 2 (.slice a35 (0 + r.streets.length) c35) ((r.streets.set k ⟨max 0 (q.lo - (by' : Int) % 3), q.hi⟩).map rv2), .blk b9 [wov, pv, .int .i64 r.table.wrong, hov, .slice a35 (0 + r.streets.length) c35, .int .i64 r.start, .int .i64 r.calls].toArray 28])) Ph1.num (by kernel_rfl) (by kernel_rfl) (by kernel_rfl) rfl Ph1.le (Ph1.all rfl (fun _ => rfl)) rfl rfl ?_
  refine DJN.val [] (Ph1.all (fun hg => OpVal.opv rfl) (fun x1 hg => Bool.noConfusion (show false = true from hg))) (Ph1.all (fun hg => rfl) (fun x1 hg => Bool.noConfusion (show false = true from hg))) rfl rfl (Ph1.all rfl (fun _ => rfl)) rfl ?_
  refine DJN.val [] (Ph1.all (fun hg => OpVal.opv rfl) (fun x1 hg => OpVal.opv rfl)) (Ph1.all (fun hg => rfl) (fun x1 hg => rfl)) rfl rfl (Ph1.all rfl (fun _ => rfl)) rfl ?_
  refine DJN.val [] (Ph1.all (fun hg => OpVal.opv rfl) (fun x1 hg => Bool.noConfusion (show false = true from hg))) (Ph1.all (fun hg => rfl) (fun x1 hg => Bool.noConfusion (show false = true from hg))) rfl rfl (Ph1.all rfl (fun _ => rfl)) rfl ?_
  refine DJN.val [] (Ph1.all (fun hg => (by first | exact OpVal.nilCheckQ rfl (.head _) (by rw [hwl]; exact hk) | exact OpVal.nilCheckQ rfl (.head _) (by rw [hl2]; exact hk))) (fun x1 hg => Bool.noConfusion (show false = true from hg))) (Ph1.all (fun hg => rfl) (fun x1 hg => Bool.noConfusion (show false = true from hg))) rfl rfl (Ph1.all rfl (fun _ => rfl)) rfl ?_
  refine DJN.val [] (Ph1.all (fun hg => (by first | exact OpVal.fieldAddrR rfl (.head _) (by rw [hwl]; exact hk) | exact OpVal.fieldAddrR rfl (.head _) (by rw [hl2]; exact hk))) (fun x1 hg => Bool.noConfusion (show false = true from hg))) (Ph1.all (fun hg => rfl) (fun x1 hg => Bool.noConfusion (show false = true from hg))) rfl rfl (Ph1.all rfl (fun _ => rfl)) rfl ?_
  refine DJN.val [] (Ph1.all (fun hg => OpVal.loadR rfl (.head _) (by rw [hwl]; exact hk) (by omega) hat1) (fun x1 hg => Bool.noConfusion (show false = true from hg))) (Ph1.all (fun hg => rfl) (fun x1 hg => Bool.noConfusion (show false = true from hg))) rfl rfl (Ph1.all rfl (fun _ => rfl)) rfl ?_
  refine DJN.val [] (Ph1.all (fun hg => OpVal.opv rfl) (fun x1 hg => Bool.noConfusion (show false = true from hg))) (Ph1.all (fun hg => rfl) (fun x1 hg => Bool.noConfusion (show false = true from hg))) rfl rfl (Ph1.all rfl (fun _ => rfl)) rfl ?_
  refine DJN.val [] (Ph1.all (fun hg => OpVal.conv rfl (i64_in (by omega) (by omega))) (fun x1 hg => Bool.noConfusion (show false = true from hg))) (Ph1.all (fun hg => rfl) (fun x1 hg => Bool.noConfusion (show false = true from hg))) rfl rfl (Ph1.all rfl (fun _ => rfl)) rfl ?_
  refine DJN.val [] (Ph1.all (fun hg => OpVal.rem rfl rfl (by omega) (by omega)) (fun x1 hg => Bool.noConfusion (show false = true from hg))) (Ph1.all (fun hg => rfl) (fun x1 hg => Bool.noConfusion (show false = true from hg))) rfl rfl (Ph1.all rfl (fun _ => rfl)) rfl ?_
  refine DJN.val [] (Ph1.all (fun hg => OpVal.sub rfl rfl (by omega) (by omega)) (fun x1 hg => Bool.noConfusion (show false = true from hg))) (Ph1.all (fun hg => rfl) (fun x1 hg => Bool.noConfusion (show false = true from hg))) rfl rfl (Ph1.all rfl (fun _ => rfl)) rfl ?_
  refine DJN.val [] (Ph1.all (fun hg => OpVal.max2 rfl rfl) (fun x1 hg => Bool.noConfusion (show false = true from hg))) (Ph1.all (fun hg => rfl) (fun x1 hg => Bool.noConfusion (show false = true from hg))) rfl rfl (Ph1.all rfl (fun _ => rfl)) rfl ?_
  refine DJN.val [] (Ph1.all (fun hg => OpVal.opv rfl) (fun x1 hg => OpVal.opv rfl)) (Ph1.all (fun hg => rfl) (fun x1 hg => rfl)) rfl rfl (Ph1.all rfl (fun _ => rfl)) rfl ?_
  refine DJN.val [] (Ph1.all (fun hg => (by first | exact OpVal.nilCheckQ rfl (.head _) (by rw [hwl]; exact hk) | exact OpVal.nilCheckQ rfl (.head _) (by rw [hl2]; exact hk))) (fun x1 hg => (by first | exact OpVal.nilCheckQ rfl (.head _) (by rw [hwl]; exact hk) | exact OpVal.nilCheckQ rfl (.head _) (by rw [hl2]; exact hk)))) (Ph1.all (fun hg => rfl) (fun x1 hg => rfl)) rfl rfl (Ph1.all rfl (fun _ => rfl)) rfl ?_
  refine DJN.val [] (Ph1.all (fun hg => (by first | exact OpVal.fieldAddrR rfl (.head _) (by rw [hwl]; exact hk) | exact OpVal.fieldAddrR rfl (.head _) (by rw [hl2]; exact hk))) (fun x1 hg => (by first | exact OpVal.fieldAddrR rfl (.head _) (by rw [hwl]; exact hk) | exact OpVal.fieldAddrR rfl (.head _) (by rw [hl2]; exact hk)))) (Ph1.all (fun hg => rfl) (fun x1 hg => rfl)) rfl rfl (Ph1.all rfl (fun _ => rfl)) rfl ?_
  refine DJN.val [] (Ph1.all (fun hg => OpVal.loadR rfl (.head _) (by rw [hwl]; exact hk) (by omega) hat2) (fun x1 hg => Bool.noConfusion (show false = true from hg))) (Ph1.all (fun hg => rfl) (fun x1 hg => Bool.noConfusion (show false = true from hg))) rfl rfl (Ph1.all rfl (fun _ => rfl)) rfl ?_
  refine DJN.val [] (Ph1.all (fun hg => OpVal.opv rfl) (fun x1 hg => OpVal.opv rfl)) (Ph1.all (fun hg => rfl) (fun x1 hg => rfl)) rfl rfl (Ph1.all rfl (fun _ => rfl)) rfl ?_
  refine DJN.val [] (Ph1.all (fun hg => OpVal.conv rfl (i64_in (by omega) (by omega))) (fun x1 hg => OpVal.conv rfl (i64_in (by omega) (by omega)))) (Ph1.all (fun hg => rfl) (fun x1 hg => rfl)) rfl rfl (Ph1.all rfl (fun _ => rfl)) rfl ?_
  refine DJN.val [] (Ph1.all (fun hg => OpVal.quo rfl rfl (by omega) (by omega) (by omega)) (fun x1 hg => OpVal.quo rfl rfl (by omega) (by omega) (by omega))) (Ph1.all (fun hg => rfl) (fun x1 hg => rfl)) rfl rfl (Ph1.all rfl (fun _ => rfl)) rfl ?_
  refine DJN.val [] (Ph1.all (fun hg => OpVal.rem rfl rfl (by omega) (by omega)) (fun x1 hg => OpVal.rem rfl rfl (by omega) (by omega))) (Ph1.all (fun hg => rfl) (fun x1 hg => rfl)) rfl rfl (Ph1.all rfl (fun _ => rfl)) rfl ?_
  refine DJN.val [] (Ph1.all (fun hg => OpVal.add rfl rfl (by omega) (by omega)) (fun x1 hg => OpVal.add rfl rfl (by omega) (by omega))) (Ph1.all (fun hg => rfl) (fun x1 hg => rfl)) rfl rfl (Ph1.all rfl (fun _ => rfl)) rfl ?_
  refine DJN.val [] (Ph1.all (fun hg => OpVal.min2 rfl rfl) (fun x1 hg => OpVal.min2 rfl rfl)) (Ph1.all (fun hg => rfl) (fun x1 hg => rfl)) rfl rfl (Ph1.all rfl (fun _ => rfl)) rfl ?_
  refine DJN.val [] (Ph1.all (fun hg => (by first | exact OpVal.nilCheckQ rfl (.head _) (by rw [hwl]; exact hk) | exact OpVal.nilCheckQ rfl (.head _) (by rw [hl2]; exact hk))) (fun x1 hg => (by first | exact OpVal.nilCheckQ rfl (.head _) (by rw [hwl]; exact hk) | exact OpVal.nilCheckQ rfl (.head _) (by rw [hl2]; exact hk)))) (Ph1.all (fun hg => rfl) (fun x1 hg => rfl)) rfl rfl (Ph1.all rfl (fun _ => rfl)) rfl ?_
  refine DJN.val [] (Ph1.all (fun hg => (by first | exact OpVal.fieldAddrR rfl (.head _) (by rw [hwl]; exact hk) | exact OpVal.fieldAddrR rfl (.head _) (by rw [hl2]; exact hk))) (fun x1 hg => Bool.noConfusion (show false = true from hg))) (Ph1.all (fun hg => rfl) (fun x1 hg => Bool.noConfusion (show false = true from hg))) rfl rfl (Ph1.all rfl (fun _ => rfl)) rfl ?_
  refine DJN.eff 0 [(68, _), (56, _)] ⟨rfl, rfl, trivial⟩ rfl rfl [] trivial (Ph1.all (fun hg => ⟨rfl, fun M2 hM2 => ?_⟩) (fun x1 hg => absurd hg (by simp [Ph1.num]))) ?_
  · (refine WL.storeR (T := 73) (k := 2) (xs := flatv (r.streets.map rv2)) (μ' := [kr 73 2 (.slice a35 (0 + r.streets.length) c35) ((r.streets.set k ⟨max 0 (q.lo - (by' : Int) % 3), q.hi⟩).map rv2), .blk b9 [wov, pv, .int .i64 r.table.wrong, hov, .slice a35 (0 + r.streets.length) c35, .int .i64 r.start, .int .i64 r.calls].toArray 28]) rfl (by unfold kr; rw [← e1, hwl, hl2]; exact .head _) rfl rfl rfl (by omega) (Nat.le_of_ble_eq_true rfl) (by simp [Value.cells, Value.oneCell']) ?_; exact WL.nil ⟨.b (), rfl, Keff.intro (by repeat (first | exact trivial | refine ⟨rfl, ?_⟩)) (fun x hx => hx) (.refl _)⟩)
  refine DJN.nil (Ph1.all (fun hg => absurd hg (by simp [Ph1.num])) (fun x1 hg => ?_))
  refine WL.val ((by first | exact OpVal.nilCheckQ rfl (.head _) (by rw [hwl]; exact hk) | exact OpVal.nilCheckQ rfl (.head _) (by rw [hl2]; exact hk))) rfl rfl rfl ?_
  refine WL.val ((by first | exact OpVal.fieldAddrR rfl (.head _) (by rw [hwl]; exact hk) | exact OpVal.fieldAddrR rfl (.head _) (by rw [hl2]; exact hk))) rfl rfl rfl ?_
  (refine WL.storeR (T := 73) (k := 2) (xs := flatv ((r.streets.set k ⟨max 0 (q.lo - (by' : Int) % 3), q.hi⟩).map rv2)) (μ' := [kr 73 2 (.slice a35 (0 + r.streets.length) c35) ((r.streets.set k ⟨max 0 (q.lo - (by' : Int) % 3), min 60 (q.hi + (by' : Int) / 3 % 5)⟩).map rv2), .blk b9 [wov, pv, .int .i64 r.table.wrong, hov, .slice a35 (0 + r.streets.length) c35, .int .i64 r.start, .int .i64 r.calls].toArray 28]) rfl (by unfold kr; rw [← e2, hl2, hl3]; exact .head _) rfl rfl rfl (by omega) (Nat.le_of_ble_eq_true rfl) (by simp [Value.cells, Value.oneCell']) ?_)
  refine WL.nil ?_
  refine Kseq.go (W.seq ?_)
  refine W.freezeK (.head _) (fun b hb => (hF b hb).elim) (by omega) (fun u hu => by obtain ⟨w, _, rfl⟩ := List.mem_map.1 hu; rfl) (fun u hu => by obtain ⟨w, _, rfl⟩ := List.mem_map.1 hu; simp [rv2, Value.cells, Value.oneCell']) fun m2 hm2 => ?_
  have hS2 := rgs_of hm2
  clear hm2
  refine W.freezeBox (.head _) (fun b hb => (hF b hb).elim) fun m3 h3 => ?_
  refine W.join fun mj hj => ?_
  have hvj := hv'.le (hj h (by simp))
  have h1j := h1.le (hj m1 (by simp))
  have h3j := h3.le (hj m3 (by simp))
  have hwsj := hws.le (hj h (by simp))
  have hvx : IsErrand mj (.agg #[wov, pv, .int .i64 r.table.wrong, hov, .slice a35 (0 + r.streets.length) c35, .int .i64 r.start, .int .i64 r.calls]) rx := by
    subst hxd
    exact ⟨wov, pv, hov, _, f, rfl, hW.le (hj h (by simp)), hP.le (hj h (by simp)), hM.le (hj h (by simp)), hH.le (hj h (by simp)), by simpa using hS2.le (hj m2 (by simp))⟩
  have hsx : SmE rx := by subst hxd; exact ⟨hs.table, hs.home, by show (r.streets.set _ _).length ≤ 20; rw [List.length_set]; exact hs.streets⟩
  have hxn : rx.n = r.n := by subst hxd; rfl
  have hxs : rx.start = r.start := by subst hxd; rfl
  have hxh : rx.home = r.home := by subst hxd; rfl
  have hxc : rx.calls = r.calls := by subst hxd; rfl
  have hxm : movesR rx = movesR r := by subst hxd; rfl
  have f0 := faultT_zero.2 hV
  have f1 := faultT_zero.2 hVx
  have hsure : ∀ w, sureB rx w = true → sureB r w = true := fun w hw => sureB_mono hxn.symm (by omega) (fun i => by rw [hxh]; exact Int.le_refl _) (fun i => by rw [hxh]; exact Int.le_refl _) (fun i => (hxl i).2) (by omega) hw
  have hwaits : (waitV r).length ≤ (waitV rx).length := by
    unfold waitV allW
    rw [hxm, hxn, hxc]
    exact waitP_mono fun w hw hsw => ⟨hw, hsure w hsw⟩
  clear hxd hxe hj hv' hW hP hM hH hS h1 h3 hS2 hSc e1 e2 hg hat1 hat2
  skip
  skip
  refine W.region ?_
  refine WL.val (OpVal.loadPW rfl (by assumption) (by repeat (first | exact .head _ | refine .tail _ ?_)) (by rfl)) rfl rfl rfl ?_
  refine WL.val (OpVal.opv rfl) rfl rfl rfl ?_
  refine WL.abs (OpAbs.call rfl (fun m hm => walked11_any (hvj.le (by repeat (first | exact hm.1 | replace hm := hm.2))) (hwsj.le (by repeat (first | exact hm.1 | replace hm := hm.2))))) rfl rfl rfl ?_
  rintro m73 v73 h73
  refine WL.val (OpVal.opv rfl) rfl rfl rfl ?_
  refine WL.nil ?_
  refine Kseq.go (W.seq ?_)
  obtain ⟨l, hl, hw, hl6⟩ := h73
  have hwx : Walk rx.n l := by rw [hxn]; exact hw
  skip
  refine W.region ?_
  refine WL.val (OpVal.loadPW rfl (by assumption) (by repeat (first | exact .head _ | refine .tail _ ?_)) (by rfl)) rfl rfl rfl ?_
  refine WL.abs (OpAbs.call rfl (fun m hm => errand_any (hvj.le (by repeat (first | exact hm.1 | replace hm := hm.2))) hs)) rfl rfl rfl ?_
  rintro m76 v76 h76
  refine WL.val (OpVal.opv rfl) rfl rfl rfl ?_
  refine WL.abs (OpAbs.call rfl (fun m hm => list11_any (hl.le (by repeat (first | exact hm.1 | replace hm := hm.2))) (by omega))) rfl rfl rfl ?_
  rintro m78 v78 h78
  refine WL.abs (OpAbs.call rfl (fun m hm => comes11_ok hV hw hs (h76.le (by repeat (first | exact hm.1 | replace hm := hm.2))) (h78.le (by repeat (first | exact hm.1 | replace hm := hm.2))))) rfl rfl rfl ?_
  rintro m79 _ ⟨cv, rfl, hcv⟩
  refine WL.val (OpVal.opv rfl) rfl rfl rfl ?_
  refine WL.val (OpVal.opv rfl) rfl rfl rfl ?_
  refine WL.val (OpVal.opv rfl) rfl rfl rfl ?_
  refine WL.val (OpVal.opv rfl) rfl rfl rfl ?_
  refine WL.val (OpVal.opv rfl) rfl rfl rfl ?_
  refine WL.nil ?_
  refine Kseq.go (W.seq ?_)
  skip
  refine W.region ?_
  refine WL.val (OpVal.loadPW rfl (by assumption) (by repeat (first | exact .head _ | refine .tail _ ?_)) (by rfl)) rfl rfl rfl ?_
  refine WL.abs (OpAbs.call rfl (fun m hm => errand_any (hvx.le (by repeat (first | exact hm.1 | replace hm := hm.2))) hsx)) rfl rfl rfl ?_
  rintro m84 v84 h84
  refine WL.val (OpVal.opv rfl) rfl rfl rfl ?_
  refine WL.abs (OpAbs.call rfl (fun m hm => list11_any (hl.le (by repeat (first | exact hm.1 | replace hm := hm.2))) (by omega))) rfl rfl rfl ?_
  rintro m86 v86 h86
  refine WL.abs (OpAbs.call rfl (fun m hm => comes11_ok hVx hwx hsx (h84.le (by repeat (first | exact hm.1 | replace hm := hm.2))) (h86.le (by repeat (first | exact hm.1 | replace hm := hm.2))))) rfl rfl rfl ?_
  rintro m87 _ ⟨dv, rfl, hdv⟩
  refine WL.val (OpVal.opv rfl) rfl rfl rfl ?_
  refine WL.val (OpVal.opv rfl) rfl rfl rfl ?_
  refine WL.val (OpVal.opv rfl) rfl rfl rfl ?_
  refine WL.val (OpVal.opv rfl) rfl rfl rfl ?_
  refine WL.val (OpVal.opv rfl) rfl rfl rfl ?_
  refine WL.nil ?_
  refine Kseq.go (W.seq ?_)
  skip
  refine W.region ?_
  refine WL.val (OpVal.loadPW rfl (by assumption) (by repeat (first | exact .head _ | refine .tail _ ?_)) (by rfl)) rfl rfl rfl ?_
  refine WL.abs (OpAbs.call rfl (fun m hm => errand_any (hvj.le (by repeat (first | exact hm.1 | replace hm := hm.2))) hs)) rfl rfl rfl ?_
  rintro m92 v92 h92
  refine WL.abs (OpAbs.call rfl (fun m hm => waitT_any (h92.le (by repeat (first | exact hm.1 | replace hm := hm.2))) hs)) rfl rfl rfl ?_
  rintro m93 _ ⟨lv, rfl, hlv⟩
  rw [if_pos f0] at hlv
  rw [f0]
  refine WL.val (OpVal.opv rfl) rfl rfl rfl ?_
  refine WL.val (OpVal.opv rfl) rfl rfl rfl ?_
  refine WL.val (OpVal.opv rfl) rfl rfl rfl ?_
  refine WL.val (OpVal.opv rfl) rfl rfl rfl ?_
  refine WL.val (OpVal.opv rfl) rfl rfl rfl ?_
  refine WL.nil ?_
  refine Kseq.go (W.seq ?_)
  skip
  refine W.region ?_
  refine WL.val (OpVal.loadPW rfl (by assumption) (by repeat (first | exact .head _ | refine .tail _ ?_)) (by rfl)) rfl rfl rfl ?_
  refine WL.abs (OpAbs.call rfl (fun m hm => errand_any (hvx.le (by repeat (first | exact hm.1 | replace hm := hm.2))) hsx)) rfl rfl rfl ?_
  rintro m98 v98 h98
  refine WL.abs (OpAbs.call rfl (fun m hm => waitT_any (h98.le (by repeat (first | exact hm.1 | replace hm := hm.2))) hsx)) rfl rfl rfl ?_
  rintro m99 _ ⟨mv, rfl, hmv⟩
  rw [if_pos f1] at hmv
  rw [f1]
  refine WL.val (OpVal.opv rfl) rfl rfl rfl ?_
  refine WL.val (OpVal.opv rfl) rfl rfl rfl ?_
  refine WL.val (OpVal.opv rfl) rfl rfl rfl ?_
  refine WL.val (OpVal.opv rfl) rfl rfl rfl ?_
  refine WL.val (OpVal.opv rfl) rfl rfl rfl ?_
  refine WL.nil ?_
  refine Kseq.go (W.seq (W.seq ?_))
  have hcl := comesTo_len r l l.length
  have hdl := comesTo_len rx l l.length
  skip
  refine W.region ?_
  refine WL.val (OpVal.opv rfl) rfl rfl rfl ?_
  refine WL.val (OpVal.opv rfl) rfl rfl rfl ?_
  refine WL.val (OpVal.opv rfl) rfl rfl rfl ?_
  refine WL.val (OpVal.opv rfl) rfl rfl rfl ?_
  refine WL.val (OpVal.opv rfl) rfl rfl rfl ?_
  refine WL.val (OpVal.opv rfl) rfl rfl rfl ?_
  refine WL.val (OpVal.opv rfl) rfl rfl rfl ?_
  refine WL.val (OpVal.opv rfl) rfl rfl rfl ?_
  refine WL.val (OpVal.opv rfl) rfl rfl rfl ?_
  refine WL.val (OpVal.opv rfl) rfl rfl rfl ?_
  refine WL.val (OpVal.opv rfl) rfl rfl rfl ?_
  refine WL.val (OpVal.opv rfl) rfl rfl rfl ?_
  refine WL.val (OpVal.opv rfl) rfl rfl rfl ?_
  refine WL.val (OpVal.opv rfl) rfl rfl rfl ?_
  refine WL.val (OpVal.opv rfl) rfl rfl rfl ?_
  refine WL.val (OpVal.opv rfl) rfl rfl rfl ?_
  refine WL.val (OpVal.len rfl hcv) rfl rfl rfl ?_
  refine WL.val (OpVal.opv rfl) rfl rfl rfl ?_
  refine WL.val (OpVal.len rfl hl) rfl rfl rfl ?_
  refine WL.val (OpVal.cast (OpVal.opv rfl) (congrArg Value.bool (show _ = false from by rw [hcl]; simp))) rfl rfl rfl ?_
  refine WL.val (OpVal.opv rfl) rfl rfl rfl ?_
  refine WL.val (OpVal.opv rfl) rfl rfl rfl ?_
  refine WL.val (OpVal.opv rfl) rfl rfl rfl ?_
  refine WL.val (OpVal.len rfl hdv) rfl rfl rfl ?_
  refine WL.val (OpVal.opv rfl) rfl rfl rfl ?_
  refine WL.val (OpVal.len rfl hl) rfl rfl rfl ?_
  refine WL.val (OpVal.cast (OpVal.opv rfl) (congrArg Value.bool (show _ = false from by rw [hdl]; simp))) rfl rfl rfl ?_
  refine WL.val (OpVal.opv rfl) rfl rfl rfl ?_
  refine WL.val (OpVal.opv rfl) rfl rfl rfl ?_
  refine WL.val (OpVal.opv rfl) rfl rfl rfl ?_
  refine WL.val (OpVal.len rfl hmv) rfl rfl rfl ?_
  refine WL.val (OpVal.opv rfl) rfl rfl rfl ?_
  refine WL.val (OpVal.len rfl hlv) rfl rfl rfl ?_
  refine WL.val (OpVal.cast (OpVal.opv rfl) (congrArg Value.bool (decide_eq_false (by omega)))) rfl rfl rfl ?_
  refine WL.val (OpVal.opv rfl) rfl rfl rfl ?_
  refine WL.nil ?_
  refine Kseq.go ?_
  refine W.cond rfl rfl (fun he => absurd he (by simp)) (fun _ => ?_)
  refine W.skip (Kseq.go (W.seq (W.seq ?_)))
  skip
  refine W.region ?_
  refine WL.val (OpVal.opv rfl) rfl rfl rfl ?_
  refine WL.nil ?_
  refine Kseq.go (W.block ?_)
  refine W.loopC (σ := Nat) (fun k => [(4, .pointer (some ⟨b4, 0, none⟩)), (9, .pointer (some ⟨b9, 0, none⟩)), (11, v73), (12, cv), (14, dv), (20, .int .i64 (k : Int))]) (fun k => k ≤ l.length) (fun k => l.length - k) 0 ⟨rfl, rfl, rfl, rfl, rfl, rfl, trivial⟩ (Nat.zero_le _) ?_
  intro k hk
  refine W.seq (W.seq ?_)
  refine W.region ?_
  refine WL.val (OpVal.opv rfl) rfl rfl rfl ?_
  refine WL.val (OpVal.opv rfl) rfl rfl rfl ?_
  refine WL.val (OpVal.len rfl hcv) rfl rfl rfl ?_
  refine WL.val (OpVal.opv rfl) rfl rfl rfl ?_
  refine WL.nil ?_
  refine Kseq.go ?_
  refine W.condD rfl rfl (fun hlt => ?_) (fun hge => ?_)
  · have hkl : k < l.length := by omega
    have hlo := minuteAt_le (x := rx) (r := r) (w := l) (a := leastE rx) (b := leastE r) hxn (by omega) (fun i => by rw [hxh]; exact Int.le_refl _) (fun i => by rw [leastE_get, leastE_get]; exact (hxl i).1) (k + 1)
    have hhi := minuteAt_le (x := r) (r := rx) (w := l) (a := greatestE r) (b := greatestE rx) hxn.symm (by omega) (fun i => by rw [hxh]; exact Int.le_refl _) (fun i => by rw [greatestE_get, greatestE_get]; exact (hxl i).2) (k + 1)
    refine W.skip (Kseq.go (W.seq (W.block (W.seq ?_))))
    refine W.draw 22 (by kernel_rfl) (by kernel_rfl) (by kernel_rfl) rfl ?_
    refine DJ.val [] (OpVal.opv rfl) rfl rfl rfl rfl ?_
    refine DJ.val [] (OpVal.opv rfl) rfl rfl rfl rfl ?_
    refine DJ.val [] (OpVal.indexAddrN rfl rfl hdv (by omega)) rfl rfl rfl rfl ?_
    refine DJ.val [] (OpVal.fieldAddrN rfl hdv (by omega)) rfl rfl rfl rfl ?_
    refine DJ.val [] (OpVal.cast (OpVal.loadE rfl hdv (by repeat (first | exact .head _ | refine .tail _ ?_)) (by omega) (by omega)) (show _ = vi (minuteAt rx (leastE rx) l (k + 1)) from by rw [comesTo_get hkl]; rfl)) rfl rfl rfl rfl ?_
    refine DJ.val [] (OpVal.opv rfl) rfl rfl rfl rfl ?_
    refine DJ.val [] (OpVal.opv rfl) rfl rfl rfl rfl ?_
    refine DJ.val [] (OpVal.indexAddrN rfl rfl hcv (by omega)) rfl rfl rfl rfl ?_
    refine DJ.val [] (OpVal.fieldAddrN rfl hcv (by omega)) rfl rfl rfl rfl ?_
    refine DJ.val [] (OpVal.cast (OpVal.loadE rfl hcv (by repeat (first | exact .head _ | refine .tail _ ?_)) (by omega) (by omega)) (show _ = vi (minuteAt r (leastE r) l (k + 1)) from by rw [comesTo_get hkl]; rfl)) rfl rfl rfl rfl ?_
    refine DJ.val [] (OpVal.cast (OpVal.opv rfl) (congrArg Value.bool (decide_eq_false (by omega)))) rfl rfl rfl rfl ?_
    refine DJ.val [] (OpVal.opv rfl) rfl rfl rfl rfl ?_
    refine DJ.val [] (OpVal.opv rfl) rfl rfl rfl rfl ?_
    refine DJ.val [] (OpVal.opv rfl) rfl rfl rfl rfl ?_
    refine DJ.val [] (OpVal.indexAddrN rfl rfl hdv (by omega)) rfl rfl rfl rfl ?_
    refine DJ.val [] (OpVal.fieldAddrN rfl hdv (by omega)) rfl rfl rfl rfl ?_
    refine DJ.val [] (OpVal.cast (OpVal.loadE rfl hdv (by repeat (first | exact .head _ | refine .tail _ ?_)) (by omega) (by omega)) (show _ = vi (minuteAt rx (greatestE rx) l (k + 1)) from by rw [comesTo_get hkl]; rfl)) rfl rfl rfl rfl ?_
    refine DJ.val [] (OpVal.opv rfl) rfl rfl rfl rfl ?_
    refine DJ.val [] (OpVal.opv rfl) rfl rfl rfl rfl ?_
    refine DJ.val [] (OpVal.indexAddrN rfl rfl hcv (by omega)) rfl rfl rfl rfl ?_
    refine DJ.val [] (OpVal.fieldAddrN rfl hcv (by omega)) rfl rfl rfl rfl ?_
    refine DJ.val [] (OpVal.cast (OpVal.loadE rfl hcv (by repeat (first | exact .head _ | refine .tail _ ?_)) (by omega) (by omega)) (show _ = vi (minuteAt r (greatestE r) l (k + 1)) from by rw [comesTo_get hkl]; rfl)) rfl rfl rfl rfl ?_
    refine DJ.nil ?_
    refine WL.val (OpVal.cast (OpVal.opv rfl) (congrArg Value.bool (decide_eq_false (by omega)))) rfl rfl rfl ?_
    refine WL.val (OpVal.opv rfl) rfl rfl rfl ?_
    refine WL.nil ?_
    refine Kseq.go ?_
    refine W.cond rfl rfl (fun he => absurd he (by simp)) (fun _ => ?_)
    refine W.skip (Kblock.normal (Kseq.go ?_))
    refine W.region ?_
    refine WL.val (OpVal.opv rfl) rfl rfl rfl ?_
    refine WL.val (OpVal.incr rfl (by omega)) rfl rfl rfl ?_
    refine WL.val (OpVal.opv rfl) rfl rfl rfl ?_
    refine WL.nil ?_
    skip
    exact Kloop.nextC (k + 1) (by omega) (by omega) ⟨rfl, rfl, rfl, rfl, rfl, rfl, trivial⟩ (by simp) (by repeat (first | exact List.Sublist.refl _ | refine List.Sublist.cons _ ?_ | refine List.Sublist.cons_cons _ ?_))
  have hpr : proveB rx l 7 = true → proveB r l 7 = true := fun hp => by
    obtain ⟨p1, p2, p3⟩ := (proveB_iff hVx hwx 7).1 hp
    exact (proveB_iff hV hw 7).2 ⟨hsure l p1, by rw [← hxm]; exact p2, p3⟩
  generalize hpx : proveB rx l 7 = bx at *
  generalize hpr' : proveB r l 7 = br at *
  refine W.exit (Kseq.exit (Kloop.exit (Kblock.here (Kseq.go (W.seq ?_)))))
  skip
  refine W.region ?_
  refine WL.val (OpVal.loadPW rfl (by assumption) (by repeat (first | exact .head _ | refine .tail _ ?_)) (by rfl)) rfl rfl rfl ?_
  refine WL.abs (OpAbs.call rfl (fun m hm => errand_any (hvx.le (by repeat (first | exact hm.1 | replace hm := hm.2))) hsx)) rfl rfl rfl ?_
  rintro m168 v168 h168
  refine WL.val (OpVal.opv rfl) rfl rfl rfl ?_
  refine WL.abs (OpAbs.call rfl (fun m hm => list11_any (hl.le (by repeat (first | exact hm.1 | replace hm := hm.2))) (by omega))) rfl rfl rfl ?_
  rintro m170 v170 h170
  refine WL.val (OpVal.cast (OpVal.call rfl (fun m hm => proveWalk_any 7 (h168.le (by repeat (first | exact hm.1 | replace hm := hm.2))) hsx (h170.le (by repeat (first | exact hm.1 | replace hm := hm.2))))) (congrArg Value.bool hpx)) rfl rfl rfl ?_
  refine WL.val (OpVal.opv rfl) rfl rfl rfl ?_
  refine WL.val (OpVal.opv rfl) rfl rfl rfl ?_
  refine WL.splitB rfl rfl (fun g173 => ?_) (fun g173 => ?_)
  · refine WL.pass rfl rfl rfl ?_
    refine WL.pass rfl rfl rfl ?_
    refine WL.pass rfl rfl rfl ?_
    refine WL.pass rfl rfl rfl ?_
    refine WL.pass rfl rfl rfl ?_
    refine WL.val (OpVal.opv rfl) rfl rfl rfl ?_
    refine WL.val (OpVal.opv rfl) rfl rfl rfl ?_
    refine WL.val (OpVal.call rfl (fun m hm => awake11_any)) rfl rfl rfl ?_
    refine WL.val (OpVal.opv rfl) rfl rfl rfl ?_
    refine WL.val (OpVal.opv rfl) rfl rfl rfl ?_
    refine WL.nil ?_
    refine Kseq.go ?_
    first | exact Bool.noConfusion (show false = true from by assumption) | exact Bool.noConfusion (show true = false from by assumption) | (refine W.ret ?_; skip; refine ⟨.inl rfl, [_], h, ⟨.tmp rfl, trivial⟩, (by repeat (first | exact .head _ | refine .tail _ ?_)), ?_⟩; rfl)
  · refine WL.val (OpVal.loadPW rfl (by assumption) (by repeat (first | exact .head _ | refine .tail _ ?_)) (by rfl)) rfl rfl rfl ?_
    refine WL.abs (OpAbs.call rfl (fun m hm => errand_any (hvj.le (by repeat (first | exact hm.1 | replace hm := hm.2))) hs)) rfl rfl rfl ?_
    rintro m175 v175 h175
    refine WL.val (OpVal.opv rfl) rfl rfl rfl ?_
    refine WL.abs (OpAbs.call rfl (fun m hm => list11_any (hl.le (by repeat (first | exact hm.1 | replace hm := hm.2))) (by omega))) rfl rfl rfl ?_
    rintro m177 v177 h177
    refine WL.val (OpVal.cast (OpVal.call rfl (fun m hm => proveWalk_any 7 (h175.le (by repeat (first | exact hm.1 | replace hm := hm.2))) hs (h177.le (by repeat (first | exact hm.1 | replace hm := hm.2))))) (congrArg Value.bool (hpr'.trans (hpr (by simpa using (show (!bx) = false from by assumption)))))) rfl rfl rfl ?_
    refine WL.val (OpVal.opv rfl) rfl rfl rfl ?_
    refine WL.val (OpVal.opv rfl) rfl rfl rfl ?_
    refine WL.splitB rfl rfl (fun g180 => ?_) (fun g180 => ?_)
    · refine WL.val (OpVal.call rfl (fun m hm => awake11_any)) rfl rfl rfl ?_
      refine WL.val (OpVal.opv rfl) rfl rfl rfl ?_
      refine WL.val (OpVal.opv rfl) rfl rfl rfl ?_
      refine WL.nil ?_
      refine Kseq.go ?_
      first | exact Bool.noConfusion (show false = true from by assumption) | exact Bool.noConfusion (show true = false from by assumption) | (refine W.ret ?_; skip; refine ⟨.inl rfl, [_], h, ⟨.tmp rfl, trivial⟩, (by repeat (first | exact .head _ | refine .tail _ ?_)), ?_⟩; rfl)
    · refine WL.pass rfl rfl rfl ?_
      refine WL.val (OpVal.opv rfl) rfl rfl rfl ?_
      refine WL.val (OpVal.opv rfl) rfl rfl rfl ?_
      refine WL.nil ?_
      refine Kseq.go ?_
      first | exact Bool.noConfusion (show false = true from by assumption) | exact Bool.noConfusion (show true = false from by assumption) | (refine W.ret ?_; skip; refine ⟨.inl rfl, [_], h, ⟨.tmp rfl, trivial⟩, (by repeat (first | exact .head _ | refine .tail _ ?_)), ?_⟩; rfl)
end Go.Proofs.YtdjkokpbeaapoaaGreat
