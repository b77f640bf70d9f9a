/- The statement ErrandLonger: its contract. -/
import Derived.Test.YtdjkokpbeaapoaaGreatT95
namespace Go.Proofs.YtdjkokpbeaapoaaGreat
open Go Go.Eng Go.RowKit

def longerR (r : Errand) (n b : Nat) : Errand :=
  if n % (r.home.length + 1) = r.home.length then ⟨r.table, r.home, r.streets, r.start, min 7 (IntKind.i64.wrap (r.calls + 1))⟩
  else ⟨r.table, r.home.set (n % (r.home.length + 1)) ⟨max 0 (IntKind.i64.wrap ((r.home.getD (n % (r.home.length + 1)) default).lo - (b : Int) % 9)), min 1439 (IntKind.i64.wrap ((r.home.getD (n % (r.home.length + 1)) default).hi + (b : Int) / 9 % 9))⟩, r.streets, r.start, r.calls⟩
theorem longerR_same (r : Errand) (n b : Nat) : (longerR r n b).table = r.table ∧ (longerR r n b).streets = r.streets ∧ (longerR r n b).start = r.start ∧ (longerR r n b).home.length = r.home.length := by
  unfold longerR; split <;> simp
theorem longerR_more {r : Errand} (hV : ValidE r) (n b : Nat) : (∀ i, ((longerR r n b).home.getD i default).lo ≤ (r.home.getD i default).lo ∧ (r.home.getD i default).hi ≤ ((longerR r n b).home.getD i default).hi) ∧ r.calls ≤ (longerR r n b).calls := by
  unfold longerR
  have hc := hV.calls
  by_cases hk : n % (r.home.length + 1) = r.home.length
  · rw [if_pos hk]
    refine ⟨fun _ => ⟨Int.le_refl _, Int.le_refl _⟩, ?_⟩
    show r.calls ≤ min 7 (IntKind.i64.wrap (r.calls + 1))
    rw [i64_in (by omega) (by omega)]
    omega
  · rw [if_neg hk]
    have hkl : n % (r.home.length + 1) < r.home.length := by have := Nat.mod_lt n (show 0 < r.home.length + 1 by omega); omega
    refine ⟨fun i => ?_, Int.le_refl _⟩
    have hin := inside_iff.1 (hV.home _ hkl)
    rw [i64_in (by omega) (by omega), i64_in (by omega) (by omega)]
    show ((r.home.set _ _).getD i default).lo ≤ _ ∧ _ ≤ ((r.home.set _ _).getD i default).hi
    rw [getD_setR]
    split
    · rename_i h
      rw [h.1]
      dsimp only
      omega
    · exact ⟨Int.le_refl _, Int.le_refl _⟩
theorem inTime_mono {x r : Errand} {w : List Int} {i : Nat} (hn : x.n = r.n) (hs : x.start ≤ r.start) (hlo : ∀ i, (x.home.getD i default).lo ≤ (r.home.getD i default).lo) (hhi : ∀ i, (r.home.getD i default).hi ≤ (x.home.getD i default).hi)
    (hst : ∀ i, (x.streets.getD i default).hi ≤ (r.streets.getD i default).hi) (h : inTime r w i = true) : inTime x w i = true := by
  have h1 := of_decide_eq_true h
  have h2 := minuteAt_le (w := w) hn hs hlo (a := greatestE x) (b := greatestE r) (fun i => by rw [greatestE_get, greatestE_get]; exact hst i) (i + 1)
  have h3 := hhi (w.getD i 0).toNat
  exact decide_eq_true (by omega)
theorem lateV_seven {r : Errand} {l : List Int} (hV : ValidE r) (hw : Walk r.n l) : (lateV r l).2 = 7 ↔ ∀ i, i < l.length → inTime r l i = true := by
  have h0 := walkedE_of hV hw
  unfold lateV
  rw [if_neg (by omega)]
  unfold lateN
  rw [← fstNo_all_iff]
  split
  · rename_i h; simp [h]
  · rename_i h; simp [h]
theorem proveB_iff7 {r : Errand} {l : List Int} (hV : ValidE r) (hw : Walk r.n l) (c : Int) : proveB r l c = true ↔ sureB r l = true ∧ bringsN (movesR r) l = fullM (movesR r) ∧ (l.length : Int) ≤ c := by
  unfold proveB
  rw [walkedE_of hV hw]
  simp [Bool.and_assoc, and_assoc]
/-- ErrandLonger -/
theorem errandLonger_any {h : Mem} {v wv : Value} {r : Errand} {ws : List Nat} {n by' : Nat} (hv : IsErrand h v r) (hlong : r.home.length * 16 ≤ 140737488355328) (hn : n < 256) (hby : by' < 256) (hws : IsWds h wv ws) : FnV Tryz.prog 7 #[v, .int .u8 (n : Int), .int .u8 (by' : Int), wv] h (.bool true) := by
  have hv' := hv
  obtain ⟨wov, pv, hov, sv, f, rfl, hW, hP, hM, hH, hS⟩ := hv
  refine FnR.val ?_
  refine FnR.of_W (n := 153) Tryz.func7 rfl rfl (Nat.le_of_ble_eq_true rfl) fun c hr hD hF => ?_
  refine W.seq ?_
  refine W.region ?_
  refine WL.box rfl rfl rfl rfl (fun b4 => ?_)
  refine WL.val (OpVal.opv rfl) rfl rfl rfl ?_
  refine WL.nil ?_
  refine Kseq.go (W.seq ?_)
  refine W.freezeBox (.head _) (fun b hb => (hF b hb).elim) fun m1 h1 => ?_
  have hHc := IsRgs.toCells hH
  have hwl : (r.home.map rv2).length = r.home.length := by rw [List.length_map]
  have hkl : n % (r.home.length + 1) < r.home.length + 1 := Nat.mod_lt n (by omega)
  skip
  refine W.region ?_
  refine WL.val (OpVal.loadPW rfl h1 (by repeat (first | exact .head _ | refine .tail _ ?_)) rfl) rfl rfl rfl ?_
  refine WL.alloc rfl rfl rfl (fun b9 => ?_)
  (refine WL.store [_, _, _, _, _, _, _] rfl (.head _) rfl rfl rfl (Nat.le_of_ble_eq_true rfl) (by simp [Value.cells]; exact ⟨IsArr.one hW, IsArr.one hP, rfl, IsArr.one hH, IsArr.one hS, rfl, rfl⟩) rfl ?_)
  refine WL.nil ?_
  refine Kseq.go (W.seq ?_)
  skip
  refine W.region ?_
  (refine WL.lit (vs := []) [] rfl (Nat.le_of_ble_eq_true rfl) rfl rfl (by simp) (Nat.le_of_ble_eq_true rfl) rfl rfl rfl rfl (fun b22 => ?_))
  refine WL.val (OpVal.fieldAddrB rfl) rfl rfl rfl ?_
  refine WL.val (OpVal.loadP rfl (by assumption) (by repeat (first | exact .head _ | refine .tail _ ?_)) rfl) rfl rfl rfl ?_
  (refine WL.append (e := 73) (k := 2) (bytes := 16) (xs := []) (ys := flatv (r.home.map rv2)) (N := 0) (m2 := r.home.length) (μ' := fun v' => [kr 73 2 v' (r.home.map rv2), .blk b9 _ 28]) rfl (fun v' => by simp only [kr, List.length_map, Nat.zero_add, List.nil_append]; exact .head _) rfl hHc (by repeat (first | exact .head _ | refine .tail _ ?_)) rfl (by omega) (by unfold maxLen; omega) (by omega) rfl rfl rfl ?_; intro a25 c25)
  refine WL.val (OpVal.fieldAddrB rfl) rfl rfl rfl ?_
  (refine WL.store [_, _, _, _, _, _, _] rfl (.tail _ (.head _)) rfl rfl rfl (Nat.le_of_ble_eq_true rfl) (by simp [Value.cells, Value.oneCell']) rfl ?_)
  refine WL.nil ?_
  refine Kseq.go (W.seq (W.seq ?_))
  skip
  refine W.region ?_
  refine WL.val (OpVal.opv rfl) rfl rfl rfl ?_
  refine WL.val (OpVal.conv rfl (i64_in (by omega) (by omega))) rfl rfl rfl ?_
  refine WL.val (OpVal.fieldAddrB rfl) rfl rfl rfl ?_
  refine WL.val (OpVal.loadB rfl (.tail _ (.head _)) rfl) rfl rfl rfl ?_
  refine WL.val (OpVal.cast (OpVal.lenR rfl (.head _)) (congrArg (fun x : Nat => vi (x : Int)) hwl)) rfl rfl rfl ?_
  refine WL.val (OpVal.cast (OpVal.add rfl rfl (by omega) (by omega)) (show vi ((r.home.length : Int) + 1) = vi ((r.home.length + 1 : Nat) : Int) from rfl)) rfl rfl rfl ?_
  refine WL.val (OpVal.cast (OpVal.rem rfl rfl (by omega) (by omega)) (show vi ((n : Int) % ((r.home.length + 1 : Nat) : Int)) = vi ((n % (r.home.length + 1) : Nat) : Int) from rfl)) rfl rfl rfl ?_
  refine WL.val (OpVal.opv rfl) rfl rfl rfl ?_
  refine WL.nil ?_
  refine Kseq.go (W.seq ?_)
  skip
  refine W.region ?_
  refine WL.val (OpVal.opv rfl) rfl rfl rfl ?_
  refine WL.val (OpVal.fieldAddrB rfl) rfl rfl rfl ?_
  refine WL.val (OpVal.loadB rfl (.tail _ (.head _)) rfl) rfl rfl rfl ?_
  refine WL.val (OpVal.cast (OpVal.lenR rfl (.head _)) (congrArg (fun x : Nat => vi (x : Int)) hwl)) rfl rfl rfl ?_
  refine WL.val (OpVal.opv rfl) rfl rfl rfl ?_
  refine WL.nil ?_
  refine Kseq.go ?_
  refine W.to [(3, wv), (4, .pointer (some ⟨b4, 0, none⟩)), (9, .pointer (some ⟨b9, 0, none⟩))] [m1, h] [kr 73 2 (.slice a25 (0 + r.home.length) c25) ((longerR r n by').home.map rv2), .blk b9 [wov, pv, .int .i64 r.table.wrong, .slice a25 (0 + r.home.length) c25, sv, .int .i64 r.start, .int .i64 (longerR r n by').calls].toArray 28] ?_ ?_
  · by_cases hk : n % (r.home.length + 1) = r.home.length
    · have hx : longerR r n by' = ⟨r.table, r.home, r.streets, r.start, min 7 (IntKind.i64.wrap (r.calls + 1))⟩ := if_pos hk
      rw [hx]
      refine W.cond rfl rfl (fun _ => ?_) (fun he => absurd he (by simp [hk]))
      skip
      refine W.region ?_
      refine WL.val (OpVal.fieldAddrB rfl) rfl rfl rfl ?_
      refine WL.val (OpVal.loadP rfl h1 (by repeat (first | exact .head _ | refine .tail _ ?_)) rfl) rfl rfl rfl ?_
      refine WL.val (OpVal.addW rfl rfl) rfl rfl rfl ?_
      refine WL.val (OpVal.min2 rfl rfl) rfl rfl rfl ?_
      refine WL.val (OpVal.fieldAddrB rfl) rfl rfl rfl ?_
      refine WL.store [_, _, _, _, _, _, _] rfl (.tail _ (.head _)) rfl rfl rfl (Nat.le_of_ble_eq_true rfl) (by first | (simp [Value.cells, Value.oneCell']; done) | exact IsArr.ones hW (by omega) | exact IsArr.ones hP (by omega) | exact IsArr.ones hS (by omega) | exact IsArr.ones hH (by omega) | exact IsArr.ones hL (by omega)) rfl ?_
      refine WL.nil ?_
      skip
      exact Keff.intro ⟨rfl, rfl, rfl, trivial⟩ (by simp) (.refl _)
    · have hx : longerR r n by' = ⟨r.table, r.home.set (n % (r.home.length + 1)) ⟨max 0 (IntKind.i64.wrap ((r.home.getD (n % (r.home.length + 1)) default).lo - (by' : Int) % 9)), min 1439 (IntKind.i64.wrap ((r.home.getD (n % (r.home.length + 1)) default).hi + (by' : Int) / 9 % 9))⟩, r.streets, r.start, r.calls⟩ := if_neg hk
      rw [hx]
      have hk' : n % (r.home.length + 1) < r.home.length := by omega
      refine W.cond rfl rfl (fun he => absurd (of_decide_eq_true he) (fun e => hk (Int.ofNat_inj.1 e))) (fun _ => ?_)
      generalize n % (r.home.length + 1) = k at *
      obtain ⟨hat1, hat2⟩ := rgs_at hk'
      have e1 := rgs_lo hk' (max 0 (IntKind.i64.wrap ((r.home.getD k default).lo - (by' : Int) % 9)))
      generalize hwd : r.home.getD k default = q at *
      have hkw2 : k < (r.home.set k ⟨max 0 (IntKind.i64.wrap (q.lo - (by' : Int) % 9)), q.hi⟩).length := by simpa using hk'
      have e2 := rgs_hi hkw2 (min 1439 (IntKind.i64.wrap (q.hi + (by' : Int) / 9 % 9)))
      have hg : (r.home.set k ⟨max 0 (IntKind.i64.wrap (q.lo - (by' : Int) % 9)), q.hi⟩).getD k default = ⟨max 0 (IntKind.i64.wrap (q.lo - (by' : Int) % 9)), q.hi⟩ := by
        rw [getD_setR, if_pos ⟨rfl, hk'⟩]
      rw [hg, List.set_set] at e2
      replace hk := hk'
      refine W.seq ?_
      refine W.region ?_
      refine WL.val (OpVal.fieldAddrB rfl) rfl rfl rfl ?_
      refine WL.val (OpVal.loadB rfl (.tail _ (.head _)) rfl) rfl rfl rfl ?_
      refine WL.val (OpVal.opv rfl) rfl rfl rfl ?_
      refine WL.val (OpVal.indexAddrR rfl rfl (.head _) (by rw [hwl]; exact hk)) rfl rfl rfl ?_
      refine WL.val (OpVal.opv rfl) rfl rfl rfl ?_
      refine WL.nil ?_
      refine Kseq.go ?_
      let l0 : List (Nat × Value) := [(2, .int .u8 (by' : Int)), (3, wv), (4, .pointer (some ⟨b4, 0, none⟩)), (9, .pointer (some ⟨b9, 0, none⟩)), (11, EP (.slice a25 (0 + r.home.length) c25) 2 k 0)]
      have hl2 : ((r.home.set k ⟨max 0 (IntKind.i64.wrap (q.lo - (by' : Int) % 9)), q.hi⟩).map rv2).length = r.home.length := by rw [List.length_map, List.length_set]
      have hl3 : ((r.home.set k ⟨max 0 (IntKind.i64.wrap (q.lo - (by' : Int) % 9)), min 1439 (IntKind.i64.wrap (q.hi + (by' : Int) / 9 % 9))⟩).map rv2).length = r.home.length := by rw [List.length_map, List.length_set]
      skip
      refine W.weaken l0 _ _ (by repeat (first | exact trivial | refine ⟨rfl, ?_⟩)) (fun _ h => h) (.refl _) ?_
      skip
      refine W.drawN (γ := Ph1 Unit) .a 24 [23] (Ph1.sel l0 (fun _ => l0)) (Ph1.sel [kr 73 2 (.slice a25 (0 + r.home.length) c25) (r.home.map rv2), .blk b9 [wov, pv, .int .i64 r.table.wrong, .slice a25 (0 + r.home.length) c25, sv, .int .i64 r.start, .int .i64 r.calls].toArray 28] (fun _ => [kr 73 2 (.slice a25 (0 + r.home.length) c25) ((r.home.set k ⟨max 0 (IntKind.i64.wrap (q.lo - (by' : Int) % 9)), q.hi⟩).map rv2), .blk b9 [wov, pv, .int .i64 r.table.wrong, .slice a25 (0 + r.home.length) c25, sv, .int .i64 r.start, .int .i64 r.calls].toArray 28])) Ph1.num (by kernel_rfl) (by kernel_rfl) (by kernel_rfl) rfl Ph1.le (Ph1.all rfl (fun _ => rfl)) rfl rfl ?_
      refine DJN.val [] (Ph1.all (fun hg => OpVal.opv rfl) (fun x1 hg => Bool.noConfusion (show false = true from hg))) (Ph1.all (fun hg => rfl) (fun x1 hg => Bool.noConfusion (show false = true from hg))) rfl rfl (Ph1.all rfl (fun _ => rfl)) rfl ?_
      refine DJN.val [] (Ph1.all (fun hg => OpVal.opv rfl) (fun x1 hg => OpVal.opv rfl)) (Ph1.all (fun hg => rfl) (fun x1 hg => rfl)) rfl rfl (Ph1.all rfl (fun _ => rfl)) rfl ?_
      refine DJN.val [] (Ph1.all (fun hg => OpVal.opv rfl) (fun x1 hg => Bool.noConfusion (show false = true from hg))) (Ph1.all (fun hg => rfl) (fun x1 hg => Bool.noConfusion (show false = true from hg))) rfl rfl (Ph1.all rfl (fun _ => rfl)) rfl ?_
      refine DJN.val [] (Ph1.all (fun hg => (by first | exact OpVal.nilCheckQ rfl (.head _) (by rw [hwl]; exact hk) | exact OpVal.nilCheckQ rfl (.head _) (by rw [hl2]; exact hk))) (fun x1 hg => Bool.noConfusion (show false = true from hg))) (Ph1.all (fun hg => rfl) (fun x1 hg => Bool.noConfusion (show false = true from hg))) rfl rfl (Ph1.all rfl (fun _ => rfl)) rfl ?_
      refine DJN.val [] (Ph1.all (fun hg => (by first | exact OpVal.fieldAddrR rfl (.head _) (by rw [hwl]; exact hk) | exact OpVal.fieldAddrR rfl (.head _) (by rw [hl2]; exact hk))) (fun x1 hg => Bool.noConfusion (show false = true from hg))) (Ph1.all (fun hg => rfl) (fun x1 hg => Bool.noConfusion (show false = true from hg))) rfl rfl (Ph1.all rfl (fun _ => rfl)) rfl ?_
      refine DJN.val [] (Ph1.all (fun hg => OpVal.loadR rfl (.head _) (by rw [hwl]; exact hk) (by omega) hat1) (fun x1 hg => Bool.noConfusion (show false = true from hg))) (Ph1.all (fun hg => rfl) (fun x1 hg => Bool.noConfusion (show false = true from hg))) rfl rfl (Ph1.all rfl (fun _ => rfl)) rfl ?_
      refine DJN.val [] (Ph1.all (fun hg => OpVal.opv rfl) (fun x1 hg => Bool.noConfusion (show false = true from hg))) (Ph1.all (fun hg => rfl) (fun x1 hg => Bool.noConfusion (show false = true from hg))) rfl rfl (Ph1.all rfl (fun _ => rfl)) rfl ?_
      refine DJN.val [] (Ph1.all (fun hg => OpVal.conv rfl (i64_in (by omega) (by omega))) (fun x1 hg => Bool.noConfusion (show false = true from hg))) (Ph1.all (fun hg => rfl) (fun x1 hg => Bool.noConfusion (show false = true from hg))) rfl rfl (Ph1.all rfl (fun _ => rfl)) rfl ?_
      refine DJN.val [] (Ph1.all (fun hg => OpVal.rem rfl rfl (by omega) (by omega)) (fun x1 hg => Bool.noConfusion (show false = true from hg))) (Ph1.all (fun hg => rfl) (fun x1 hg => Bool.noConfusion (show false = true from hg))) rfl rfl (Ph1.all rfl (fun _ => rfl)) rfl ?_
      refine DJN.val [] (Ph1.all (fun hg => OpVal.subW rfl rfl) (fun x1 hg => Bool.noConfusion (show false = true from hg))) (Ph1.all (fun hg => rfl) (fun x1 hg => Bool.noConfusion (show false = true from hg))) rfl rfl (Ph1.all rfl (fun _ => rfl)) rfl ?_
      refine DJN.val [] (Ph1.all (fun hg => OpVal.max2 rfl rfl) (fun x1 hg => Bool.noConfusion (show false = true from hg))) (Ph1.all (fun hg => rfl) (fun x1 hg => Bool.noConfusion (show false = true from hg))) rfl rfl (Ph1.all rfl (fun _ => rfl)) rfl ?_
      refine DJN.val [] (Ph1.all (fun hg => OpVal.opv rfl) (fun x1 hg => OpVal.opv rfl)) (Ph1.all (fun hg => rfl) (fun x1 hg => rfl)) rfl rfl (Ph1.all rfl (fun _ => rfl)) rfl ?_
      refine DJN.val [] (Ph1.all (fun hg => (by first | exact OpVal.nilCheckQ rfl (.head _) (by rw [hwl]; exact hk) | exact OpVal.nilCheckQ rfl (.head _) (by rw [hl2]; exact hk))) (fun x1 hg => (by first | exact OpVal.nilCheckQ rfl (.head _) (by rw [hwl]; exact hk) | exact OpVal.nilCheckQ rfl (.head _) (by rw [hl2]; exact hk)))) (Ph1.all (fun hg => rfl) (fun x1 hg => rfl)) rfl rfl (Ph1.all rfl (fun _ => rfl)) rfl ?_
      refine DJN.val [] (Ph1.all (fun hg => (by first | exact OpVal.fieldAddrR rfl (.head _) (by rw [hwl]; exact hk) | exact OpVal.fieldAddrR rfl (.head _) (by rw [hl2]; exact hk))) (fun x1 hg => (by first | exact OpVal.fieldAddrR rfl (.head _) (by rw [hwl]; exact hk) | exact OpVal.fieldAddrR rfl (.head _) (by rw [hl2]; exact hk)))) (Ph1.all (fun hg => rfl) (fun x1 hg => rfl)) rfl rfl (Ph1.all rfl (fun _ => rfl)) rfl ?_
      refine DJN.val [] (Ph1.all (fun hg => OpVal.loadR rfl (.head _) (by rw [hwl]; exact hk) (by omega) hat2) (fun x1 hg => Bool.noConfusion (show false = true from hg))) (Ph1.all (fun hg => rfl) (fun x1 hg => Bool.noConfusion (show false = true from hg))) rfl rfl (Ph1.all rfl (fun _ => rfl)) rfl ?_
      refine DJN.val [] (Ph1.all (fun hg => OpVal.opv rfl) (fun x1 hg => OpVal.opv rfl)) (Ph1.all (fun hg => rfl) (fun x1 hg => rfl)) rfl rfl (Ph1.all rfl (fun _ => rfl)) rfl ?_
      refine DJN.val [] (Ph1.all (fun hg => OpVal.conv rfl (i64_in (by omega) (by omega))) (fun x1 hg => OpVal.conv rfl (i64_in (by omega) (by omega)))) (Ph1.all (fun hg => rfl) (fun x1 hg => rfl)) rfl rfl (Ph1.all rfl (fun _ => rfl)) rfl ?_
      refine DJN.val [] (Ph1.all (fun hg => OpVal.quo rfl rfl (by omega) (by omega) (by omega)) (fun x1 hg => OpVal.quo rfl rfl (by omega) (by omega) (by omega))) (Ph1.all (fun hg => rfl) (fun x1 hg => rfl)) rfl rfl (Ph1.all rfl (fun _ => rfl)) rfl ?_
      refine DJN.val [] (Ph1.all (fun hg => OpVal.rem rfl rfl (by omega) (by omega)) (fun x1 hg => OpVal.rem rfl rfl (by omega) (by omega))) (Ph1.all (fun hg => rfl) (fun x1 hg => rfl)) rfl rfl (Ph1.all rfl (fun _ => rfl)) rfl ?_
      refine DJN.val [] (Ph1.all (fun hg => OpVal.addW rfl rfl) (fun x1 hg => OpVal.addW rfl rfl)) (Ph1.all (fun hg => rfl) (fun x1 hg => rfl)) rfl rfl (Ph1.all rfl (fun _ => rfl)) rfl ?_
      refine DJN.val [] (Ph1.all (fun hg => OpVal.min2 rfl rfl) (fun x1 hg => OpVal.min2 rfl rfl)) (Ph1.all (fun hg => rfl) (fun x1 hg => rfl)) rfl rfl (Ph1.all rfl (fun _ => rfl)) rfl ?_
      refine DJN.val [] (Ph1.all (fun hg => (by first | exact OpVal.nilCheckQ rfl (.head _) (by rw [hwl]; exact hk) | exact OpVal.nilCheckQ rfl (.head _) (by rw [hl2]; exact hk))) (fun x1 hg => (by first | exact OpVal.nilCheckQ rfl (.head _) (by rw [hwl]; exact hk) | exact OpVal.nilCheckQ rfl (.head _) (by rw [hl2]; exact hk)))) (Ph1.all (fun hg => rfl) (fun x1 hg => rfl)) rfl rfl (Ph1.all rfl (fun _ => rfl)) rfl ?_
      refine DJN.val [] (Ph1.all (fun hg => (by first | exact OpVal.fieldAddrR rfl (.head _) (by rw [hwl]; exact hk) | exact OpVal.fieldAddrR rfl (.head _) (by rw [hl2]; exact hk))) (fun x1 hg => Bool.noConfusion (show false = true from hg))) (Ph1.all (fun hg => rfl) (fun x1 hg => Bool.noConfusion (show false = true from hg))) rfl rfl (Ph1.all rfl (fun _ => rfl)) rfl ?_
      refine DJN.eff 0 [(70, _), (58, _)] ⟨rfl, rfl, trivial⟩ rfl rfl [] trivial (Ph1.all (fun hg => ⟨rfl, fun M2 hM2 => ?_⟩) (fun x1 hg => absurd hg (by simp [Ph1.num]))) ?_
      · (refine WL.storeR (T := 73) (k := 2) (xs := flatv (r.home.map rv2)) (μ' := [kr 73 2 (.slice a25 (0 + r.home.length) c25) ((r.home.set k ⟨max 0 (IntKind.i64.wrap (q.lo - (by' : Int) % 9)), q.hi⟩).map rv2), .blk b9 [wov, pv, .int .i64 r.table.wrong, .slice a25 (0 + r.home.length) c25, sv, .int .i64 r.start, .int .i64 r.calls].toArray 28]) rfl (by unfold kr; rw [← e1, hwl, hl2]; exact .head _) rfl rfl rfl (by omega) (Nat.le_of_ble_eq_true rfl) (by simp [Value.cells, Value.oneCell']) ?_; exact WL.nil ⟨.b (), rfl, Keff.intro (by repeat (first | exact trivial | refine ⟨rfl, ?_⟩)) (fun x hx => hx) (.refl _)⟩)
      refine DJN.nil (Ph1.all (fun hg => absurd hg (by simp [Ph1.num])) (fun x1 hg => ?_))
      refine WL.val ((by first | exact OpVal.nilCheckQ rfl (.head _) (by rw [hwl]; exact hk) | exact OpVal.nilCheckQ rfl (.head _) (by rw [hl2]; exact hk))) rfl rfl rfl ?_
      refine WL.val ((by first | exact OpVal.fieldAddrR rfl (.head _) (by rw [hwl]; exact hk) | exact OpVal.fieldAddrR rfl (.head _) (by rw [hl2]; exact hk))) rfl rfl rfl ?_
      (refine WL.storeR (T := 73) (k := 2) (xs := flatv ((r.home.set k ⟨max 0 (IntKind.i64.wrap (q.lo - (by' : Int) % 9)), q.hi⟩).map rv2)) (μ' := [kr 73 2 (.slice a25 (0 + r.home.length) c25) ((r.home.set k ⟨max 0 (IntKind.i64.wrap (q.lo - (by' : Int) % 9)), min 1439 (IntKind.i64.wrap (q.hi + (by' : Int) / 9 % 9))⟩).map rv2), .blk b9 [wov, pv, .int .i64 r.table.wrong, .slice a25 (0 + r.home.length) c25, sv, .int .i64 r.start, .int .i64 r.calls].toArray 28]) rfl (by unfold kr; rw [← e2, hl2, hl3]; exact .head _) rfl rfl rfl (by omega) (Nat.le_of_ble_eq_true rfl) (by simp [Value.cells, Value.oneCell']) ?_)
      refine WL.nil ?_
      skip
      exact Keff.intro ⟨rfl, rfl, rfl, trivial⟩ (by simp) (.refl _)
  obtain ⟨hxt, hxst, hxs, hxl⟩ := longerR_same r n by'
  have hmore := fun hV => longerR_more (r := r) hV n by'
  generalize longerR r n by' = rx at *
  refine Kseq.go (W.seq (W.seq ?_))
  refine W.freezeK (.head _) (fun b hb => (hF b hb).elim) (by omega) (fun u hu => by obtain ⟨w, _, rfl⟩ := List.mem_map.1 hu; rfl) (fun u hu => by obtain ⟨w, _, rfl⟩ := List.mem_map.1 hu; simp [rv2, Value.cells, Value.oneCell']) fun m2 hm2 => ?_
  have hH2 := rgs_of hm2
  clear hm2
  refine W.freezeBox (.head _) (fun b hb => (hF b hb).elim) fun m3 h3 => ?_
  refine W.join fun mj hj => ?_
  have hvj := hv'.le (hj h (by simp))
  have h1j := h1.le (hj m1 (by simp))
  have h3j := h3.le (hj m3 (by simp))
  have hwsj := hws.le (hj h (by simp))
  have hvx : IsErrand mj (.agg #[wov, pv, .int .i64 r.table.wrong, .slice a25 (0 + r.home.length) c25, sv, .int .i64 r.start, .int .i64 rx.calls]) rx := by
    refine ⟨wov, pv, _, sv, f, by rw [hxt, hxs], by rw [hxt]; exact hW.le (hj h (by simp)), by rw [hxt]; exact hP.le (hj h (by simp)), by rw [hxt]; exact hM.le (hj h (by simp)), hH2.le (hj m2 (by simp)), by rw [hxst]; exact hS.le (hj h (by simp))⟩
  clear hj hv' hW hP hM hH hS h1 h3 hH2 hHc hlong hwl
  refine W.toS [(3, wv), (4, .pointer (some ⟨b4, 0, none⟩)), (9, .pointer (some ⟨b9, 0, none⟩)), (80, .bool (!readyE r || !readyE rx))] ?_ ?_
  · skip
    refine W.region ?_
    refine WL.val (OpVal.loadPW rfl h1j (by repeat (first | exact .head _ | refine .tail _ ?_)) rfl) rfl rfl rfl ?_
    refine WL.val (OpVal.call rfl (fun m hm => ready11_any (hvj.le (by repeat (first | exact hm.1 | replace hm := hm.2))))) rfl rfl rfl ?_
    refine WL.val (OpVal.opv rfl) rfl rfl rfl ?_
    refine WL.val (OpVal.opv rfl) rfl rfl rfl ?_
    refine WL.splitB rfl rfl (fun g76 => ?_) (fun g76 => ?_)
    · refine WL.pass rfl rfl rfl ?_
      refine WL.pass rfl rfl rfl ?_
      refine WL.pass rfl rfl rfl ?_
      refine WL.val (OpVal.opv rfl) rfl rfl rfl ?_
      refine WL.nil ?_
      skip
      exact Keff.intro ⟨rfl, rfl, rfl, congrArg (fun b => some (Value.bool b)) (by simp_all), trivial⟩ (by simp) (by repeat (first | exact List.Sublist.refl _ | refine List.Sublist.cons _ ?_ | refine List.Sublist.cons_cons _ ?_))
    · refine WL.val (OpVal.loadPW rfl h3j (by repeat (first | exact .head _ | refine .tail _ ?_)) rfl) rfl rfl rfl ?_
      refine WL.val (OpVal.call rfl (fun m hm => ready11_any (hvx.le (by repeat (first | exact hm.1 | replace hm := hm.2))))) rfl rfl rfl ?_
      refine WL.val (OpVal.opv rfl) rfl rfl rfl ?_
      refine WL.val (OpVal.opv rfl) rfl rfl rfl ?_
      refine WL.nil ?_
      skip
      exact Keff.intro ⟨rfl, rfl, rfl, congrArg (fun b => some (Value.bool b)) (by simp_all), trivial⟩ (by simp) (by repeat (first | exact List.Sublist.refl _ | refine List.Sublist.cons _ ?_ | refine List.Sublist.cons_cons _ ?_))
  refine Kseq.go ?_
  refine W.cond rfl rfl (fun he => ?_) (fun hne => ?_)
  · refine W.seq ?_
    refine W.region ?_
    refine WL.val (OpVal.call rfl (fun m hm => awake11_any)) rfl rfl rfl ?_
    refine WL.val (OpVal.opv rfl) rfl rfl rfl ?_
    refine WL.nil ?_
    refine Kseq.go ?_
    refine W.ret ?_; refine Kseq.ret ?_; refine ⟨.inl rfl, [_], mj, ⟨.tmp rfl, trivial⟩, (by repeat (first | exact .head _ | refine .tail _ ?_)), ?_⟩
    rfl
  rw [Bool.or_eq_false_iff] at hne
  obtain ⟨hth, hV⟩ := readyE_iff.1 (show readyE r = true by simpa using hne.1)
  obtain ⟨hthx, hVx⟩ := readyE_iff.1 (show readyE rx = true by simpa using hne.2)
  have hs : SmE r := ThinE.sm hth
  have hsx : SmE rx := ThinE.sm hthx
  have hxn : rx.n = r.n := by unfold Errand.n; rw [hxt]
  obtain ⟨hmo, hca⟩ := hmore hV
  have hxm : movesR rx = movesR r := by unfold movesR; rw [hxt]
  have f0 := faultT_zero.2 hV
  have f1 := faultT_zero.2 hVx
  have hc0 := hV.calls
  have hc1 := hVx.calls
  have hsure : ∀ w, sureB r w = true → sureB rx w = true := fun w hw => sureB_mono hxn (by omega) (fun i => (hmo i).1) (fun i => (hmo i).2) (fun i => by rw [hxst]; exact Int.le_refl _) hca hw
  have hwaits : (waitV rx).length ≤ (waitV r).length := by
    unfold waitV allW
    rw [hxm, hxn]
    refine waitP_mono fun w hw hsw => ⟨?_, hsure w hsw⟩
    obtain ⟨g1, g2⟩ := (mem_walks (show r.calls.toNat ≤ 7 by omega)).1 hw
    exact (mem_walks (by omega)).2 ⟨g1, by omega⟩
  clear hxt hmore
  refine W.skip (Kseq.go (W.seq ?_))
  skip
  refine W.region ?_
  refine WL.val (OpVal.loadPW rfl h1j (by repeat (first | exact .head _ | refine .tail _ ?_)) rfl) rfl rfl rfl ?_
  refine WL.val (OpVal.opv rfl) rfl rfl rfl ?_
  refine WL.abs (OpAbs.call rfl (fun m hm => walked11_any (hvj.le (by repeat (first | exact hm.1 | replace hm := hm.2))) (hwsj.le (by repeat (first | exact hm.1 | replace hm := hm.2))))) rfl rfl rfl ?_
  rintro m84 v84 h84
  refine WL.val (OpVal.opv rfl) rfl rfl rfl ?_
  refine WL.nil ?_
  refine Kseq.go (W.seq ?_)
  obtain ⟨l, hl, hw, hl6⟩ := h84
  have hwx : Walk rx.n l := by rw [hxn]; exact hw
  skip
  refine W.region ?_
  refine WL.val (OpVal.loadPW rfl h1j (by repeat (first | exact .head _ | refine .tail _ ?_)) rfl) rfl rfl rfl ?_
  refine WL.abs (OpAbs.call rfl (fun m hm => errand_any (hvj.le (by repeat (first | exact hm.1 | replace hm := hm.2))) hs)) rfl rfl rfl ?_
  rintro m87 v87 h87
  refine WL.abs (OpAbs.call rfl (fun m hm => waitT_any (h87.le (by repeat (first | exact hm.1 | replace hm := hm.2))) hs)) rfl rfl rfl ?_
  rintro m88 _ ⟨lv, rfl, hlv⟩
  rw [if_pos f0] at hlv
  rw [f0]
  refine WL.val (OpVal.opv rfl) rfl rfl rfl ?_
  refine WL.val (OpVal.opv rfl) rfl rfl rfl ?_
  refine WL.val (OpVal.opv rfl) rfl rfl rfl ?_
  refine WL.val (OpVal.opv rfl) rfl rfl rfl ?_
  refine WL.val (OpVal.opv rfl) rfl rfl rfl ?_
  refine WL.nil ?_
  refine Kseq.go (W.seq ?_)
  skip
  refine W.region ?_
  refine WL.val (OpVal.loadPW rfl h3j (by repeat (first | exact .head _ | refine .tail _ ?_)) rfl) rfl rfl rfl ?_
  refine WL.abs (OpAbs.call rfl (fun m hm => errand_any (hvx.le (by repeat (first | exact hm.1 | replace hm := hm.2))) hsx)) rfl rfl rfl ?_
  rintro m93 v93 h93
  refine WL.abs (OpAbs.call rfl (fun m hm => waitT_any (h93.le (by repeat (first | exact hm.1 | replace hm := hm.2))) hsx)) rfl rfl rfl ?_
  rintro m94 _ ⟨mv, rfl, hmv⟩
  rw [if_pos f1] at hmv
  rw [f1]
  refine WL.val (OpVal.opv rfl) rfl rfl rfl ?_
  refine WL.val (OpVal.opv rfl) rfl rfl rfl ?_
  refine WL.val (OpVal.opv rfl) rfl rfl rfl ?_
  refine WL.val (OpVal.opv rfl) rfl rfl rfl ?_
  refine WL.val (OpVal.opv rfl) rfl rfl rfl ?_
  refine WL.nil ?_
  refine Kseq.go (W.seq ?_)
  skip
  refine W.region ?_
  refine WL.val (OpVal.loadPW rfl h1j (by repeat (first | exact .head _ | refine .tail _ ?_)) rfl) rfl rfl rfl ?_
  refine WL.abs (OpAbs.call rfl (fun m hm => errand_any (hvj.le (by repeat (first | exact hm.1 | replace hm := hm.2))) hs)) rfl rfl rfl ?_
  rintro m99 v99 h99
  refine WL.val (OpVal.opv rfl) rfl rfl rfl ?_
  refine WL.abs (OpAbs.call rfl (fun m hm => list11_any (hl.le (by repeat (first | exact hm.1 | replace hm := hm.2))) (by omega))) rfl rfl rfl ?_
  rintro m101 v101 h101
  refine WL.val (OpVal.call rfl (fun m hm => lateT_any (h99.le (by repeat (first | exact hm.1 | replace hm := hm.2))) hs (h101.le (by repeat (first | exact hm.1 | replace hm := hm.2))))) rfl rfl rfl ?_
  refine WL.val (OpVal.opv rfl) rfl rfl rfl ?_
  refine WL.val (OpVal.opv rfl) rfl rfl rfl ?_
  refine WL.val (OpVal.opv rfl) rfl rfl rfl ?_
  refine WL.val (OpVal.opv rfl) rfl rfl rfl ?_
  refine WL.val (OpVal.opv rfl) rfl rfl rfl ?_
  refine WL.nil ?_
  refine Kseq.go (W.seq ?_)
  skip
  refine W.region ?_
  refine WL.val (OpVal.loadPW rfl h3j (by repeat (first | exact .head _ | refine .tail _ ?_)) rfl) rfl rfl rfl ?_
  refine WL.abs (OpAbs.call rfl (fun m hm => errand_any (hvx.le (by repeat (first | exact hm.1 | replace hm := hm.2))) hsx)) rfl rfl rfl ?_
  rintro m107 v107 h107
  refine WL.val (OpVal.opv rfl) rfl rfl rfl ?_
  refine WL.abs (OpAbs.call rfl (fun m hm => list11_any (hl.le (by repeat (first | exact hm.1 | replace hm := hm.2))) (by omega))) rfl rfl rfl ?_
  rintro m109 v109 h109
  refine WL.val (OpVal.call rfl (fun m hm => lateT_any (h107.le (by repeat (first | exact hm.1 | replace hm := hm.2))) hsx (h109.le (by repeat (first | exact hm.1 | replace hm := hm.2))))) rfl rfl rfl ?_
  refine WL.val (OpVal.opv rfl) rfl rfl rfl ?_
  refine WL.val (OpVal.opv rfl) rfl rfl rfl ?_
  refine WL.val (OpVal.opv rfl) rfl rfl rfl ?_
  refine WL.val (OpVal.opv rfl) rfl rfl rfl ?_
  refine WL.val (OpVal.opv rfl) rfl rfl rfl ?_
  refine WL.nil ?_
  refine Kseq.go (W.seq ?_)
  have hlate : (lateV r l).2 = 7 → (lateV rx l).2 = 7 := fun e => (lateV_seven hVx hwx).2 fun i hi => inTime_mono hxn (by omega) (fun i => (hmo i).1) (fun i => (hmo i).2) (fun i => by rw [hxst]; exact Int.le_refl _) ((lateV_seven hV hw).1 e i hi)
  have hpr : proveB r l 7 = true → proveB rx l 7 = true := fun hp => by
    obtain ⟨p1, p2, p3⟩ := (proveB_iff7 hV hw 7).1 hp
    exact (proveB_iff7 hVx hwx 7).2 ⟨hsure l p1, by rw [hxm]; exact p2, p3⟩
  generalize (lateV r l).2 = g at *
  generalize (lateV rx l).2 = g' at *
  generalize hpx : proveB rx l 7 = bx at *
  generalize hpr' : proveB r l 7 = br at *
  clear hsure hmo hwx hw hxm
  skip
  skip
  refine W.region ?_
  refine WL.val (OpVal.opv rfl) rfl rfl rfl ?_
  refine WL.val (OpVal.cast (OpVal.opv rfl) (show _ = Value.bool true from rfl)) rfl rfl rfl ?_
  refine WL.val (OpVal.opv rfl) rfl rfl rfl ?_
  refine WL.splitB rfl rfl (fun g115 => ?_) (fun g115 => ?_)
  · refine WL.val (OpVal.opv rfl) rfl rfl rfl ?_
    refine WL.val (OpVal.cast (OpVal.opv rfl) (show _ = Value.bool true from rfl)) rfl rfl rfl ?_
    refine WL.val (OpVal.opv rfl) rfl rfl rfl ?_
    refine WL.val (OpVal.opv rfl) rfl rfl rfl ?_
    refine WL.splitB rfl rfl (fun g119 => ?_) (fun g119 => ?_)
    · refine WL.val (OpVal.opv rfl) rfl rfl rfl ?_
      refine WL.val (OpVal.len rfl hmv) rfl rfl rfl ?_
      refine WL.val (OpVal.opv rfl) rfl rfl rfl ?_
      refine WL.val (OpVal.len rfl hlv) rfl rfl rfl ?_
      refine WL.val (OpVal.cast (OpVal.opv rfl) (congrArg Value.bool (decide_eq_true (by omega)))) rfl rfl rfl ?_
      refine WL.val (OpVal.opv rfl) rfl rfl rfl ?_
      refine WL.val (OpVal.opv rfl) rfl rfl rfl ?_
      refine WL.splitB rfl rfl (fun g126 => ?_) (fun g126 => ?_)
      · refine WL.val (OpVal.opv rfl) rfl rfl rfl ?_
        refine WL.val (OpVal.opv rfl) rfl rfl rfl ?_
        refine WL.val (OpVal.opv rfl) rfl rfl rfl ?_
        refine WL.splitN rfl rfl (fun g129 => ?_) (fun g129 => ?_)
        · refine WL.pass rfl rfl rfl ?_
          refine WL.pass rfl rfl rfl ?_
          refine WL.pass rfl rfl rfl ?_
          refine WL.val (OpVal.opv rfl) rfl rfl rfl ?_
          refine WL.val (OpVal.opv rfl) rfl rfl rfl ?_
          refine WL.val (OpVal.opv rfl) rfl rfl rfl ?_
          refine WL.val (OpVal.loadPW rfl h1j (by repeat (first | exact .head _ | refine .tail _ ?_)) rfl) rfl rfl rfl ?_
          refine WL.abs (OpAbs.call rfl (fun m hm => errand_any (hvj.le (by repeat (first | exact hm.1 | replace hm := hm.2))) hs)) rfl rfl rfl ?_
          rintro m137 v137 h137
          refine WL.val (OpVal.opv rfl) rfl rfl rfl ?_
          refine WL.abs (OpAbs.call rfl (fun m hm => list11_any (hl.le (by repeat (first | exact hm.1 | replace hm := hm.2))) (by omega))) rfl rfl rfl ?_
          rintro m139 v139 h139
          refine WL.val (OpVal.cast (OpVal.call rfl (fun m hm => proveWalk_any 7 (h137.le (by repeat (first | exact hm.1 | replace hm := hm.2))) hs (h139.le (by repeat (first | exact hm.1 | replace hm := hm.2))))) (congrArg Value.bool hpr')) rfl rfl rfl ?_
          refine WL.val (OpVal.opv rfl) rfl rfl rfl ?_
          refine WL.val (OpVal.opv rfl) rfl rfl rfl ?_
          refine WL.splitB rfl rfl (fun g142 => ?_) (fun g142 => ?_)
          · refine WL.pass rfl rfl rfl ?_
            refine WL.pass rfl rfl rfl ?_
            refine WL.pass rfl rfl rfl ?_
            refine WL.pass rfl rfl rfl ?_
            refine WL.pass rfl rfl rfl ?_
            refine WL.val (OpVal.opv rfl) rfl rfl rfl ?_
            refine WL.val (OpVal.opv rfl) rfl rfl rfl ?_
            refine WL.val (OpVal.opv rfl) rfl rfl rfl ?_
            refine WL.val (OpVal.call rfl (fun m hm => awake11_any)) rfl rfl rfl ?_
            refine WL.val (OpVal.opv rfl) rfl rfl rfl ?_
            refine WL.val (OpVal.opv rfl) rfl rfl rfl ?_
            refine WL.nil ?_
            refine Kseq.go ?_
            first | exact Bool.noConfusion (show false = true from by assumption) | exact Bool.noConfusion (show true = false from by assumption) | (refine W.ret ?_; skip; refine ⟨.inl rfl, [_], mj, ⟨.tmp rfl, trivial⟩, (by repeat (first | exact .head _ | refine .tail _ ?_)), ?_⟩; rfl)
          · refine WL.val (OpVal.loadPW rfl h3j (by repeat (first | exact .head _ | refine .tail _ ?_)) rfl) rfl rfl rfl ?_
            refine WL.abs (OpAbs.call rfl (fun m hm => errand_any (hvx.le (by repeat (first | exact hm.1 | replace hm := hm.2))) hsx)) rfl rfl rfl ?_
            rintro m144 v144 h144
            refine WL.val (OpVal.opv rfl) rfl rfl rfl ?_
            refine WL.abs (OpAbs.call rfl (fun m hm => list11_any (hl.le (by repeat (first | exact hm.1 | replace hm := hm.2))) (by omega))) rfl rfl rfl ?_
            rintro m146 v146 h146
            refine WL.val (OpVal.cast (OpVal.call rfl (fun m hm => proveWalk_any 7 (h144.le (by repeat (first | exact hm.1 | replace hm := hm.2))) hsx (h146.le (by repeat (first | exact hm.1 | replace hm := hm.2))))) (congrArg Value.bool (hpx.trans (hpr (by simpa using (show (!br) = false from by assumption)))))) rfl rfl rfl ?_
            refine WL.val (OpVal.opv rfl) rfl rfl rfl ?_
            refine WL.val (OpVal.opv rfl) rfl rfl rfl ?_
            refine WL.val (OpVal.opv rfl) rfl rfl rfl ?_
            refine WL.splitB rfl rfl (fun g150 => ?_) (fun g150 => ?_)
            · refine WL.val (OpVal.call rfl (fun m hm => awake11_any)) rfl rfl rfl ?_
              refine WL.val (OpVal.opv rfl) rfl rfl rfl ?_
              refine WL.val (OpVal.opv rfl) rfl rfl rfl ?_
              refine WL.nil ?_
              refine Kseq.go ?_
              first | exact Bool.noConfusion (show false = true from by assumption) | exact Bool.noConfusion (show true = false from by assumption) | (refine W.ret ?_; skip; refine ⟨.inl rfl, [_], mj, ⟨.tmp rfl, trivial⟩, (by repeat (first | exact .head _ | refine .tail _ ?_)), ?_⟩; rfl)
            · refine WL.pass rfl rfl rfl ?_
              refine WL.val (OpVal.opv rfl) rfl rfl rfl ?_
              refine WL.val (OpVal.opv rfl) rfl rfl rfl ?_
              refine WL.nil ?_
              refine Kseq.go ?_
              first | exact Bool.noConfusion (show false = true from by assumption) | exact Bool.noConfusion (show true = false from by assumption) | (refine W.ret ?_; skip; refine ⟨.inl rfl, [_], mj, ⟨.tmp rfl, trivial⟩, (by repeat (first | exact .head _ | refine .tail _ ?_)), ?_⟩; rfl)
        · refine WL.val (OpVal.opv rfl) rfl rfl rfl ?_
          refine WL.val (OpVal.opv rfl) rfl rfl rfl ?_
          refine WL.val (OpVal.cast (OpVal.opv rfl) (congrArg Value.bool (show decide _ = true from decide_eq_true (by have e : g = 7 := (by first | assumption | (simpa using (show ¬ ¬ g = 7 from by assumption)) | (simpa using (show (!decide (g = 7)) = false from by assumption))); rw [hlate e, e])))) rfl rfl rfl ?_
          refine WL.val (OpVal.opv rfl) rfl rfl rfl ?_
          refine WL.val (OpVal.opv rfl) rfl rfl rfl ?_
          refine WL.val (OpVal.opv rfl) rfl rfl rfl ?_
          refine WL.splitB rfl rfl (fun g135 => ?_) (fun g135 => ?_)
          · refine WL.val (OpVal.loadPW rfl h1j (by repeat (first | exact .head _ | refine .tail _ ?_)) rfl) rfl rfl rfl ?_
            refine WL.abs (OpAbs.call rfl (fun m hm => errand_any (hvj.le (by repeat (first | exact hm.1 | replace hm := hm.2))) hs)) rfl rfl rfl ?_
            rintro m137 v137 h137
            refine WL.val (OpVal.opv rfl) rfl rfl rfl ?_
            refine WL.abs (OpAbs.call rfl (fun m hm => list11_any (hl.le (by repeat (first | exact hm.1 | replace hm := hm.2))) (by omega))) rfl rfl rfl ?_
            rintro m139 v139 h139
            refine WL.val (OpVal.cast (OpVal.call rfl (fun m hm => proveWalk_any 7 (h137.le (by repeat (first | exact hm.1 | replace hm := hm.2))) hs (h139.le (by repeat (first | exact hm.1 | replace hm := hm.2))))) (congrArg Value.bool hpr')) rfl rfl rfl ?_
            refine WL.val (OpVal.opv rfl) rfl rfl rfl ?_
            refine WL.val (OpVal.opv rfl) rfl rfl rfl ?_
            refine WL.splitB rfl rfl (fun g142 => ?_) (fun g142 => ?_)
            · refine WL.pass rfl rfl rfl ?_
              refine WL.pass rfl rfl rfl ?_
              refine WL.pass rfl rfl rfl ?_
              refine WL.pass rfl rfl rfl ?_
              refine WL.pass rfl rfl rfl ?_
              refine WL.val (OpVal.opv rfl) rfl rfl rfl ?_
              refine WL.val (OpVal.opv rfl) rfl rfl rfl ?_
              refine WL.val (OpVal.opv rfl) rfl rfl rfl ?_
              refine WL.val (OpVal.call rfl (fun m hm => awake11_any)) rfl rfl rfl ?_
              refine WL.val (OpVal.opv rfl) rfl rfl rfl ?_
              refine WL.val (OpVal.opv rfl) rfl rfl rfl ?_
              refine WL.nil ?_
              refine Kseq.go ?_
              first | exact Bool.noConfusion (show false = true from by assumption) | exact Bool.noConfusion (show true = false from by assumption) | (refine W.ret ?_; skip; refine ⟨.inl rfl, [_], mj, ⟨.tmp rfl, trivial⟩, (by repeat (first | exact .head _ | refine .tail _ ?_)), ?_⟩; rfl)
            · refine WL.val (OpVal.loadPW rfl h3j (by repeat (first | exact .head _ | refine .tail _ ?_)) rfl) rfl rfl rfl ?_
              refine WL.abs (OpAbs.call rfl (fun m hm => errand_any (hvx.le (by repeat (first | exact hm.1 | replace hm := hm.2))) hsx)) rfl rfl rfl ?_
              rintro m144 v144 h144
              refine WL.val (OpVal.opv rfl) rfl rfl rfl ?_
              refine WL.abs (OpAbs.call rfl (fun m hm => list11_any (hl.le (by repeat (first | exact hm.1 | replace hm := hm.2))) (by omega))) rfl rfl rfl ?_
              rintro m146 v146 h146
              refine WL.val (OpVal.cast (OpVal.call rfl (fun m hm => proveWalk_any 7 (h144.le (by repeat (first | exact hm.1 | replace hm := hm.2))) hsx (h146.le (by repeat (first | exact hm.1 | replace hm := hm.2))))) (congrArg Value.bool (hpx.trans (hpr (by simpa using (show (!br) = false from by assumption)))))) rfl rfl rfl ?_
              refine WL.val (OpVal.opv rfl) rfl rfl rfl ?_
              refine WL.val (OpVal.opv rfl) rfl rfl rfl ?_
              refine WL.val (OpVal.opv rfl) rfl rfl rfl ?_
              refine WL.splitB rfl rfl (fun g150 => ?_) (fun g150 => ?_)
              · refine WL.val (OpVal.call rfl (fun m hm => awake11_any)) rfl rfl rfl ?_
                refine WL.val (OpVal.opv rfl) rfl rfl rfl ?_
                refine WL.val (OpVal.opv rfl) rfl rfl rfl ?_
                refine WL.nil ?_
                refine Kseq.go ?_
                first | exact Bool.noConfusion (show false = true from by assumption) | exact Bool.noConfusion (show true = false from by assumption) | (refine W.ret ?_; skip; refine ⟨.inl rfl, [_], mj, ⟨.tmp rfl, trivial⟩, (by repeat (first | exact .head _ | refine .tail _ ?_)), ?_⟩; rfl)
              · refine WL.pass rfl rfl rfl ?_
                refine WL.val (OpVal.opv rfl) rfl rfl rfl ?_
                refine WL.val (OpVal.opv rfl) rfl rfl rfl ?_
                refine WL.nil ?_
                refine Kseq.go ?_
                first | exact Bool.noConfusion (show false = true from by assumption) | exact Bool.noConfusion (show true = false from by assumption) | (refine W.ret ?_; skip; refine ⟨.inl rfl, [_], mj, ⟨.tmp rfl, trivial⟩, (by repeat (first | exact .head _ | refine .tail _ ?_)), ?_⟩; rfl)
          · refine WL.pass rfl rfl rfl ?_
            refine WL.pass rfl rfl rfl ?_
            refine WL.pass rfl rfl rfl ?_
            refine WL.pass rfl rfl rfl ?_
            refine WL.pass rfl rfl rfl ?_
            refine WL.pass rfl rfl rfl ?_
            refine WL.pass rfl rfl rfl ?_
            refine WL.pass rfl rfl rfl ?_
            refine WL.pass rfl rfl rfl ?_
            refine WL.pass rfl rfl rfl ?_
            refine WL.pass rfl rfl rfl ?_
            refine WL.pass rfl rfl rfl ?_
            refine WL.pass rfl rfl rfl ?_
            refine WL.val (OpVal.opv rfl) rfl rfl rfl ?_
            refine WL.val (OpVal.opv rfl) rfl rfl rfl ?_
            refine WL.pass rfl rfl rfl ?_
            refine WL.val (OpVal.opv rfl) rfl rfl rfl ?_
            refine WL.val (OpVal.opv rfl) rfl rfl rfl ?_
            refine WL.nil ?_
            refine Kseq.go ?_
            first | exact Bool.noConfusion (show false = true from by assumption) | exact Bool.noConfusion (show true = false from by assumption) | (refine W.ret ?_; skip; refine ⟨.inl rfl, [_], mj, ⟨.tmp rfl, trivial⟩, (by repeat (first | exact .head _ | refine .tail _ ?_)), ?_⟩; rfl)
      · refine WL.pass rfl rfl rfl ?_
        refine WL.pass rfl rfl rfl ?_
        refine WL.pass rfl rfl rfl ?_
        refine WL.pass rfl rfl rfl ?_
        refine WL.pass rfl rfl rfl ?_
        refine WL.pass rfl rfl rfl ?_
        refine WL.pass rfl rfl rfl ?_
        refine WL.val (OpVal.opv rfl) rfl rfl rfl ?_
        refine WL.val (OpVal.opv rfl) rfl rfl rfl ?_
        refine WL.pass rfl rfl rfl ?_
        refine WL.pass rfl rfl rfl ?_
        refine WL.pass rfl rfl rfl ?_
        refine WL.pass rfl rfl rfl ?_
        refine WL.pass rfl rfl rfl ?_
        refine WL.pass rfl rfl rfl ?_
        refine WL.pass rfl rfl rfl ?_
        refine WL.pass rfl rfl rfl ?_
        refine WL.pass rfl rfl rfl ?_
        refine WL.pass rfl rfl rfl ?_
        refine WL.pass rfl rfl rfl ?_
        refine WL.pass rfl rfl rfl ?_
        refine WL.pass rfl rfl rfl ?_
        refine WL.val (OpVal.opv rfl) rfl rfl rfl ?_
        refine WL.val (OpVal.opv rfl) rfl rfl rfl ?_
        refine WL.pass rfl rfl rfl ?_
        refine WL.val (OpVal.opv rfl) rfl rfl rfl ?_
        refine WL.val (OpVal.opv rfl) rfl rfl rfl ?_
        refine WL.nil ?_
        refine Kseq.go ?_
        first | exact Bool.noConfusion (show false = true from by assumption) | exact Bool.noConfusion (show true = false from by assumption) | (refine W.ret ?_; skip; refine ⟨.inl rfl, [_], mj, ⟨.tmp rfl, trivial⟩, (by repeat (first | exact .head _ | refine .tail _ ?_)), ?_⟩; rfl)
    · refine WL.pass rfl rfl rfl ?_
      refine WL.pass rfl rfl rfl ?_
      refine WL.pass rfl rfl rfl ?_
      refine WL.pass rfl rfl rfl ?_
      refine WL.pass rfl rfl rfl ?_
      refine WL.val (OpVal.opv rfl) rfl rfl rfl ?_
      refine WL.val (OpVal.opv rfl) rfl rfl rfl ?_
      refine WL.pass rfl rfl rfl ?_
      refine WL.pass rfl rfl rfl ?_
      refine WL.pass rfl rfl rfl ?_
      refine WL.pass rfl rfl rfl ?_
      refine WL.pass rfl rfl rfl ?_
      refine WL.pass rfl rfl rfl ?_
      refine WL.pass rfl rfl rfl ?_
      refine WL.val (OpVal.opv rfl) rfl rfl rfl ?_
      refine WL.val (OpVal.opv rfl) rfl rfl rfl ?_
      refine WL.pass rfl rfl rfl ?_
      refine WL.pass rfl rfl rfl ?_
      refine WL.pass rfl rfl rfl ?_
      refine WL.pass rfl rfl rfl ?_
      refine WL.pass rfl rfl rfl ?_
      refine WL.pass rfl rfl rfl ?_
      refine WL.pass rfl rfl rfl ?_
      refine WL.pass rfl rfl rfl ?_
      refine WL.pass rfl rfl rfl ?_
      refine WL.pass rfl rfl rfl ?_
      refine WL.pass rfl rfl rfl ?_
      refine WL.pass rfl rfl rfl ?_
      refine WL.pass rfl rfl rfl ?_
      refine WL.val (OpVal.opv rfl) rfl rfl rfl ?_
      refine WL.val (OpVal.opv rfl) rfl rfl rfl ?_
      refine WL.pass rfl rfl rfl ?_
      refine WL.val (OpVal.opv rfl) rfl rfl rfl ?_
      refine WL.val (OpVal.opv rfl) rfl rfl rfl ?_
      refine WL.nil ?_
      refine Kseq.go ?_
      first | exact Bool.noConfusion (show false = true from by assumption) | exact Bool.noConfusion (show true = false from by assumption) | (refine W.ret ?_; skip; refine ⟨.inl rfl, [_], mj, ⟨.tmp rfl, trivial⟩, (by repeat (first | exact .head _ | refine .tail _ ?_)), ?_⟩; rfl)
  · refine WL.pass rfl rfl rfl ?_
    refine WL.pass rfl rfl rfl ?_
    refine WL.val (OpVal.opv rfl) rfl rfl rfl ?_
    refine WL.val (OpVal.opv rfl) rfl rfl rfl ?_
    refine WL.pass rfl rfl rfl ?_
    refine WL.pass rfl rfl rfl ?_
    refine WL.pass rfl rfl rfl ?_
    refine WL.pass rfl rfl rfl ?_
    refine WL.pass rfl rfl rfl ?_
    refine WL.val (OpVal.opv rfl) rfl rfl rfl ?_
    refine WL.val (OpVal.opv rfl) rfl rfl rfl ?_
    refine WL.pass rfl rfl rfl ?_
    refine WL.pass rfl rfl rfl ?_
    refine WL.pass rfl rfl rfl ?_
    refine WL.pass rfl rfl rfl ?_
    refine WL.pass rfl rfl rfl ?_
    refine WL.pass rfl rfl rfl ?_
    refine WL.pass rfl rfl rfl ?_
    refine WL.val (OpVal.opv rfl) rfl rfl rfl ?_
    refine WL.val (OpVal.opv rfl) rfl rfl rfl ?_
    refine WL.pass rfl rfl rfl ?_
    refine WL.pass rfl rfl rfl ?_
    refine WL.pass rfl rfl rfl ?_
    refine WL.pass rfl rfl rfl ?_
    refine WL.pass rfl rfl rfl ?_
    refine WL.pass rfl rfl rfl ?_
    refine WL.pass rfl rfl rfl ?_
    refine WL.pass rfl rfl rfl ?_
    refine WL.pass rfl rfl rfl ?_
    refine WL.pass rfl rfl rfl ?_
    refine WL.pass rfl rfl rfl ?_
    refine WL.pass rfl rfl rfl ?_
    refine WL.pass rfl rfl rfl ?_
    refine WL.val (OpVal.opv rfl) rfl rfl rfl ?_
    refine WL.val (OpVal.opv rfl) rfl rfl rfl ?_
    refine WL.pass rfl rfl rfl ?_
    refine WL.val (OpVal.opv rfl) rfl rfl rfl ?_
    refine WL.val (OpVal.opv rfl) rfl rfl rfl ?_
    refine WL.nil ?_
    refine Kseq.go ?_
    first | exact Bool.noConfusion (show false = true from by assumption) | exact Bool.noConfusion (show true = false from by assumption) | (refine W.ret ?_; skip; refine ⟨.inl rfl, [_], mj, ⟨.tmp rfl, trivial⟩, (by repeat (first | exact .head _ | refine .tail _ ?_)), ?_⟩; rfl)
end Go.Proofs.YtdjkokpbeaapoaaGreat
