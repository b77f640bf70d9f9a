/- The statement BundleMore: its contract. -/
import Derived.Test.YtgolpbkapphciaaT45
import Derived.Test.YtgolpbkapphciaaT41
import Derived.Test.YtgolpbkapphciaaT43
namespace Go.Proofs.Ytgolpbkapphciaa
open Go Go.Eng Go.RowKit

theorem subsets_at {h : Mem} {av bv : Value} {a b : List (List Int)} (ha : IsLists h av a) (hb : IsLists h bv b) (hs : subsB a b = true) : FnV Try.prog 43 #[av, bv] h (.bool true) := by
  have := subsets_any ha hb
  rwa [hs] at this
/-- BundleMore -/
theorem bundleMore_any {h : Mem} {v : Value} {t : Table} {n n2 : Nat} (hv : IsTable h v t) (hn : n < 256) (hn2 : n2 < 256) : FnV Try.prog 10 #[v, .int .u8 n, .int .u8 n2] h (.bool true) := by
  have hv' := hv
  obtain ⟨wv, pv, f, rfl, hW, hP, hM⟩ := hv
  refine FnR.val ?_
  refine FnR.of_W (n := 179) Try.func10 rfl rfl (Nat.le_of_ble_eq_true rfl) fun c hr hD hF => ?_
  refine W.seq ?_
  refine W.region ?_
  refine WL.box rfl rfl rfl rfl (fun b3 => ?_)
  refine WL.val (OpVal.opv rfl) rfl rfl rfl ?_
  refine WL.nil ?_
  refine Kseq.go (W.seq (W.seq ?_))
  refine W.freezeBox (.head _) (fun b hb => (hF b hb).elim) fun m1 h1 => ?_
  skip
  refine W.region ?_
  refine WL.val (OpVal.loadPW rfl (by assumption) (by repeat (first | exact .head _ | refine .tail _ ?_)) (by rfl)) rfl rfl rfl ?_
  refine WL.val (OpVal.call rfl (fun m hm => ready_any (hv'.le (by repeat (first | exact hm.1 | replace hm := hm.2))))) rfl rfl rfl ?_
  refine WL.val (OpVal.opv rfl) rfl rfl rfl ?_
  refine WL.nil ?_
  refine Kseq.go ?_
  refine W.cond rfl rfl (fun he => ?_) (fun hne => ?_)
  · refine W.seq ?_
    refine W.region ?_
    refine WL.val (OpVal.call rfl (fun m hm => awake_any)) rfl rfl rfl ?_
    refine WL.val (OpVal.opv rfl) rfl rfl rfl ?_
    refine WL.nil ?_
    refine Kseq.go ?_
    refine W.ret ?_; refine Kseq.ret ?_; refine ⟨.inl rfl, [_], h, ⟨.tmp rfl, trivial⟩, (by repeat (first | exact .head _ | refine .tail _ ?_)), ?_⟩
    rfl
  obtain ⟨hTh, hVa⟩ := readyB_iff.1 (by simpa using hne)
  have hs : Sm t := ThinB.sm hTh
  have hs1 := hs.1
  have hs2 := hs.2.1
  have hw5 := hVa.women
  have hwr := hVa.wrong
  have hf0 := fault_zero.2 hVa
  obtain ⟨wa, wc, rfl⟩ := IsArr.form hW
  obtain ⟨pa, pc, rfl⟩ := IsArr.form hP
  have hwl : (t.women.map wv3).length = t.women.length := by rw [List.length_map]
  have hkl : n % (t.women.length + 1) < t.women.length + 1 := Nat.mod_lt _ (by omega)
  have hMo := more_more hVa n n2
  refine W.skip (Kseq.go (W.seq ?_))
  skip
  refine W.region ?_
  refine WL.val (OpVal.loadPW rfl (by assumption) (by repeat (first | exact .head _ | refine .tail _ ?_)) (by rfl)) rfl rfl rfl ?_
  refine WL.alloc rfl rfl rfl (fun b7 => ?_)
  refine WL.store [_, _, _] rfl (.head _) rfl rfl rfl (Nat.le_of_ble_eq_true rfl) (by first | (simp [Value.cells, Value.oneCell']; done) | exact IsArr.ones hW (by omega) | exact IsArr.ones hP (by omega)) rfl ?_
  refine WL.nil ?_
  refine Kseq.go (W.seq ?_)
  skip
  refine W.region ?_
  (refine WL.lit (vs := []) [] rfl (Nat.le_of_ble_eq_true rfl) rfl rfl (by simp) (Nat.le_of_ble_eq_true rfl) rfl rfl rfl rfl (fun b27 => ?_))
  refine WL.val (OpVal.fieldAddrB rfl) rfl rfl rfl ?_
  refine WL.val (OpVal.loadP rfl (by assumption) (by repeat (first | exact .head _ | refine .tail _ ?_)) rfl) rfl rfl rfl ?_
  (refine WL.append (e := 69) (k := 3) (bytes := 24) (xs := []) (ys := flatv (t.women.map wv3)) (N := 0) (m2 := t.women.length) (μ' := fun v' => [kr 69 3 v' (t.women.map wv3), .blk b7 _ 25]) rfl (fun v' => by simp only [kr, List.length_map, Nat.zero_add, List.nil_append]; exact .head _) rfl hW.toCells (by repeat (first | exact .head _ | refine .tail _ ?_)) rfl (by omega) (by unfold maxLen; omega) (by omega) rfl rfl rfl ?_; intro a30 c30)
  refine WL.val (OpVal.fieldAddrB rfl) rfl rfl rfl ?_
  refine WL.store [_, _, _] rfl (.tail _ (.head _)) rfl rfl rfl (Nat.le_of_ble_eq_true rfl) (by first | (simp [Value.cells, Value.oneCell']; done) | exact IsArr.ones hW (by omega) | exact IsArr.ones hP (by omega)) rfl ?_
  refine WL.nil ?_
  refine Kseq.go (W.seq ?_)
  skip
  refine W.region ?_
  refine WL.val (OpVal.opv rfl) rfl rfl rfl ?_
  refine WL.val (OpVal.conv rfl (i64_in (by omega) (by omega))) rfl rfl rfl ?_
  refine WL.val (OpVal.fieldAddrB rfl) rfl rfl rfl ?_
  refine WL.val (OpVal.loadB rfl (.tail _ (.head _)) rfl) rfl rfl rfl ?_
  refine WL.val (OpVal.cast (OpVal.lenR rfl (.head _)) (congrArg (fun x : Nat => vi (x : Int)) hwl)) rfl rfl rfl ?_
  refine WL.val (OpVal.cast (OpVal.add rfl rfl (by omega) (by omega)) (show vi ((t.women.length : Int) + 1) = vi ((t.women.length + 1 : Nat) : Int) from rfl)) rfl rfl rfl ?_
  refine WL.val (OpVal.cast (OpVal.rem rfl rfl (by omega) (by omega)) (show vi ((n : Int) % ((t.women.length + 1 : Nat) : Int)) = vi ((n % (t.women.length + 1) : Nat) : Int) from rfl)) rfl rfl rfl ?_
  refine WL.val (OpVal.opv rfl) rfl rfl rfl ?_
  refine WL.nil ?_
  refine Kseq.go (W.seq (W.seq ?_))
  skip
  refine W.region ?_
  refine WL.val (OpVal.opv rfl) rfl rfl rfl ?_
  refine WL.val (OpVal.fieldAddrB rfl) rfl rfl rfl ?_
  refine WL.val (OpVal.loadB rfl (.tail _ (.head _)) rfl) rfl rfl rfl ?_
  refine WL.val (OpVal.cast (OpVal.lenR rfl (.head _)) (congrArg (fun x : Nat => vi (x : Int)) hwl)) rfl rfl rfl ?_
  refine WL.val (OpVal.opv rfl) rfl rfl rfl ?_
  refine WL.nil ?_
  refine Kseq.go ?_
  refine W.to [(3, .pointer (some ⟨b3, 0, none⟩)), (7, .pointer (some ⟨b7, 0, none⟩))] [m1, h] [kr 69 3 (.slice a30 (0 + t.women.length) c30) ((moreT t n n2).women.map wv3), .blk b7 [.slice a30 (0 + t.women.length) c30, .slice pa t.pieces.length pc, vi (moreT t n n2).wrong].toArray 25] ?_ ?_
  · by_cases hk : n % (t.women.length + 1) = t.women.length
    · have hx : moreT t n n2 = ⟨t.women, t.pieces, min 5 (t.wrong + (n2 : Int) % 3)⟩ := if_pos hk
      rw [hx]
      refine W.cond rfl rfl (fun _ => ?_) (fun he => absurd he (by simp [hk]))
      skip
      refine W.region ?_
      refine WL.val (OpVal.fieldAddrB rfl) rfl rfl rfl ?_
      refine WL.val (OpVal.loadP rfl (by assumption) (by repeat (first | exact .head _ | refine .tail _ ?_)) rfl) rfl rfl rfl ?_
      refine WL.val (OpVal.opv rfl) rfl rfl rfl ?_
      refine WL.val (OpVal.conv rfl (i64_in (by omega) (by omega))) rfl rfl rfl ?_
      refine WL.val (OpVal.rem rfl rfl (by omega) (by omega)) rfl rfl rfl ?_
      refine WL.val (OpVal.add rfl rfl (by omega) (by omega)) rfl rfl rfl ?_
      refine WL.val (OpVal.min2 rfl rfl) rfl rfl rfl ?_
      refine WL.val (OpVal.fieldAddrB rfl) rfl rfl rfl ?_
      refine WL.store [_, _, _] rfl (.tail _ (.head _)) rfl rfl rfl (Nat.le_of_ble_eq_true rfl) (by first | (simp [Value.cells, Value.oneCell']; done) | exact IsArr.ones hW (by omega) | exact IsArr.ones hP (by omega)) rfl ?_
      refine WL.nil ?_
      skip
      exact Keff.intro ⟨rfl, rfl, trivial⟩ (by simp) (.refl _)
    · have hx : moreT t n n2 = ⟨t.women.set (n % (t.women.length + 1)) ⟨(t.women.getD (n % (t.women.length + 1)) default).mark, max 0 ((t.women.getD (n % (t.women.length + 1)) default).lo - (n2 : Int) % 3), min 7 ((t.women.getD (n % (t.women.length + 1)) default).hi + (n2 : Int) / 3 % 3)⟩, t.pieces, t.wrong⟩ := if_neg hk
      rw [hx]
      have hkw : n % (t.women.length + 1) < t.women.length := by omega
      refine W.cond rfl rfl (fun he => absurd (of_decide_eq_true he) (fun e => hk (Int.ofNat_inj.1 e))) (fun _ => ?_)
      generalize n % (t.women.length + 1) = k at *
      have hwk := womanBad_iff.1 (hVa.woman k hkw)
      obtain ⟨hat1, hat2⟩ := women_at hkw
      have e1 := women_lo hkw (max 0 ((t.women.getD k default).lo - (n2 : Int) % 3))
      generalize hwd : t.women.getD k default = w at *
      have hkw2 : k < (t.women.set k ⟨w.mark, max 0 (w.lo - (n2 : Int) % 3), w.hi⟩).length := by simpa using hkw
      have e2 := women_hi hkw2 (min 7 (w.hi + (n2 : Int) / 3 % 3))
      have hg : (t.women.set k ⟨w.mark, max 0 (w.lo - (n2 : Int) % 3), w.hi⟩).getD k default = ⟨w.mark, max 0 (w.lo - (n2 : Int) % 3), w.hi⟩ := by
        rw [List.getD_eq_getElem?_getD, List.getElem?_set]; simp [hkw]
      rw [hg, List.set_set] at e2
      refine W.seq ?_
      refine W.region ?_
      refine WL.val (OpVal.fieldAddrB rfl) rfl rfl rfl ?_
      refine WL.val (OpVal.loadB rfl (.tail _ (.head _)) rfl) rfl rfl rfl ?_
      refine WL.val (OpVal.opv rfl) rfl rfl rfl ?_
      refine WL.val (OpVal.indexAddrR rfl rfl (.head _) (by omega)) rfl rfl rfl ?_
      refine WL.val (OpVal.fieldAddrR rfl (.head _) (by rw [hwl]; exact hkw)) rfl rfl rfl ?_
      refine WL.val (OpVal.opv rfl) rfl rfl rfl ?_
      refine WL.nil ?_
      refine Kseq.go ?_
      let l0 : List (Nat × Value) := [(2, .int .u8 (n2 : Int)), (3, .pointer (some ⟨b3, 0, none⟩)), (7, .pointer (some ⟨b7, 0, none⟩)), (9, EP (.slice a30 (0 + t.women.length) c30) 3 k (0 + 1))]
      have hl2 : ((t.women.set k ⟨w.mark, max 0 (w.lo - (n2 : Int) % 3), w.hi⟩).map wv3).length = t.women.length := by rw [List.length_map, List.length_set]
      have hl3 : ((t.women.set k ⟨w.mark, max 0 (w.lo - (n2 : Int) % 3), min 7 (w.hi + (n2 : Int) / 3 % 3)⟩).map wv3).length = t.women.length := by rw [List.length_map, List.length_set]
      skip
      refine W.weaken l0 _ _ (by repeat (first | exact trivial | refine ⟨rfl, ?_⟩)) (fun _ h => h) (.refl _) ?_
      skip
      refine W.drawN (γ := Ph1 Unit) .a 24 [23] (Ph1.sel l0 (fun _ => l0)) (Ph1.sel [kr 69 3 (.slice a30 (0 + t.women.length) c30) (t.women.map wv3), .blk b7 [.slice a30 (0 + t.women.length) c30, .slice pa t.pieces.length pc, vi t.wrong].toArray 25] (fun _ => [kr 69 3 (.slice a30 (0 + t.women.length) c30) ((t.women.set k ⟨w.mark, max 0 (w.lo - (n2 : Int) % 3), w.hi⟩).map wv3), .blk b7 [.slice a30 (0 + t.women.length) c30, .slice pa t.pieces.length pc, vi t.wrong].toArray 25])) Ph1.num (by kernel_rfl) (by kernel_rfl) (by kernel_rfl) rfl Ph1.le (Ph1.all rfl (fun _ => rfl)) rfl rfl ?_
      refine DJN.val [] (Ph1.all (fun hg => OpVal.opv rfl) (fun x1 hg => Bool.noConfusion (show false = true from hg))) (Ph1.all (fun hg => rfl) (fun x1 hg => Bool.noConfusion (show false = true from hg))) rfl rfl (Ph1.all rfl (fun _ => rfl)) rfl ?_
      refine DJN.val [] (Ph1.all (fun hg => OpVal.opv rfl) (fun x1 hg => OpVal.opv rfl)) (Ph1.all (fun hg => rfl) (fun x1 hg => rfl)) rfl rfl (Ph1.all rfl (fun _ => rfl)) rfl ?_
      refine DJN.val [] (Ph1.all (fun hg => OpVal.opv rfl) (fun x1 hg => Bool.noConfusion (show false = true from hg))) (Ph1.all (fun hg => rfl) (fun x1 hg => Bool.noConfusion (show false = true from hg))) rfl rfl (Ph1.all rfl (fun _ => rfl)) rfl ?_
      refine DJN.val [] (Ph1.all (fun hg => (by first | exact OpVal.nilCheckR rfl (.head _) (by rw [hwl]; exact hkw) | exact OpVal.nilCheckR rfl (.head _) (by rw [hl2]; exact hkw))) (fun x1 hg => Bool.noConfusion (show false = true from hg))) (Ph1.all (fun hg => rfl) (fun x1 hg => Bool.noConfusion (show false = true from hg))) rfl rfl (Ph1.all rfl (fun _ => rfl)) rfl ?_
      refine DJN.val [] (Ph1.all (fun hg => (by first | exact OpVal.fieldAddrR rfl (.head _) (by rw [hwl]; exact hkw) | exact OpVal.fieldAddrR rfl (.head _) (by rw [hl2]; exact hkw))) (fun x1 hg => Bool.noConfusion (show false = true from hg))) (Ph1.all (fun hg => rfl) (fun x1 hg => Bool.noConfusion (show false = true from hg))) rfl rfl (Ph1.all rfl (fun _ => rfl)) rfl ?_
      refine DJN.val [] (Ph1.all (fun hg => OpVal.loadR rfl (.head _) (by rw [hwl]; exact hkw) (by omega) hat1) (fun x1 hg => Bool.noConfusion (show false = true from hg))) (Ph1.all (fun hg => rfl) (fun x1 hg => Bool.noConfusion (show false = true from hg))) rfl rfl (Ph1.all rfl (fun _ => rfl)) rfl ?_
      refine DJN.val [] (Ph1.all (fun hg => OpVal.opv rfl) (fun x1 hg => Bool.noConfusion (show false = true from hg))) (Ph1.all (fun hg => rfl) (fun x1 hg => Bool.noConfusion (show false = true from hg))) rfl rfl (Ph1.all rfl (fun _ => rfl)) rfl ?_
      refine DJN.val [] (Ph1.all (fun hg => OpVal.conv rfl (i64_in (by omega) (by omega))) (fun x1 hg => Bool.noConfusion (show false = true from hg))) (Ph1.all (fun hg => rfl) (fun x1 hg => Bool.noConfusion (show false = true from hg))) rfl rfl (Ph1.all rfl (fun _ => rfl)) rfl ?_
      refine DJN.val [] (Ph1.all (fun hg => OpVal.rem rfl rfl (by omega) (by omega)) (fun x1 hg => Bool.noConfusion (show false = true from hg))) (Ph1.all (fun hg => rfl) (fun x1 hg => Bool.noConfusion (show false = true from hg))) rfl rfl (Ph1.all rfl (fun _ => rfl)) rfl ?_
      refine DJN.val [] (Ph1.all (fun hg => OpVal.sub rfl rfl (by omega) (by omega)) (fun x1 hg => Bool.noConfusion (show false = true from hg))) (Ph1.all (fun hg => rfl) (fun x1 hg => Bool.noConfusion (show false = true from hg))) rfl rfl (Ph1.all rfl (fun _ => rfl)) rfl ?_
      refine DJN.val [] (Ph1.all (fun hg => OpVal.max2 rfl rfl) (fun x1 hg => Bool.noConfusion (show false = true from hg))) (Ph1.all (fun hg => rfl) (fun x1 hg => Bool.noConfusion (show false = true from hg))) rfl rfl (Ph1.all rfl (fun _ => rfl)) rfl ?_
      refine DJN.val [] (Ph1.all (fun hg => OpVal.opv rfl) (fun x1 hg => OpVal.opv rfl)) (Ph1.all (fun hg => rfl) (fun x1 hg => rfl)) rfl rfl (Ph1.all rfl (fun _ => rfl)) rfl ?_
      refine DJN.val [] (Ph1.all (fun hg => (by first | exact OpVal.nilCheckR rfl (.head _) (by rw [hwl]; exact hkw) | exact OpVal.nilCheckR rfl (.head _) (by rw [hl2]; exact hkw))) (fun x1 hg => (by first | exact OpVal.nilCheckR rfl (.head _) (by rw [hwl]; exact hkw) | exact OpVal.nilCheckR rfl (.head _) (by rw [hl2]; exact hkw)))) (Ph1.all (fun hg => rfl) (fun x1 hg => rfl)) rfl rfl (Ph1.all rfl (fun _ => rfl)) rfl ?_
      refine DJN.val [] (Ph1.all (fun hg => (by first | exact OpVal.fieldAddrR rfl (.head _) (by rw [hwl]; exact hkw) | exact OpVal.fieldAddrR rfl (.head _) (by rw [hl2]; exact hkw))) (fun x1 hg => (by first | exact OpVal.fieldAddrR rfl (.head _) (by rw [hwl]; exact hkw) | exact OpVal.fieldAddrR rfl (.head _) (by rw [hl2]; exact hkw)))) (Ph1.all (fun hg => rfl) (fun x1 hg => rfl)) rfl rfl (Ph1.all rfl (fun _ => rfl)) rfl ?_
      refine DJN.val [] (Ph1.all (fun hg => OpVal.loadR rfl (.head _) (by rw [hwl]; exact hkw) (by omega) hat2) (fun x1 hg => Bool.noConfusion (show false = true from hg))) (Ph1.all (fun hg => rfl) (fun x1 hg => Bool.noConfusion (show false = true from hg))) rfl rfl (Ph1.all rfl (fun _ => rfl)) rfl ?_
      refine DJN.val [] (Ph1.all (fun hg => OpVal.opv rfl) (fun x1 hg => OpVal.opv rfl)) (Ph1.all (fun hg => rfl) (fun x1 hg => rfl)) rfl rfl (Ph1.all rfl (fun _ => rfl)) rfl ?_
      refine DJN.val [] (Ph1.all (fun hg => OpVal.conv rfl (i64_in (by omega) (by omega))) (fun x1 hg => OpVal.conv rfl (i64_in (by omega) (by omega)))) (Ph1.all (fun hg => rfl) (fun x1 hg => rfl)) rfl rfl (Ph1.all rfl (fun _ => rfl)) rfl ?_
      refine DJN.val [] (Ph1.all (fun hg => OpVal.quo rfl rfl (by omega) (by omega) (by omega)) (fun x1 hg => OpVal.quo rfl rfl (by omega) (by omega) (by omega))) (Ph1.all (fun hg => rfl) (fun x1 hg => rfl)) rfl rfl (Ph1.all rfl (fun _ => rfl)) rfl ?_
      refine DJN.val [] (Ph1.all (fun hg => OpVal.rem rfl rfl (by omega) (by omega)) (fun x1 hg => OpVal.rem rfl rfl (by omega) (by omega))) (Ph1.all (fun hg => rfl) (fun x1 hg => rfl)) rfl rfl (Ph1.all rfl (fun _ => rfl)) rfl ?_
      refine DJN.val [] (Ph1.all (fun hg => OpVal.add rfl rfl (by omega) (by omega)) (fun x1 hg => OpVal.add rfl rfl (by omega) (by omega))) (Ph1.all (fun hg => rfl) (fun x1 hg => rfl)) rfl rfl (Ph1.all rfl (fun _ => rfl)) rfl ?_
      refine DJN.val [] (Ph1.all (fun hg => OpVal.min2 rfl rfl) (fun x1 hg => OpVal.min2 rfl rfl)) (Ph1.all (fun hg => rfl) (fun x1 hg => rfl)) rfl rfl (Ph1.all rfl (fun _ => rfl)) rfl ?_
      refine DJN.val [] (Ph1.all (fun hg => (by first | exact OpVal.nilCheckR rfl (.head _) (by rw [hwl]; exact hkw) | exact OpVal.nilCheckR rfl (.head _) (by rw [hl2]; exact hkw))) (fun x1 hg => (by first | exact OpVal.nilCheckR rfl (.head _) (by rw [hwl]; exact hkw) | exact OpVal.nilCheckR rfl (.head _) (by rw [hl2]; exact hkw)))) (Ph1.all (fun hg => rfl) (fun x1 hg => rfl)) rfl rfl (Ph1.all rfl (fun _ => rfl)) rfl ?_
      refine DJN.val [] (Ph1.all (fun hg => (by first | exact OpVal.fieldAddrR rfl (.head _) (by rw [hwl]; exact hkw) | exact OpVal.fieldAddrR rfl (.head _) (by rw [hl2]; exact hkw))) (fun x1 hg => Bool.noConfusion (show false = true from hg))) (Ph1.all (fun hg => rfl) (fun x1 hg => Bool.noConfusion (show false = true from hg))) rfl rfl (Ph1.all rfl (fun _ => rfl)) rfl ?_
      refine DJN.eff 0 [(79, _), (67, _)] ⟨rfl, rfl, trivial⟩ rfl rfl [] trivial (Ph1.all (fun hg => ⟨rfl, fun M2 hM2 => ?_⟩) (fun x1 hg => absurd hg (by simp [Ph1.num]))) ?_
      · (refine WL.storeR (T := 69) (k := 3) (xs := flatv (t.women.map wv3)) (μ' := [kr 69 3 (.slice a30 (0 + t.women.length) c30) ((t.women.set k ⟨w.mark, max 0 (w.lo - (n2 : Int) % 3), w.hi⟩).map wv3), .blk b7 [.slice a30 (0 + t.women.length) c30, .slice pa t.pieces.length pc, vi t.wrong].toArray 25]) rfl (by unfold kr; rw [← e1, hwl, hl2]; exact .head _) rfl rfl rfl (by omega) (Nat.le_of_ble_eq_true rfl) (by simp [Value.cells, Value.oneCell']) ?_; exact WL.nil ⟨.b (), rfl, Keff.intro (by repeat (first | exact trivial | refine ⟨rfl, ?_⟩)) (fun x hx => hx) (.refl _)⟩)
      refine DJN.nil (Ph1.all (fun hg => absurd hg (by simp [Ph1.num])) (fun x1 hg => ?_))
      refine WL.val ((by first | exact OpVal.nilCheckR rfl (.head _) (by rw [hwl]; exact hkw) | exact OpVal.nilCheckR rfl (.head _) (by rw [hl2]; exact hkw))) rfl rfl rfl ?_
      refine WL.val ((by first | exact OpVal.fieldAddrR rfl (.head _) (by rw [hwl]; exact hkw) | exact OpVal.fieldAddrR rfl (.head _) (by rw [hl2]; exact hkw))) rfl rfl rfl ?_
      (refine WL.storeR (T := 69) (k := 3) (xs := flatv ((t.women.set k ⟨w.mark, max 0 (w.lo - (n2 : Int) % 3), w.hi⟩).map wv3)) (μ' := [kr 69 3 (.slice a30 (0 + t.women.length) c30) ((t.women.set k ⟨w.mark, max 0 (w.lo - (n2 : Int) % 3), min 7 (w.hi + (n2 : Int) / 3 % 3)⟩).map wv3), .blk b7 [.slice a30 (0 + t.women.length) c30, .slice pa t.pieces.length pc, vi t.wrong].toArray 25]) rfl (by unfold kr; rw [← e2, hl2, hl3]; exact .head _) rfl rfl rfl (by omega) (Nat.le_of_ble_eq_true rfl) (by simp [Value.cells, Value.oneCell']) ?_)
      refine WL.nil ?_
      skip
      exact Keff.intro ⟨rfl, rfl, trivial⟩ (by simp) (.refl _)
  · generalize hxd : moreT t n n2 = x at *
    have hVx := hMo.valid
    have hsx : Sm x := ⟨by have := hVx.women; omega, by have := hVx.pieces; omega, fun i hi => by rw [hMo.pcs] at hi ⊢; exact hs.2.2 i hi⟩
    have hfx := fault_zero.2 hVx
    refine Kseq.go (W.seq ?_)
    refine W.freezeK (.head _) (fun b hb => (hF b hb).elim) (by omega) (by simp [wv3, Value.cells]) (by simp [wv3, Value.cells, Value.oneCell']) fun m2 hm2 => ?_
    have hm2' := women_of hm2
    clear hm2
    refine W.join fun mj hj => ?_
    have hx : IsTable mj (.agg #[.slice a30 (0 + t.women.length) c30, .slice pa t.pieces.length pc, vi x.wrong]) x := by
      refine ⟨_, _, f, rfl, hm2'.le (hj m2 (by simp)), ?_, ?_⟩
      · rw [hMo.pcs]; exact IsPieces.le hP (hj h (by simp))
      · rw [hMo.pcs]; exact IsMarks.le hM (hj h (by simp))
    obtain ⟨l, hle, hinc, hS⟩ := left_small hVa
    obtain ⟨l', hle', hinc', hS'⟩ := left_small hVx
    have hlen := hMo.left hS hS'
    skip
    refine W.region ?_
    refine WL.val (OpVal.loadPW rfl (by assumption) (by repeat (first | exact .head _ | refine .tail _ ?_)) (by rfl)) rfl rfl rfl ?_
    refine WL.abs (OpAbs.call rfl (fun m hm => table_any (hv'.le (by repeat (first | exact hm.1 | replace hm := hm.2))) hs)) rfl rfl rfl ?_
    rintro m84 v84 h84
    refine WL.abs (OpAbs.call rfl (fun m hm => leaveT_any (h84.le (by repeat (first | exact hm.1 | replace hm := hm.2))) hs)) rfl rfl rfl ?_
    rintro m85 _ ⟨lv, rfl, _, hl2⟩
    have hlI := hl2 hf0 l hle
    refine WL.val (OpVal.opv rfl) rfl rfl rfl ?_
    refine WL.val (OpVal.opv rfl) rfl rfl rfl ?_
    refine WL.val (OpVal.opv rfl) rfl rfl rfl ?_
    refine WL.val (OpVal.opv rfl) rfl rfl rfl ?_
    refine WL.val (OpVal.opv rfl) rfl rfl rfl ?_
    refine WL.nil ?_
    refine Kseq.go (W.seq ?_)
    skip
    refine W.region ?_
    refine WL.val (OpVal.loadBW rfl (.head _) rfl) rfl rfl rfl ?_
    refine WL.abs (OpAbs.call rfl (fun m hm => table_any (hx.le (by repeat (first | exact hm.1 | replace hm := hm.2))) hsx)) rfl rfl rfl ?_
    rintro m90 v90 h90
    refine WL.abs (OpAbs.call rfl (fun m hm => leaveT_any (h90.le (by repeat (first | exact hm.1 | replace hm := hm.2))) hsx)) rfl rfl rfl ?_
    rintro m91 _ ⟨lv', rfl, _, hl2'⟩
    have hlI' := hl2' hfx l' hle'
    refine WL.val (OpVal.opv rfl) rfl rfl rfl ?_
    refine WL.val (OpVal.opv rfl) rfl rfl rfl ?_
    refine WL.val (OpVal.opv rfl) rfl rfl rfl ?_
    refine WL.val (OpVal.opv rfl) rfl rfl rfl ?_
    refine WL.val (OpVal.opv rfl) rfl rfl rfl ?_
    refine WL.nil ?_
    refine Kseq.go (W.seq (W.seq ?_))
    rw [hf0, hfx]
    skip
    refine W.region ?_
    refine WL.val (OpVal.opv rfl) rfl rfl rfl ?_
    refine WL.val (OpVal.neqF rfl rfl) rfl rfl rfl ?_
    refine WL.val (OpVal.opv rfl) rfl rfl rfl ?_
    refine WL.val (OpVal.opv rfl) rfl rfl rfl ?_
    refine WL.val (OpVal.neqF rfl rfl) rfl rfl rfl ?_
    refine WL.val (OpVal.opv rfl) rfl rfl rfl ?_
    refine WL.val (OpVal.opv rfl) rfl rfl rfl ?_
    refine WL.val (OpVal.opv rfl) rfl rfl rfl ?_
    refine WL.val (OpVal.len rfl hlI') rfl rfl rfl ?_
    refine WL.val (OpVal.opv rfl) rfl rfl rfl ?_
    refine WL.val (OpVal.len rfl hlI) rfl rfl rfl ?_
    refine WL.val (OpVal.cast (OpVal.opv rfl) (congrArg Value.bool (decide_eq_false (by omega)))) rfl rfl rfl ?_
    refine WL.val (OpVal.opv rfl) rfl rfl rfl ?_
    refine WL.nil ?_
    refine Kseq.go ?_
    refine W.condF rfl rfl ?_
    refine W.skip (Kseq.go (W.seq ?_))
    skip
    refine W.region ?_
    refine WL.val (OpVal.loadPW rfl (by assumption) (by repeat (first | exact .head _ | refine .tail _ ?_)) (by rfl)) rfl rfl rfl ?_
    refine WL.abs (OpAbs.call rfl (fun m hm => table_any (hv'.le (by repeat (first | exact hm.1 | replace hm := hm.2))) hs)) rfl rfl rfl ?_
    rintro m109 v109 h109
    refine WL.abs (OpAbs.call rfl (fun m hm => whoseT_any (h109.le (by repeat (first | exact hm.1 | replace hm := hm.2))) hs)) rfl rfl rfl ?_
    rintro m110 _ ⟨w1, rfl, hw1⟩
    refine WL.val (OpVal.opv rfl) rfl rfl rfl ?_
    refine WL.val (OpVal.opv rfl) rfl rfl rfl ?_
    refine WL.val (OpVal.opv rfl) rfl rfl rfl ?_
    refine WL.val (OpVal.opv rfl) rfl rfl rfl ?_
    refine WL.val (OpVal.opv rfl) rfl rfl rfl ?_
    refine WL.nil ?_
    refine Kseq.go (W.seq ?_)
    skip
    refine W.region ?_
    refine WL.val (OpVal.loadBW rfl (.head _) rfl) rfl rfl rfl ?_
    refine WL.abs (OpAbs.call rfl (fun m hm => table_any (hx.le (by repeat (first | exact hm.1 | replace hm := hm.2))) hsx)) rfl rfl rfl ?_
    rintro m115 v115 h115
    refine WL.abs (OpAbs.call rfl (fun m hm => whoseT_any (h115.le (by repeat (first | exact hm.1 | replace hm := hm.2))) hsx)) rfl rfl rfl ?_
    rintro m116 _ ⟨w2, rfl, hw2⟩
    refine WL.val (OpVal.opv rfl) rfl rfl rfl ?_
    refine WL.val (OpVal.opv rfl) rfl rfl rfl ?_
    refine WL.val (OpVal.opv rfl) rfl rfl rfl ?_
    refine WL.val (OpVal.opv rfl) rfl rfl rfl ?_
    refine WL.val (OpVal.opv rfl) rfl rfl rfl ?_
    refine WL.nil ?_
    refine Kseq.go (W.seq (W.seq ?_))
    by_cases hE : askE t = 0
    · have h0 := askE_ne hE
      have hEx : askE x = 0 := by rw [askE_nil hVx, if_neg (hMo.ne h0)]
      rw [if_pos hE] at hw1
      rw [if_pos hEx] at hw2
      rw [hE, hEx]
      have hlo := hMo.lo h0
      have hhi := hMo.hi h0
      obtain ⟨lo1, hlo1⟩ : ∃ z, loQ (aN t) (ask t) (ask t).length = z := ⟨_, rfl⟩
      obtain ⟨hi1, hhi1⟩ : ∃ z, hiQ (aN t) (ask t) (ask t).length = z := ⟨_, rfl⟩
      obtain ⟨lo2, hlo2⟩ : ∃ z, loQ (aN x) (ask x) (ask x).length = z := ⟨_, rfl⟩
      obtain ⟨hi2, hhi2⟩ : ∃ z, hiQ (aN x) (ask x) (ask x).length = z := ⟨_, rfl⟩
      rw [hlo1, hlo2] at hlo
      rw [hhi1, hhi2] at hhi
      skip
      refine W.region ?_
      refine WL.val (OpVal.opv rfl) rfl rfl rfl ?_
      refine WL.val (OpVal.neqF rfl rfl) rfl rfl rfl ?_
      refine WL.nil ?_
      refine Kseq.go ?_
      refine W.condF rfl rfl ?_
      refine W.skip (Kseq.go (W.seq ?_))
      skip
      refine W.region ?_
      refine WL.val (OpVal.loadPW rfl (by assumption) (by repeat (first | exact .head _ | refine .tail _ ?_)) (by rfl)) rfl rfl rfl ?_
      refine WL.abs (OpAbs.call rfl (fun m hm => table_any (hv'.le (by repeat (first | exact hm.1 | replace hm := hm.2))) hs)) rfl rfl rfl ?_
      rintro m137 v137 h137
      refine WL.val (OpVal.call rfl (fun m hm => astrayT_at (h137.le (by repeat (first | exact hm.1 | replace hm := hm.2))) hs hE hlo1 hhi1)) rfl rfl rfl ?_
      refine WL.val (OpVal.opv rfl) rfl rfl rfl ?_
      refine WL.val (OpVal.opv rfl) rfl rfl rfl ?_
      refine WL.val (OpVal.opv rfl) rfl rfl rfl ?_
      refine WL.alloc rfl rfl rfl (fun b18 => ?_)
      refine WL.store [_, _] rfl (.head _) rfl rfl rfl (Nat.le_of_ble_eq_true rfl) (by first | (simp [Value.cells, Value.oneCell']; done) | exact IsArr.ones hW (by omega) | exact IsArr.ones hP (by omega)) rfl ?_
      refine WL.val (OpVal.opv rfl) rfl rfl rfl ?_
      refine WL.nil ?_
      refine Kseq.go (W.seq ?_)
      skip
      refine W.region ?_
      refine WL.val (OpVal.loadBW rfl (.tail _ (.head _)) rfl) rfl rfl rfl ?_
      refine WL.abs (OpAbs.call rfl (fun m hm => table_any (hx.le (by repeat (first | exact hm.1 | replace hm := hm.2))) hsx)) rfl rfl rfl ?_
      rintro m143 v143 h143
      refine WL.val (OpVal.call rfl (fun m hm => astrayT_at (h143.le (by repeat (first | exact hm.1 | replace hm := hm.2))) hsx hEx hlo2 hhi2)) rfl rfl rfl ?_
      refine WL.val (OpVal.opv rfl) rfl rfl rfl ?_
      refine WL.val (OpVal.opv rfl) rfl rfl rfl ?_
      refine WL.val (OpVal.opv rfl) rfl rfl rfl ?_
      refine WL.alloc rfl rfl rfl (fun b20 => ?_)
      refine WL.store [_, _] rfl (.head _) rfl rfl rfl (Nat.le_of_ble_eq_true rfl) (by first | (simp [Value.cells, Value.oneCell']; done) | exact IsArr.ones hW (by omega) | exact IsArr.ones hP (by omega)) rfl ?_
      refine WL.val (OpVal.opv rfl) rfl rfl rfl ?_
      refine WL.nil ?_
      refine Kseq.go (W.seq ?_)
      skip
      refine W.region ?_
      refine WL.val (OpVal.opv rfl) rfl rfl rfl ?_
      refine WL.val (OpVal.eqT rfl rfl) rfl rfl rfl ?_
      refine WL.val (OpVal.opv rfl) rfl rfl rfl ?_
      refine WL.val (OpVal.opv rfl) rfl rfl rfl ?_
      refine WL.val (OpVal.opv rfl) rfl rfl rfl ?_
      refine WL.val (OpVal.call rfl (fun m hm => subsets_at (hw1.le (by repeat (first | exact hm.1 | replace hm := hm.2))) (hw2.le (by repeat (first | exact hm.1 | replace hm := hm.2))) hMo.who)) rfl rfl rfl ?_
      refine WL.val (OpVal.opv rfl) rfl rfl rfl ?_
      refine WL.val (OpVal.opv rfl) rfl rfl rfl ?_
      refine WL.val (OpVal.opv rfl) rfl rfl rfl ?_
      refine WL.val (OpVal.eqT rfl rfl) rfl rfl rfl ?_
      refine WL.val (OpVal.opv rfl) rfl rfl rfl ?_
      refine WL.val (OpVal.opv rfl) rfl rfl rfl ?_
      refine WL.val (OpVal.opv rfl) rfl rfl rfl ?_
      refine WL.val (OpVal.eqT rfl rfl) rfl rfl rfl ?_
      refine WL.val (OpVal.opv rfl) rfl rfl rfl ?_
      refine WL.val (OpVal.opv rfl) rfl rfl rfl ?_
      refine WL.val (OpVal.fieldAddrB rfl) rfl rfl rfl ?_
      refine WL.val (OpVal.loadB rfl (.head _) rfl) rfl rfl rfl ?_
      refine WL.val (OpVal.fieldAddrB rfl) rfl rfl rfl ?_
      refine WL.val (OpVal.loadB rfl (.tail _ (.head _)) rfl) rfl rfl rfl ?_
      refine WL.val (OpVal.cast (OpVal.opv rfl) (congrArg Value.bool (decide_eq_true (by omega)))) rfl rfl rfl ?_
      refine WL.val (OpVal.opv rfl) rfl rfl rfl ?_
      refine WL.val (OpVal.opv rfl) rfl rfl rfl ?_
      refine WL.val (OpVal.fieldAddrB rfl) rfl rfl rfl ?_
      refine WL.val (OpVal.loadB rfl (.head _) rfl) rfl rfl rfl ?_
      refine WL.val (OpVal.fieldAddrB rfl) rfl rfl rfl ?_
      refine WL.val (OpVal.loadB rfl (.tail _ (.head _)) rfl) rfl rfl rfl ?_
      refine WL.val (OpVal.cast (OpVal.opv rfl) (congrArg Value.bool (decide_eq_true (by omega)))) rfl rfl rfl ?_
      refine WL.val (OpVal.opv rfl) rfl rfl rfl ?_
      refine WL.val (OpVal.opv rfl) rfl rfl rfl ?_
      refine WL.val (OpVal.call rfl (fun m hm => awake_any)) rfl rfl rfl ?_
      refine WL.val (OpVal.opv rfl) rfl rfl rfl ?_
      refine WL.val (OpVal.opv rfl) rfl rfl rfl ?_
      refine WL.nil ?_
      refine Kseq.go ?_
      refine W.ret ?_; skip; refine ⟨.inl rfl, [_], h, ⟨.tmp rfl, trivial⟩, (by repeat (first | exact .head _ | refine .tail _ ?_)), ?_⟩
      rfl
    · obtain ⟨hE11, hnil⟩ := askE_valid hVa hE
      rw [hE11]
      skip
      refine W.region ?_
      refine WL.val (OpVal.opv rfl) rfl rfl rfl ?_
      refine WL.val (OpVal.cast (OpVal.opv rfl) (congrArg (fun b => Value.bool (!b)) (decide_eq_false (by decide)))) rfl rfl rfl ?_
      refine WL.nil ?_
      refine Kseq.go ?_
      refine W.condT rfl rfl ?_
      by_cases hEx : askE x = 0
      · rw [hEx]
        refine W.seq ?_
        refine W.region ?_
        refine WL.val (OpVal.opv rfl) rfl rfl rfl ?_
        refine WL.val (OpVal.eqT rfl rfl) rfl rfl rfl ?_
        refine WL.val (OpVal.opv rfl) rfl rfl rfl ?_
        refine WL.val (OpVal.opv rfl) rfl rfl rfl ?_
        refine WL.val (OpVal.eqT rfl rfl) rfl rfl rfl ?_
        refine WL.val (OpVal.opv rfl) rfl rfl rfl ?_
        refine WL.pass rfl rfl rfl ?_
        refine WL.pass rfl rfl rfl ?_
        refine WL.pass rfl rfl rfl ?_
        refine WL.val (OpVal.opv rfl) rfl rfl rfl ?_
        refine WL.val (OpVal.opv rfl) rfl rfl rfl ?_
        refine WL.val (OpVal.opv rfl) rfl rfl rfl ?_
        refine WL.val (OpVal.call rfl (fun m hm => awake_any)) rfl rfl rfl ?_
        refine WL.val (OpVal.opv rfl) rfl rfl rfl ?_
        refine WL.val (OpVal.opv rfl) rfl rfl rfl ?_
        refine WL.nil ?_
        refine Kseq.go ?_
        refine W.ret ?_; refine Kseq.ret ?_; refine ⟨.inl rfl, [_], h, ⟨.tmp rfl, trivial⟩, (by repeat (first | exact .head _ | refine .tail _ ?_)), ?_⟩
        rfl
      · rw [(askE_valid hVx hEx).1]
        refine W.seq ?_
        refine W.region ?_
        refine WL.val (OpVal.opv rfl) rfl rfl rfl ?_
        refine WL.val (OpVal.eqT rfl rfl) rfl rfl rfl ?_
        refine WL.val (OpVal.opv rfl) rfl rfl rfl ?_
        refine WL.val (OpVal.opv rfl) rfl rfl rfl ?_
        refine WL.val (OpVal.eqF rfl rfl (by decide)) rfl rfl rfl ?_
        refine WL.val (OpVal.opv rfl) rfl rfl rfl ?_
        refine WL.val (OpVal.opv rfl) rfl rfl rfl ?_
        refine WL.val (OpVal.opv rfl) rfl rfl rfl ?_
        refine WL.val (OpVal.eqT rfl rfl) rfl rfl rfl ?_
        refine WL.val (OpVal.opv rfl) rfl rfl rfl ?_
        refine WL.val (OpVal.opv rfl) rfl rfl rfl ?_
        refine WL.val (OpVal.opv rfl) rfl rfl rfl ?_
        refine WL.val (OpVal.call rfl (fun m hm => awake_any)) rfl rfl rfl ?_
        refine WL.val (OpVal.opv rfl) rfl rfl rfl ?_
        refine WL.val (OpVal.opv rfl) rfl rfl rfl ?_
        refine WL.nil ?_
        refine Kseq.go ?_
        refine W.ret ?_; refine Kseq.ret ?_; refine ⟨.inl rfl, [_], h, ⟨.tmp rfl, trivial⟩, (by repeat (first | exact .head _ | refine .tail _ ?_)), ?_⟩
        rfl
end Go.Proofs.Ytgolpbkapphciaa
