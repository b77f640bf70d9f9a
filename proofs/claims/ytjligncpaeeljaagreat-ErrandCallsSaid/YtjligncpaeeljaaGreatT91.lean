/- The statement ErrandCalls: its contract. -/
import Derived.Test.YtjligncpaeeljaaGreatT83
namespace Go.Proofs.YtjligncpaeeljaaGreat
open Go Go.Eng Go.RowKit

/-- ref.Has, of a row of one's own -/
theorem hasM_any {a : Value} {xs : List Int} (x : Int) (hb : xs.length < 1000000) : FnM Tryz.prog 48 #[a, vi x] [] [ir 3 a xs] (fun q Ms' μ' => Ms' = [] ∧ μ' = [ir 3 a xs] ∧ q = .bool (decide (x ∈ xs))) := by
  refine FnM.of_W (n := 18) Tryz.func48 rfl rfl (Nat.le_of_ble_eq_true rfl) rfl fun c hr hD hF => ?_
  skip
  refine W.seq ?_
  refine W.region ?_
  refine WL.val (OpVal.opv rfl) rfl rfl rfl ?_
  refine WL.nil ?_
  refine Kseq.go (W.seq (W.seq ?_))
  skip
  refine W.region ?_
  refine WL.val (OpVal.opv rfl) rfl rfl rfl ?_
  refine WL.nil ?_
  refine Kseq.go (W.block ?_)
  refine W.loop (σ := Nat) (fun k => [(0, a), (1, .int .i64 x), (5, .int .i64 (k : Int))]) (fun _ => []) (fun _ => [ir 3 a xs]) (fun k => k ≤ xs.length ∧ ∀ j, j < k → xs.getD j 0 ≠ x) (fun k => xs.length - k) 0 ⟨rfl, rfl, rfl, trivial⟩ (by simp) (.refl _) ⟨Nat.zero_le _, fun j hj => absurd hj (Nat.not_lt_zero _)⟩ ?_
  rintro k ⟨hk, hall⟩
  refine W.seq (W.seq ?_)
  refine W.region ?_
  refine WL.val (OpVal.opv rfl) rfl rfl rfl ?_
  refine WL.val (OpVal.opv rfl) rfl rfl rfl ?_
  refine WL.val (OpVal.lenR rfl (.head _)) rfl rfl rfl ?_
  refine WL.val (OpVal.opv rfl) rfl rfl rfl ?_
  refine WL.nil ?_
  refine Kseq.go ?_
  refine W.condD rfl rfl (fun hlt => ?_) (fun hge => ?_)
  · have hkx : k < xs.length := by omega
    refine W.skip (Kseq.go (W.seq (W.block (W.seq ?_))))
    refine W.region ?_
    refine WL.val (OpVal.opv rfl) rfl rfl rfl ?_
    refine WL.val (OpVal.opv rfl) rfl rfl rfl ?_
    refine WL.val (OpVal.indexAddrR rfl rfl (.head _) hkx) rfl rfl rfl ?_
    refine WL.val (OpVal.loadR (u := vi (xs.getD k 0)) rfl (.head _) hkx (by omega) (by rw [Nat.mul_one, Nat.add_zero, List.getElem?_map, List.getD_eq_getElem?_getD, List.getElem?_eq_getElem hkx]; rfl)) rfl rfl rfl ?_
    refine WL.val (OpVal.opv rfl) rfl rfl rfl ?_
    refine WL.val (OpVal.opv rfl) rfl rfl rfl ?_
    refine WL.nil ?_
    refine Kseq.go ?_
    refine W.condD rfl rfl (fun he => ?_) (fun hne => ?_)
    · refine W.seq ?_
      refine W.region ?_
      refine WL.val (OpVal.opv rfl) rfl rfl rfl ?_
      refine WL.nil ?_
      refine Kseq.go ?_
      refine W.ret ?_; refine Kblock.ret (Kseq.ret (Kloop.ret (Kblock.ret (Kseq.ret ?_))))
      exact ⟨.inl rfl, [_], [], _, ⟨.tmp rfl, trivial⟩, ⟨rfl, rfl, congrArg Value.bool (decide_eq_true (he ▸ mem_getD (by omega))).symm⟩, by simp, .refl _, by simp [markOf]⟩
    · refine W.skip (Kblock.normal (Kseq.go ?_))
      refine W.region ?_
      refine WL.val (OpVal.opv rfl) rfl rfl rfl ?_
      refine WL.val (OpVal.incr rfl (by omega)) rfl rfl rfl ?_
      refine WL.val (OpVal.opv rfl) rfl rfl rfl ?_
      refine WL.nil ?_
      skip
      refine Kloop.next (k + 1) ⟨by omega, fun j hj => ?_⟩ (by omega) ⟨rfl, rfl, rfl, trivial⟩ (by simp) (.refl _)
      rcases Nat.lt_succ_iff_lt_or_eq.1 hj with h | rfl
      · exact hall j h
      · exact hne
  · refine W.exit (Kseq.exit (Kloop.exit (Kblock.here (Kseq.go (W.seq ?_)))))
    skip
    refine W.region ?_
    refine WL.val (OpVal.opv rfl) rfl rfl rfl ?_
    refine WL.nil ?_
    refine Kseq.go ?_
    refine W.ret ?_; skip
    refine ⟨.inl rfl, [_], [], _, ⟨.tmp rfl, trivial⟩, ⟨rfl, rfl, congrArg Value.bool (decide_eq_false fun hm => ?_).symm⟩, by simp, .refl _, by simp [markOf]⟩
    obtain ⟨j, hj, he⟩ := getD_of_mem hm
    exact hall j (by omega) he
/-- The women of some moves. -/
def addW (l : List Int) (x : Int) : List Int := if x ∈ l then l else l ++ [x]
theorem addW_yes {l : List Int} {x : Int} (h : x ∈ l) : addW l x = l := if_pos h
theorem addW_no {l : List Int} {x : Int} (h : x ∉ l) : addW l x = l ++ [x] := if_neg h
theorem mem_addW {l : List Int} {x y : Int} : y ∈ addW l x ↔ y ∈ l ∨ y = x := by
  by_cases h : x ∈ l
  · rw [addW_yes h]; exact ⟨.inl, fun k => k.elim id (fun e => e ▸ h)⟩
  · rw [addW_no h]; simp
theorem addW_nodup {l : List Int} {x : Int} (hl : l.Nodup) : (addW l x).Nodup := by
  by_cases h : x ∈ l
  · rw [addW_yes h]; exact hl
  · rw [addW_no h, List.nodup_append]
    exact ⟨hl, by simp, fun a ha b hb e => by rw [List.mem_singleton.1 hb] at e; exact h (e ▸ ha)⟩
theorem addW_len (l : List Int) (x : Int) : (addW l x).length ≤ l.length + 1 := by
  unfold addW; split <;> simp
def whoC (ms : List Move) : Nat → List Int
  | 0 => []
  | k + 1 => addW (addW (whoC ms k) (ms.getD k default).fro) (ms.getD k default).to
theorem whoC_succ (ms : List Move) (k : Nat) : whoC ms (k + 1) = addW (addW (whoC ms k) (ms.getD k default).fro) (ms.getD k default).to := rfl
theorem whoC_nodup (ms : List Move) : ∀ k, (whoC ms k).Nodup
  | 0 => List.nodup_nil
  | k + 1 => addW_nodup (addW_nodup (whoC_nodup ms k))
theorem whoC_len (ms : List Move) : ∀ k, (whoC ms k).length ≤ 2 * k
  | 0 => Nat.le_refl _
  | k + 1 => by
    have h1 := whoC_len ms k
    have h2 := addW_len (whoC ms k) (ms.getD k default).fro
    have h3 := addW_len (addW (whoC ms k) (ms.getD k default).fro) (ms.getD k default).to
    rw [whoC_succ]; omega
theorem mem_whoC {ms : List Move} {y : Int} : ∀ {k : Nat}, y ∈ whoC ms k ↔ ∃ i, i < k ∧ (y = (ms.getD i default).fro ∨ y = (ms.getD i default).to)
  | 0 => by simp [whoC]
  | k + 1 => by
    rw [whoC_succ, mem_addW, mem_addW, mem_whoC]
    constructor
    · rintro ((⟨i, hi, h⟩ | h) | h)
      · exact ⟨i, by omega, h⟩
      · exact ⟨k, by omega, .inl h⟩
      · exact ⟨k, by omega, .inr h⟩
    · rintro ⟨i, hi, h⟩
      rcases Nat.lt_succ_iff_lt_or_eq.1 hi with h2 | rfl
      · exact .inl (.inl ⟨i, h2, h⟩)
      · rcases h with h | h
        · exact .inl (.inr h)
        · exact .inr h
theorem who_bounds {n : Nat} (hn : n ≤ 4) {ms : List Move} (hm : MovesOk n ms) (h0 : 0 < ms.length) : (whoC ms ms.length).length ≤ fewestP n ms ∧ fewestP n ms < 2 * (whoC ms ms.length).length := by
  have hmem : ∀ i, i < ms.length → ms.getD i default ∈ ms := fun i hi => getD_mem' hi
  have hw : ∀ w ∈ whoC ms ms.length, 0 ≤ w ∧ w < n := fun w hw => by
    obtain ⟨i, hi, h | h⟩ := mem_whoC.1 hw
    · exact h ▸ hm.fro _ (hmem i hi)
    · exact h ▸ hm.to _ (hmem i hi)
  have hall : ∀ m ∈ ms, m.fro ∈ whoC ms ms.length ∧ m.to ∈ whoC ms ms.length := fun m hmm => by
    obtain ⟨i, hi, rfl⟩ := List.mem_iff_getElem.1 hmm
    have e : ms.getD i default = ms[i] := by simp [List.getD_eq_getElem?_getD, List.getElem?_eq_getElem hi]
    exact ⟨mem_whoC.2 ⟨i, hi, .inl (by rw [e])⟩, mem_whoC.2 ⟨i, hi, .inr (by rw [e])⟩⟩
  have hlen : (whoC ms ms.length).length ≤ n := by
    have := nodup_len (whoC_nodup ms ms.length) (k := (List.range n).map Int.ofNat) fun x hx => by
      obtain ⟨h1, h2⟩ := hw x hx
      exact List.mem_map.2 ⟨x.toNat, List.mem_range.2 (by omega), by simp; omega⟩
    simpa using this
  have hpos : 0 < (whoC ms ms.length).length := List.length_pos_iff.2 fun e => by
    have := (hall _ (hmem 0 h0)).1
    rw [e] at this; cases this
  refine ⟨?_, ?_⟩
  · obtain ⟨h1, h2, _⟩ := fewestP_can hn hm
    obtain ⟨l, hl, hb⟩ := canIn_iff.1 h2
    obtain ⟨_, hl2⟩ := (mem_walks h1).1 hl
    refine Nat.le_trans (nodup_len (whoC_nodup ms ms.length) fun x hx => ?_) hl2
    obtain ⟨i, hi, h⟩ := mem_whoC.1 hx
    obtain ⟨k, j, h3, h4, h5, h6⟩ := brought_iff.1 (bringsN_full.1 hb _ (hmem i hi))
    rcases h with h | h
    · rw [h, ← h5]; exact mem_getD (by omega)
    · rw [h, ← h6]; exact mem_getD (by omega)
  · have := fewestP_le (k := 2 * (whoC ms ms.length).length - 1) (by omega) (canIn_who hm (whoC_nodup ms ms.length) hw (by omega) hall (by omega) (Nat.le_refl _))
    omega
theorem fewest_none (n : Nat) : fewestP n [] = 0 := Nat.le_zero.1 (fewestP_le (Nat.zero_le _) (canIn_iff.2 ⟨[], by simp [walks, walksFrom], rfl⟩))
/-- ErrandCalls -/
theorem errandCalls_any {h : Mem} {v : Value} {r : Errand} (hv : IsErrand h v r) : FnV Tryz.prog 12 #[v] h (.bool true) := by
  have hv' := hv
  obtain ⟨wov, pv, hov, sv, f, rfl, hW, hP, hM, hH, hS⟩ := hv
  have hT := IsErrand.tableOf hW hP hM
  refine FnR.val ?_
  refine FnR.of_W (n := 117) Tryz.func12 rfl rfl (Nat.le_of_ble_eq_true rfl) fun c hr hD hF => ?_
  refine W.seq ?_
  refine W.region ?_
  refine WL.box rfl rfl rfl rfl (fun b1 => ?_)
  refine WL.val (OpVal.opv rfl) rfl rfl rfl ?_
  refine WL.nil ?_
  refine Kseq.go (W.seq (W.seq ?_))
  refine W.freezeBox (.head _) (fun b hb => (hF b hb).elim) fun m1 h1 => ?_
  skip
  refine W.region ?_
  refine WL.val (OpVal.loadPW rfl (by assumption) (by repeat (first | exact .head _ | refine .tail _ ?_)) (by rfl)) rfl rfl rfl ?_
  refine WL.val (OpVal.call rfl (fun m hm => ready11_any (hv'.le (by repeat (first | exact hm.1 | replace hm := hm.2))))) rfl rfl rfl ?_
  refine WL.val (OpVal.opv rfl) rfl rfl rfl ?_
  refine WL.nil ?_
  refine Kseq.go ?_
  refine W.cond rfl rfl (fun he => ?_) (fun hne => ?_)
  · refine W.seq ?_
    refine W.region ?_
    refine WL.val (OpVal.call rfl (fun m hm => awake11_any)) rfl rfl rfl ?_
    refine WL.val (OpVal.opv rfl) rfl rfl rfl ?_
    refine WL.nil ?_
    refine Kseq.go ?_
    refine W.ret ?_; refine Kseq.ret ?_; refine ⟨.inl rfl, [_], h, ⟨.tmp rfl, trivial⟩, (by repeat (first | exact .head _ | refine .tail _ ?_)), ?_⟩
    rfl
  obtain ⟨hth, hV⟩ := readyE_iff.1 (show readyE r = true by simpa using hne)
  have hs : SmE r := ThinE.sm hth
  have h0 := faultT_zero.2 hV
  have hok := movesR_ok hV
  have hcal := hV.calls
  have hat := ask_truths hV.table
  have hask : askE r.table = 0 := by unfold askE; rw [if_pos (fault_zero.2 hV.table), if_neg (by rw [hat]; exact hV.some)]
  refine W.skip (Kseq.go (W.seq ?_))
  skip
  refine W.region ?_
  refine WL.val (OpVal.loadPW rfl (by assumption) (by repeat (first | exact .head _ | refine .tail _ ?_)) (by rfl)) rfl rfl rfl ?_
  refine WL.abs (OpAbs.call rfl (fun m hm => errand_any (hv'.le (by repeat (first | exact hm.1 | replace hm := hm.2))) hs)) rfl rfl rfl ?_
  rintro m18 v18 h18
  refine WL.val (OpVal.call rfl (fun m hm => fewestT11_any (h18.le (by repeat (first | exact hm.1 | replace hm := hm.2))) hs)) rfl rfl rfl ?_
  refine WL.val (OpVal.opv rfl) rfl rfl rfl ?_
  refine WL.val (OpVal.opv rfl) rfl rfl rfl ?_
  refine WL.val (OpVal.opv rfl) rfl rfl rfl ?_
  refine WL.val (OpVal.opv rfl) rfl rfl rfl ?_
  refine WL.val (OpVal.opv rfl) rfl rfl rfl ?_
  refine WL.nil ?_
  refine Kseq.go (W.seq ?_)
  rw [if_pos h0, h0]
  skip
  refine W.region ?_
  refine WL.val (OpVal.fieldAddrB rfl) rfl rfl rfl ?_
  refine WL.val (OpVal.loadPA (vs := [wov, pv, vi r.table.wrong]) rfl h1 (by repeat (first | exact .head _ | refine .tail _ ?_)) rfl rfl) rfl rfl rfl ?_
  refine WL.abs (OpAbs.call rfl (fun m hm => table_any (hT.le (by repeat (first | exact hm.1 | replace hm := hm.2))) hs.table)) rfl rfl rfl ?_
  rintro m25 v25 h25
  refine WL.abs (OpAbs.call rfl (fun m hm => movesT_any (h25.le (by repeat (first | exact hm.1 | replace hm := hm.2))) hs.table)) rfl rfl rfl ?_
  rintro m26 _ ⟨mv, rfl, hmv⟩
  refine WL.val (OpVal.opv rfl) rfl rfl rfl ?_
  refine WL.val (OpVal.opv rfl) rfl rfl rfl ?_
  refine WL.val (OpVal.opv rfl) rfl rfl rfl ?_
  refine WL.val (OpVal.opv rfl) rfl rfl rfl ?_
  refine WL.val (OpVal.opv rfl) rfl rfl rfl ?_
  refine WL.nil ?_
  refine Kseq.go (W.seq ?_)
  rw [if_pos hask, hat] at hmv
  replace hmv : IsMoves m26 mv (movesR r) := hmv
  rw [hask]
  skip
  refine W.region ?_
  refine WL.val (OpVal.loadPW rfl (by assumption) (by repeat (first | exact .head _ | refine .tail _ ?_)) (by rfl)) rfl rfl rfl ?_
  refine WL.abs (OpAbs.call rfl (fun m hm => errand_any (hv'.le (by repeat (first | exact hm.1 | replace hm := hm.2))) hs)) rfl rfl rfl ?_
  rintro m31 v31 h31
  refine WL.abs (OpAbs.call rfl (fun m hm => bestT_any (h31.le (by repeat (first | exact hm.1 | replace hm := hm.2))) hs)) rfl rfl rfl ?_
  rintro m32 _ ⟨cv, rfl, hcv⟩
  refine WL.val (OpVal.opv rfl) rfl rfl rfl ?_
  refine WL.val (OpVal.opv rfl) rfl rfl rfl ?_
  refine WL.val (OpVal.opv rfl) rfl rfl rfl ?_
  refine WL.val (OpVal.opv rfl) rfl rfl rfl ?_
  refine WL.val (OpVal.opv rfl) rfl rfl rfl ?_
  refine WL.val (OpVal.opv rfl) rfl rfl rfl ?_
  refine WL.val (OpVal.opv rfl) rfl rfl rfl ?_
  refine WL.nil ?_
  refine Kseq.go (W.seq (W.seq ?_))
  skip
  refine W.region ?_
  refine WL.val (OpVal.opv rfl) rfl rfl rfl ?_
  refine WL.val (OpVal.cast (OpVal.opv rfl) (show _ = Value.bool false from rfl)) rfl rfl rfl ?_
  refine WL.val (OpVal.opv rfl) rfl rfl rfl ?_
  refine WL.val (OpVal.opv rfl) rfl rfl rfl ?_
  refine WL.val (OpVal.cast (OpVal.opv rfl) (show _ = Value.bool false from rfl)) rfl rfl rfl ?_
  refine WL.val (OpVal.opv rfl) rfl rfl rfl ?_
  refine WL.nil ?_
  refine Kseq.go ?_
  refine W.cond rfl rfl (fun he => absurd he (by simp)) (fun _ => ?_)
  refine W.skip (Kseq.go (W.seq (W.seq ?_)))
  have hbv : bestV r = bestW r (movesR r) (allW r) (allW r).length := bestP_eq (walks_pairwise _ _) (Nat.le_refl _)
  have h7 := hok.len
  skip
  refine W.region ?_
  refine WL.val (OpVal.opv rfl) rfl rfl rfl ?_
  refine WL.val (OpVal.len rfl hmv) rfl rfl rfl ?_
  refine WL.val (OpVal.opv rfl) rfl rfl rfl ?_
  refine WL.nil ?_
  refine Kseq.go ?_
  refine W.condD rfl rfl (fun he => ?_) (fun hne => ?_)
  · have hm0 : movesR r = [] := List.eq_nil_of_length_eq_zero (by omega)
    have hf0 : fewestP r.n (movesR r) = 0 := by rw [hm0]; exact fewest_none _
    have hnil : [] ∈ allW r := (mem_walks (show r.calls.toNat ≤ 7 by omega)).2 ⟨walk_nil _, Nat.zero_le _⟩
    have hsn : servesB r (movesR r) [] = true := servesB_iff.2 ⟨by rw [hm0]; rfl, sureB_iff.2 ⟨by simp; omega, fun i hi => absurd hi (by simp)⟩⟩
    have hbs : bestV r = some [] := by
      cases hb : bestV r with
      | none => have := bestW_none (hbv ▸ hb) [] hnil; rw [hsn] at this; cases this
      | some b =>
        have h1 := (bestW_some (hbv ▸ hb)).least [] hnil hsn
        cases b with
        | nil => rfl
        | cons x b => simp [better] at h1
    have hbe : bestErr r = 0 := by unfold bestErr; rw [if_neg (by omega), hbs]; rfl
    rw [hbe, if_pos rfl, hbs] at hcv
    replace hcv : IsInts m32 cv [] := hcv
    rw [hbe, if_pos rfl, hf0, hbs]
    refine W.seq ?_
    refine W.region ?_
    refine WL.val (OpVal.opv rfl) rfl rfl rfl ?_
    refine WL.val (OpVal.cast (OpVal.opv rfl) (show _ = Value.bool true from rfl)) rfl rfl rfl ?_
    refine WL.val (OpVal.opv rfl) rfl rfl rfl ?_
    refine WL.val (OpVal.opv rfl) rfl rfl rfl ?_
    refine WL.val (OpVal.cast (OpVal.opv rfl) (show _ = Value.bool true from rfl)) rfl rfl rfl ?_
    refine WL.val (OpVal.opv rfl) rfl rfl rfl ?_
    refine WL.val (OpVal.opv rfl) rfl rfl rfl ?_
    refine WL.val (OpVal.opv rfl) rfl rfl rfl ?_
    refine WL.val (OpVal.len rfl hcv) rfl rfl rfl ?_
    refine WL.val (OpVal.cast (OpVal.opv rfl) (show _ = Value.bool true from rfl)) rfl rfl rfl ?_
    refine WL.val (OpVal.opv rfl) rfl rfl rfl ?_
    refine WL.val (OpVal.opv rfl) rfl rfl rfl ?_
    refine WL.val (OpVal.opv rfl) rfl rfl rfl ?_
    refine WL.val (OpVal.fieldAddrB rfl) rfl rfl rfl ?_
    refine WL.val (OpVal.loadP rfl h1 (by repeat (first | exact .head _ | refine .tail _ ?_)) rfl) rfl rfl rfl ?_
    refine WL.val (OpVal.cast (OpVal.opv rfl) (congrArg Value.bool (decide_eq_true rfl))) rfl rfl rfl ?_
    refine WL.val (OpVal.opv rfl) rfl rfl rfl ?_
    refine WL.val (OpVal.opv rfl) rfl rfl rfl ?_
    refine WL.val (OpVal.call rfl (fun m hm => awake11_any)) rfl rfl rfl ?_
    refine WL.val (OpVal.opv rfl) rfl rfl rfl ?_
    refine WL.val (OpVal.opv rfl) rfl rfl rfl ?_
    refine WL.nil ?_
    refine Kseq.go ?_
    refine W.ret ?_; refine Kseq.ret ?_; refine ⟨.inl rfl, [_], h, ⟨.tmp rfl, trivial⟩, (by repeat (first | exact .head _ | refine .tail _ ?_)), ?_⟩
    rfl
  have hpos : 0 < (movesR r).length := by omega
  obtain ⟨hb1, hb2⟩ := who_bounds hV.women hok hpos
  generalize movesR r = ms at *
  refine W.skip (Kseq.go (W.seq ?_))
  skip
  refine W.region ?_
  refine WL.val (OpVal.opv rfl) rfl rfl rfl ?_
  refine WL.nil ?_
  refine Kseq.go (W.seq (W.seq ?_))
  skip
  refine W.region ?_
  refine WL.val (OpVal.opv rfl) rfl rfl rfl ?_
  refine WL.nil ?_
  refine Kseq.go (W.block ?_)
  refine W.nilRow 3 1 ?_
  refine W.loopA (σ := Nat × Value) (fun s => [(3, vi (fewestP r.n ms : Int)), (5, mv), (10, s.2), (11, .int .i64 (s.1 : Int))]) (fun s => ir 3 s.2 (whoC ms s.1)) (fun s => s.1 ≤ ms.length) (fun s => ms.length - s.1) (0, .slice none 0 0) ⟨rfl, rfl, rfl, rfl, trivial⟩ rfl (Nat.zero_le _) ?_
  rintro ⟨k, a⟩ hk
  dsimp only at hk ⊢
  have hwl := whoC_len ms k
  refine W.seq (W.seq ?_)
  refine W.region ?_
  refine WL.val (OpVal.opv rfl) rfl rfl rfl ?_
  refine WL.val (OpVal.opv rfl) rfl rfl rfl ?_
  refine WL.val (OpVal.len rfl hmv) rfl rfl rfl ?_
  refine WL.val (OpVal.opv rfl) rfl rfl rfl ?_
  refine WL.nil ?_
  refine Kseq.go ?_
  refine W.condD rfl rfl (fun hlt => ?_) (fun hge => ?_)
  · have hkm : k < ms.length := by omega
    refine W.skip (Kseq.go (W.seq (W.block (W.seq (W.seq ?_)))))
    refine W.region ?_
    refine WL.val (OpVal.opv rfl) rfl rfl rfl ?_
    refine WL.val (OpVal.opv rfl) rfl rfl rfl ?_
    refine WL.val (OpVal.opv rfl) rfl rfl rfl ?_
    refine WL.val (OpVal.indexAddrN rfl rfl hmv hkm) rfl rfl rfl ?_
    refine WL.val (OpVal.fieldAddrN rfl hmv hkm) rfl rfl rfl ?_
    refine WL.val (OpVal.loadE rfl hmv (by repeat (first | exact .head _ | refine .tail _ ?_)) hkm (by omega)) rfl rfl rfl ?_
    (refine WL.callM rfl rfl (M0 := []) (by simp) (Split.all _) rfl (hasM_any (ms.getD k default).fro (by omega)) rfl rfl rfl ?_; rintro _ M1 a1 ⟨rfl, rfl, rfl⟩)
    refine WL.val (OpVal.opv rfl) rfl rfl rfl ?_
    refine WL.nil ?_
    refine Kseq.go ?_
    refine W.cond rfl rfl (fun ha => ?_) (fun ha => ?_)
    · have ha : (ms.getD k default).fro ∉ whoC ms k := by rw [Bool.not_eq_true'] at ha; exact of_decide_eq_false ha
      skip
      refine W.region ?_
      refine WL.val (OpVal.opv rfl) rfl rfl rfl ?_
      refine WL.val (OpVal.opv rfl) rfl rfl rfl ?_
      refine WL.val (OpVal.opv rfl) rfl rfl rfl ?_
      refine WL.val (OpVal.indexAddrN rfl rfl hmv hkm) rfl rfl rfl ?_
      refine WL.val (OpVal.fieldAddrN rfl hmv hkm) rfl rfl rfl ?_
      refine WL.val (OpVal.loadE rfl hmv (by repeat (first | exact .head _ | refine .tail _ ?_)) hkm (by omega)) rfl rfl rfl ?_
      refine WL.abs (OpAbs.litI rfl) rfl rfl rfl ?_
      rintro m85 v85 h85
      (refine WL.appInt (k := (ms.getD k default).fro) rfl (fun _ => .head _) rfl h85 (by repeat (first | exact .head _ | refine .tail _ ?_)) (by omega) rfl rfl rfl ?_; intro a86 c86)
      refine WL.val (OpVal.opv rfl) rfl rfl rfl ?_
      refine WL.nil ?_
      refine Kseq.go (W.seq ?_)
      skip
      refine W.region ?_
      refine WL.val (OpVal.opv rfl) rfl rfl rfl ?_
      refine WL.val (OpVal.opv rfl) rfl rfl rfl ?_
      refine WL.val (OpVal.opv rfl) rfl rfl rfl ?_
      refine WL.val (OpVal.indexAddrN rfl rfl hmv hkm) rfl rfl rfl ?_
      refine WL.val (OpVal.fieldAddrN rfl hmv hkm) rfl rfl rfl ?_
      refine WL.val (OpVal.loadE rfl hmv (by repeat (first | exact .head _ | refine .tail _ ?_)) hkm (by omega)) rfl rfl rfl ?_
      (refine WL.callM rfl rfl (M0 := []) (by simp) (Split.all _) rfl (hasM_any (ms.getD k default).to (by first | omega | (simp; omega))) rfl rfl rfl ?_; rintro _ M1 a1 ⟨rfl, rfl, rfl⟩)
      refine WL.val (OpVal.opv rfl) rfl rfl rfl ?_
      refine WL.nil ?_
      refine Kseq.go ?_
      refine W.cond rfl rfl (fun hb => ?_) (fun hb => ?_)
      · have hb : (ms.getD k default).to ∉ whoC ms k ++ [(ms.getD k default).fro] := by rw [Bool.not_eq_true'] at hb; exact of_decide_eq_false hb
        skip
        refine W.region ?_
        refine WL.val (OpVal.opv rfl) rfl rfl rfl ?_
        refine WL.val (OpVal.opv rfl) rfl rfl rfl ?_
        refine WL.val (OpVal.opv rfl) rfl rfl rfl ?_
        refine WL.val (OpVal.indexAddrN rfl rfl hmv hkm) rfl rfl rfl ?_
        refine WL.val (OpVal.fieldAddrN rfl hmv hkm) rfl rfl rfl ?_
        refine WL.val (OpVal.loadE rfl hmv (by repeat (first | exact .head _ | refine .tail _ ?_)) hkm (by omega)) rfl rfl rfl ?_
        refine WL.abs (OpAbs.litI rfl) rfl rfl rfl ?_
        rintro m101 v101 h101
        (refine WL.appInt (k := (ms.getD k default).to) rfl (fun _ => .head _) rfl h101 (by repeat (first | exact .head _ | refine .tail _ ?_)) (by first | omega | (simp; omega)) rfl rfl rfl ?_; intro a102 c102)
        refine WL.val (OpVal.opv rfl) rfl rfl rfl ?_
        refine WL.nil ?_
        refine Kblock.normal (Kseq.go ?_)
        skip
        refine W.region ?_
        refine WL.val (OpVal.opv rfl) rfl rfl rfl ?_
        refine WL.val (OpVal.incr rfl (by omega)) rfl rfl rfl ?_
        refine WL.val (OpVal.opv rfl) rfl rfl rfl ?_
        refine WL.nil ?_
        skip
        refine Kloop.next (k + 1, .slice a102 ((whoC ms k ++ [(ms.getD k default).fro]).length + 1) c102) (by dsimp only; omega) (by dsimp only; omega) ⟨rfl, rfl, rfl, rfl, trivial⟩ (by simp) ?_
        dsimp only
        rw [whoC_succ, addW_no ha, addW_no hb]
        exact (by repeat (first | exact List.Sublist.refl _ | refine List.Sublist.cons _ ?_ | refine List.Sublist.cons_cons _ ?_))
      · have hb : (ms.getD k default).to ∈ whoC ms k ++ [(ms.getD k default).fro] := by rw [Bool.not_eq_false'] at hb; exact of_decide_eq_true hb
        refine W.skip (Kblock.normal (Kseq.go ?_))
        skip
        refine W.region ?_
        refine WL.val (OpVal.opv rfl) rfl rfl rfl ?_
        refine WL.val (OpVal.incr rfl (by omega)) rfl rfl rfl ?_
        refine WL.val (OpVal.opv rfl) rfl rfl rfl ?_
        refine WL.nil ?_
        skip
        refine Kloop.next (k + 1, .slice a86 ((whoC ms k).length + 1) c86) (by dsimp only; omega) (by dsimp only; omega) ⟨rfl, rfl, rfl, rfl, trivial⟩ (by simp) ?_
        dsimp only
        rw [whoC_succ, addW_no ha, addW_yes hb]
        exact (by repeat (first | exact List.Sublist.refl _ | refine List.Sublist.cons _ ?_ | refine List.Sublist.cons_cons _ ?_))
    · have ha : (ms.getD k default).fro ∈ whoC ms k := by rw [Bool.not_eq_false'] at ha; exact of_decide_eq_true ha
      refine W.skip (Kseq.go (W.seq ?_))
      skip
      refine W.region ?_
      refine WL.val (OpVal.opv rfl) rfl rfl rfl ?_
      refine WL.val (OpVal.opv rfl) rfl rfl rfl ?_
      refine WL.val (OpVal.opv rfl) rfl rfl rfl ?_
      refine WL.val (OpVal.indexAddrN rfl rfl hmv hkm) rfl rfl rfl ?_
      refine WL.val (OpVal.fieldAddrN rfl hmv hkm) rfl rfl rfl ?_
      refine WL.val (OpVal.loadE rfl hmv (by repeat (first | exact .head _ | refine .tail _ ?_)) hkm (by omega)) rfl rfl rfl ?_
      (refine WL.callM rfl rfl (M0 := []) (by simp) (Split.all _) rfl (hasM_any (ms.getD k default).to (by first | omega | (simp; omega))) rfl rfl rfl ?_; rintro _ M1 a1 ⟨rfl, rfl, rfl⟩)
      refine WL.val (OpVal.opv rfl) rfl rfl rfl ?_
      refine WL.nil ?_
      refine Kseq.go ?_
      refine W.cond rfl rfl (fun hb => ?_) (fun hb => ?_)
      · have hb : (ms.getD k default).to ∉ whoC ms k := by rw [Bool.not_eq_true'] at hb; exact of_decide_eq_false hb
        skip
        refine W.region ?_
        refine WL.val (OpVal.opv rfl) rfl rfl rfl ?_
        refine WL.val (OpVal.opv rfl) rfl rfl rfl ?_
        refine WL.val (OpVal.opv rfl) rfl rfl rfl ?_
        refine WL.val (OpVal.indexAddrN rfl rfl hmv hkm) rfl rfl rfl ?_
        refine WL.val (OpVal.fieldAddrN rfl hmv hkm) rfl rfl rfl ?_
        refine WL.val (OpVal.loadE rfl hmv (by repeat (first | exact .head _ | refine .tail _ ?_)) hkm (by omega)) rfl rfl rfl ?_
        refine WL.abs (OpAbs.litI rfl) rfl rfl rfl ?_
        rintro m101 v101 h101
        (refine WL.appInt (k := (ms.getD k default).to) rfl (fun _ => .head _) rfl h101 (by repeat (first | exact .head _ | refine .tail _ ?_)) (by first | omega | (simp; omega)) rfl rfl rfl ?_; intro a102 c102)
        refine WL.val (OpVal.opv rfl) rfl rfl rfl ?_
        refine WL.nil ?_
        refine Kblock.normal (Kseq.go ?_)
        skip
        refine W.region ?_
        refine WL.val (OpVal.opv rfl) rfl rfl rfl ?_
        refine WL.val (OpVal.incr rfl (by omega)) rfl rfl rfl ?_
        refine WL.val (OpVal.opv rfl) rfl rfl rfl ?_
        refine WL.nil ?_
        skip
        refine Kloop.next (k + 1, .slice a102 ((whoC ms k).length + 1) c102) (by dsimp only; omega) (by dsimp only; omega) ⟨rfl, rfl, rfl, rfl, trivial⟩ (by simp) ?_
        dsimp only
        rw [whoC_succ, addW_yes ha, addW_no hb]
        exact (by repeat (first | exact List.Sublist.refl _ | refine List.Sublist.cons _ ?_ | refine List.Sublist.cons_cons _ ?_))
      · have hb : (ms.getD k default).to ∈ whoC ms k := by rw [Bool.not_eq_false'] at hb; exact of_decide_eq_true hb
        refine W.skip (Kblock.normal (Kseq.go ?_))
        skip
        refine W.region ?_
        refine WL.val (OpVal.opv rfl) rfl rfl rfl ?_
        refine WL.val (OpVal.incr rfl (by omega)) rfl rfl rfl ?_
        refine WL.val (OpVal.opv rfl) rfl rfl rfl ?_
        refine WL.nil ?_
        skip
        refine Kloop.next (k + 1, a) (by dsimp only; omega) (by dsimp only; omega) ⟨rfl, rfl, rfl, rfl, trivial⟩ (by simp) ?_
        dsimp only
        rw [whoC_succ, addW_yes ha, addW_yes hb]
        exact (by repeat (first | exact List.Sublist.refl _ | refine List.Sublist.cons _ ?_ | refine List.Sublist.cons_cons _ ?_))
  · have : k = ms.length := by omega
    subst this
    refine W.exit (Kseq.exit (Kloop.exit (Kblock.here (Kseq.go (W.seq ?_)))))
    skip
    refine W.region ?_
    refine WL.val (OpVal.opv rfl) rfl rfl rfl ?_
    refine WL.val (OpVal.opv rfl) rfl rfl rfl ?_
    refine WL.val (OpVal.lenR rfl (.head _)) rfl rfl rfl ?_
    refine WL.val (OpVal.cast (OpVal.opv rfl) (congrArg Value.bool (decide_eq_true (by omega)))) rfl rfl rfl ?_
    refine WL.val (OpVal.opv rfl) rfl rfl rfl ?_
    refine WL.val (OpVal.opv rfl) rfl rfl rfl ?_
    refine WL.val (OpVal.opv rfl) rfl rfl rfl ?_
    refine WL.val (OpVal.lenR rfl (.head _)) rfl rfl rfl ?_
    refine WL.val (OpVal.mul rfl rfl (by omega) (by omega)) rfl rfl rfl ?_
    refine WL.val (OpVal.cast (OpVal.opv rfl) (congrArg Value.bool (decide_eq_true (by omega)))) rfl rfl rfl ?_
    refine WL.val (OpVal.opv rfl) rfl rfl rfl ?_
    refine WL.val (OpVal.opv rfl) rfl rfl rfl ?_
    refine WL.val (OpVal.call rfl (fun m hm => awake11_any)) rfl rfl rfl ?_
    refine WL.val (OpVal.opv rfl) rfl rfl rfl ?_
    refine WL.val (OpVal.opv rfl) rfl rfl rfl ?_
    refine WL.nil ?_
    refine Kseq.go ?_
    refine W.ret ?_; skip; refine ⟨.inl rfl, [_], h, ⟨.tmp rfl, trivial⟩, (by repeat (first | exact .head _ | refine .tail _ ?_)), ?_⟩
    rfl
end Go.Proofs.YtjligncpaeeljaaGreat
