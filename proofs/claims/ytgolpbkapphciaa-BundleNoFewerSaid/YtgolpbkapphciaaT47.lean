/- ProveFewest: its contract; the plain law of the best truth. -/
import Derived.Test.YtgolpbkapphciaaT42
import Derived.Test.YtgolpbkapphciaaT38
import Derived.Test.YtgolpbkapphciaaP9
namespace Go.Proofs.Ytgolpbkapphciaa
open Go Go.Eng Go.RowKit

/-- ProveFewest -/
theorem proveF_any {h : Mem} {v lv : Value} {t : Table} {l : List Int} (n : Int) (hv : IsTable h v t) (hs : Sm t) (hVa : Valid t) (hl : IsInts h lv l) : FnV Try.prog 62 #[v, lv, .int .i64 n] h (.bool (areOwners t l && (isTruthP t l && decide (((astray t l).length : Int) ≤ n)))) := by
  have hv' := hv
  obtain ⟨wv, pv, f, rfl, hW, hP, hM⟩ := hv
  have hf0 := fault_zero.2 hVa
  refine FnR.val ?_
  refine FnR.of_W (n := 29) Try.func62 rfl rfl (Nat.le_of_ble_eq_true rfl) fun c hr hD hF => ?_
  refine W.seq ?_
  refine W.region ?_
  refine WL.box rfl rfl rfl rfl (fun b3 => ?_)
  refine WL.val (OpVal.opv rfl) rfl rfl rfl ?_
  refine WL.nil ?_
  refine Kseq.go (W.seq ?_)
  refine W.freezeBox (.head _) (fun b hb => (hF b hb).elim) fun m2 h2 => ?_
  skip
  refine W.region ?_
  refine WL.val (OpVal.loadPW rfl (by assumption) (by repeat (first | exact .head _ | refine .tail _ ?_)) (by rfl)) rfl rfl rfl ?_
  refine WL.val (OpVal.opv rfl) rfl rfl rfl ?_
  refine WL.abs (OpAbs.call rfl (fun m hm => listed_any (hv'.le (by repeat (first | exact hm.1 | replace hm := hm.2))) hs hVa.pieces (hl.le (by repeat (first | exact hm.1 | replace hm := hm.2))))) rfl rfl rfl ?_
  rintro m12 _ ⟨q, hq7, rfl, hq⟩
  have hqs : (q.map vi).toArray.size = 7 := by rw [List.size_toArray, List.length_map]; exact hq7
  refine WL.val (OpVal.opv rfl) rfl rfl rfl ?_
  refine WL.val (OpVal.opv rfl) rfl rfl rfl ?_
  refine WL.val (OpVal.opv rfl) rfl rfl rfl ?_
  refine WL.alloc rfl rfl rfl (fun b7 => ?_)
  (refine WL.storeAll rfl (.head _) rfl rfl hqs (by rfl) (by simp [Value.oneCell']) ?_)
  refine WL.val (OpVal.opv rfl) rfl rfl rfl ?_
  refine WL.nil ?_
  refine Kseq.go (W.seq ?_)
  cases hA : areOwners t l with
  | false =>
    skip
    refine W.region ?_
    refine WL.val (OpVal.opv rfl) rfl rfl rfl ?_
    refine WL.val (OpVal.opv rfl) rfl rfl rfl ?_
    refine WL.pass rfl rfl rfl ?_
    refine WL.pass rfl rfl rfl ?_
    refine WL.pass rfl rfl rfl ?_
    refine WL.val (OpVal.opv rfl) rfl rfl rfl ?_
    refine WL.val (OpVal.opv rfl) rfl rfl rfl ?_
    refine WL.pass rfl rfl rfl ?_
    refine WL.pass rfl rfl rfl ?_
    refine WL.pass rfl rfl rfl ?_
    refine WL.pass rfl rfl rfl ?_
    refine WL.pass rfl rfl rfl ?_
    refine WL.pass rfl rfl rfl ?_
    refine WL.val (OpVal.opv rfl) rfl rfl rfl ?_
    refine WL.val (OpVal.opv rfl) rfl rfl rfl ?_
    refine WL.nil ?_
    refine Kseq.go ?_
    refine W.ret ?_; skip; refine ⟨.inl rfl, [_], h, ⟨.tmp rfl, trivial⟩, (by repeat (first | exact .head _ | refine .tail _ ?_)), ?_⟩
    rfl
  | true =>
    have ho := owns_of hA hVa.pieces
    cases hq hA
    cases hT : isTruthP t l with
    | false =>
      skip
      refine W.region ?_
      refine WL.val (OpVal.opv rfl) rfl rfl rfl ?_
      refine WL.val (OpVal.opv rfl) rfl rfl rfl ?_
      refine WL.val (OpVal.loadPW rfl (by assumption) (by repeat (first | exact .head _ | refine .tail _ ?_)) (by rfl)) rfl rfl rfl ?_
      refine WL.val (OpVal.opv rfl) rfl rfl rfl ?_
      refine WL.val (OpVal.cast (OpVal.call rfl (fun m hm => proveT_any (hv'.le (by repeat (first | exact hm.1 | replace hm := hm.2))) hs (hl.le (by repeat (first | exact hm.1 | replace hm := hm.2))))) (congrArg Value.bool (show (decide (fault t = 0) && (areOwners t l && isTruthP t l)) = false by rw [hT]; simp))) rfl rfl rfl ?_
      refine WL.val (OpVal.opv rfl) rfl rfl rfl ?_
      refine WL.val (OpVal.opv rfl) rfl rfl rfl ?_
      refine WL.pass rfl rfl rfl ?_
      refine WL.pass rfl rfl rfl ?_
      refine WL.pass rfl rfl rfl ?_
      refine WL.pass rfl rfl rfl ?_
      refine WL.pass rfl rfl rfl ?_
      refine WL.pass rfl rfl rfl ?_
      refine WL.val (OpVal.opv rfl) rfl rfl rfl ?_
      refine WL.val (OpVal.opv rfl) rfl rfl rfl ?_
      refine WL.nil ?_
      refine Kseq.go ?_
      refine W.ret ?_; skip; refine ⟨.inl rfl, [_], h, ⟨.tmp rfl, trivial⟩, (by repeat (first | exact .head _ | refine .tail _ ?_)), ?_⟩
      rfl
    | true =>
      skip
      refine W.region ?_
      refine WL.val (OpVal.opv rfl) rfl rfl rfl ?_
      refine WL.val (OpVal.opv rfl) rfl rfl rfl ?_
      refine WL.val (OpVal.loadPW rfl (by assumption) (by repeat (first | exact .head _ | refine .tail _ ?_)) (by rfl)) rfl rfl rfl ?_
      refine WL.val (OpVal.opv rfl) rfl rfl rfl ?_
      refine WL.val (OpVal.cast (OpVal.call rfl (fun m hm => proveT_any (hv'.le (by repeat (first | exact hm.1 | replace hm := hm.2))) hs (hl.le (by repeat (first | exact hm.1 | replace hm := hm.2))))) (congrArg Value.bool (show (decide (fault t = 0) && (areOwners t l && isTruthP t l)) = true by rw [hT, hA, hf0]; rfl))) rfl rfl rfl ?_
      refine WL.val (OpVal.opv rfl) rfl rfl rfl ?_
      refine WL.val (OpVal.opv rfl) rfl rfl rfl ?_
      refine WL.val (OpVal.loadPW rfl (by assumption) (by repeat (first | exact .head _ | refine .tail _ ?_)) (by rfl)) rfl rfl rfl ?_
      refine WL.val (OpVal.loadBW rfl (.head _) hqs) rfl rfl rfl ?_
      refine WL.abs (OpAbs.call rfl (fun m hm => astrayP_any (hv'.le (by repeat (first | exact hm.1 | replace hm := hm.2))) hs ho)) rfl rfl rfl ?_
      rintro m24 v24 h24
      refine WL.val (OpVal.len rfl (by assumption)) rfl rfl rfl ?_
      refine WL.val (OpVal.opv rfl) rfl rfl rfl ?_
      refine WL.val (OpVal.opv rfl) rfl rfl rfl ?_
      refine WL.val (OpVal.opv rfl) rfl rfl rfl ?_
      refine WL.val (OpVal.opv rfl) rfl rfl rfl ?_
      refine WL.nil ?_
      refine Kseq.go ?_
      refine W.ret ?_; skip; refine ⟨.inl rfl, [_], h, ⟨.tmp rfl, trivial⟩, (by repeat (first | exact .head _ | refine .tail _ ?_)), ?_⟩
      rfl

/-! ### The best truth -/
theorem best_spec (t : Table) {all : List (List Int)} : ∀ k, k ≤ all.length → 0 < k → bestTo t all k < k ∧ ∀ i, i < k → aN t (all.getD (bestTo t all k) []) ≤ aN t (all.getD i []) ∧ (i < bestTo t all k → aN t (all.getD (bestTo t all k) []) < aN t (all.getD i []))
  | 0, _, h => absurd h (Nat.lt_irrefl _)
  | 1, _, _ => by
    have e : bestTo t all 1 = 0 := by simp [bestTo]
    rw [e]
    exact ⟨Nat.one_pos, fun i hi => ⟨by have : i = 0 := by omega
                                        subst this; exact Int.le_refl _, fun h => absurd h (Nat.not_lt_zero _)⟩⟩
  | k + 2, hk, _ => by
    obtain ⟨h1, h2⟩ := best_spec t (all := all) (k + 1) (by omega) (Nat.succ_pos k)
    have e : bestTo t all (k + 2) = if (astray t (all.getD (k + 1) [])).length < (astray t (all.getD (bestTo t all (k + 1)) [])).length then k + 1 else bestTo t all (k + 1) := by rw [bestTo]
    rw [e]
    split
    · rename_i hlt
      refine ⟨by omega, fun i hi => ?_⟩
      rcases Nat.lt_succ_iff_lt_or_eq.1 hi with h | rfl
      · have := (h2 i h).1
        simp only [aN] at this ⊢
        exact ⟨by omega, fun _ => by omega⟩
      · exact ⟨Int.le_refl _, fun h => absurd h (Nat.lt_irrefl _)⟩
    · rename_i hge
      refine ⟨by omega, fun i hi => ?_⟩
      rcases Nat.lt_succ_iff_lt_or_eq.1 hi with h | rfl
      · exact h2 i h
      · simp only [aN]
        exact ⟨by omega, fun h => by omega⟩
theorem getD_mem' {T : List (List Int)} {i : Nat} (h : i < T.length) : T.getD i [] ∈ T := by
  rw [List.getD_eq_getElem?_getD, List.getElem?_eq_getElem h]; exact List.getElem_mem h
theorem fewest_mem {t : Table} (h0 : ask t ≠ []) : fewest t (ask t) ∈ ask t := getD_mem' (bestTo_lt t (List.length_pos_iff.2 h0) _ (Nat.le_refl _))
theorem fewest_lo {t : Table} (h0 : ask t ≠ []) : aN t (fewest t (ask t)) = loQ (aN t) (ask t) (ask t).length := by
  obtain ⟨_, h2⟩ := best_spec t (ask t).length (Nat.le_refl _) (List.length_pos_iff.2 h0)
  obtain ⟨l, hl, e⟩ := loA_mem (g := aN t) h0
  have h3 := (le_loA (g := aN t) (c := loQ (aN t) (ask t) (ask t).length) h0).1 (Int.le_refl _) _ (fewest_mem h0)
  obtain ⟨i, hi, rfl⟩ := List.mem_iff_getElem.1 hl
  have h4 := (h2 i hi).1
  rw [List.getD_eq_getElem?_getD (i := i), List.getElem?_eq_getElem hi] at h4
  unfold loA at e
  unfold fewest at h3 ⊢
  simp only [Option.getD_some] at h4
  omega
theorem fewest_first {t : Table} (h0 : ask t ≠ []) {l : List Int} (hl : l ∈ ask t) (he : aN t l = aN t (fewest t (ask t))) : before l (fewest t (ask t)) = false := by
  obtain ⟨h1, h2⟩ := best_spec t (ask t).length (Nat.le_refl _) (List.length_pos_iff.2 h0)
  obtain ⟨i, hi, rfl⟩ := List.mem_iff_getElem.1 hl
  have h3 := (h2 i hi).2
  have hg : (ask t).getD i [] = (ask t)[i] := by rw [List.getD_eq_getElem?_getD, List.getElem?_eq_getElem hi]; rfl
  rw [hg] at h3
  have hb : ¬ i < bestTo t (ask t) (ask t).length := fun h => by have := h3 h; unfold fewest at he; omega
  rw [Bool.eq_false_iff]
  intro hc
  have hpw : (ask t).Pairwise (fun a b => before a b = true) := (allOwners_pairwise t).filter _
  have hg2 : fewest t (ask t) = (ask t)[bestTo t (ask t) (ask t).length] := by unfold fewest; rw [List.getD_eq_getElem?_getD, List.getElem?_eq_getElem h1]; rfl
  rw [hg2] at hc
  rcases Nat.lt_or_ge (bestTo t (ask t) (ask t).length) i with h | h
  · have := List.pairwise_iff_getElem.1 hpw _ _ h1 hi h
    have := before_trans this hc
    rw [before_irrefl] at this; cases this
  · have e : i = bestTo t (ask t) (ask t).length := by omega
    rw [getElem_congr_idx e] at hc
    rw [before_irrefl] at hc; cases hc
/-! ### The pieces behind the first moves -/
def aAt (t : Table) (x : List Int) (j : Nat) : Nat := ((astray t x).getD j 0).toNat
def ysTo (t : Table) (x : List Int) : Nat → List Piece
  | 0 => t.pieces
  | j + 1 => setB (ysTo t x j) (aAt t x j) (x.getD (aAt t x j) 0)
theorem ysTo_len (t : Table) (x : List Int) : ∀ j, (ysTo t x j).length = t.pieces.length
  | 0 => rfl
  | j + 1 => by simp only [ysTo]; rw [setB_len, ysTo_len t x j]
theorem ysTo_map (t : Table) (x : List Int) : ∀ j, (ysTo t x j).map (·.marks) = t.pieces.map (·.marks)
  | 0 => rfl
  | j + 1 => by simp only [ysTo]; rw [setB_map, ysTo_map t x j]
theorem ysTo_marks (t : Table) (x : List Int) (i : Nat) : ∀ j, ((ysTo t x j).getD i default).marks = (t.pieces.getD i default).marks
  | 0 => rfl
  | j + 1 => by simp only [ysTo]; rw [setB_marks, ysTo_marks t x i j]
theorem ysTo_get {t : Table} {x : List Int} {p : Nat} (hp : p < t.pieces.length) : ∀ j, ((ysTo t x j).getD p default).bundle = if ex j (fun i => decide (aAt t x i = p)) = true then x.getD p 0 else (t.pieces.getD p default).bundle
  | 0 => rfl
  | j + 1 => by
    have hs : ex (j + 1) (fun i => decide (aAt t x i = p)) = (ex j (fun i => decide (aAt t x i = p)) || decide (aAt t x j = p)) := by simp [ex, List.range_succ, List.any_append]
    simp only [ysTo]
    rw [setB_get, hs]
    by_cases h : p = aAt t x j
    · rw [if_pos ⟨h, by rw [ysTo_len, ← h]; exact hp⟩, decide_eq_true h.symm, Bool.or_true, if_pos rfl, ← h]
    · rw [if_neg (fun hh => h hh.1), decide_eq_false (fun e => h e.symm), Bool.or_false]
      exact ysTo_get hp j
theorem aAt_lt {t : Table} {x : List Int} {j : Nat} (hj : j < (astray t x).length) : aAt t x j < x.length ∧ ((astray t x).getD j 0) = (aAt t x j : Int) ∧ (t.pieces.getD (aAt t x j) default).bundle ≠ x.getD (aAt t x j) 0 := by
  obtain ⟨y, h1, h2, e⟩ := mem_sel.1 (mem_getD (xs := astray t x) hj)
  unfold aAt
  rw [e, Int.toNat_natCast]
  exact ⟨h1, rfl, by simpa using h2⟩
theorem aAt_ne {t : Table} {x : List Int} {i j : Nat} (hij : i < j) (hj : j < (astray t x).length) : aAt t x i ≠ aAt t x j := fun e => by
  have hpw := sel_pairwise x.length fun i => !decide ((t.pieces.getD i default).bundle = x.getD i 0)
  have h1 := (aAt_lt (t := t) (x := x) (j := i) (by omega)).2.1
  have h2 := (aAt_lt (t := t) (x := x) hj).2.1
  have := List.pairwise_iff_getElem.1 hpw i j (by unfold astray at hj; omega) hj hij
  rw [List.getD_eq_getElem?_getD, List.getElem?_eq_getElem (by omega)] at h1
  rw [List.getD_eq_getElem?_getD, List.getElem?_eq_getElem hj] at h2
  simp only [Option.getD_some] at h1 h2
  unfold astray at h1 h2
  omega
theorem ysTo_now {t : Table} {x : List Int} (hx : x.length = t.pieces.length) {j : Nat} (hj : j < (astray t x).length) : ((ysTo t x j).getD (aAt t x j) default).bundle = (t.pieces.getD (aAt t x j) default).bundle := by
  rw [ysTo_get (by rw [← hx]; exact (aAt_lt hj).1), if_neg]
  rw [Bool.not_eq_true]
  exact ex_no.2 fun i hi => decide_eq_false (aAt_ne hi hj)
theorem ysTo_all {t : Table} {x : List Int} (hx : x.length = t.pieces.length) {p : Nat} (hp : p < t.pieces.length) : ((ysTo t x (astray t x).length).getD p default).bundle = x.getD p 0 := by
  rw [ysTo_get hp]
  split
  · rfl
  · rename_i h
    refine Classical.byContradiction fun hc => h ?_
    have hm : (p : Int) ∈ astray t x := mem_sel.2 ⟨p, by rw [hx]; exact hp, by simpa using hc, rfl⟩
    obtain ⟨j, hj, e⟩ := getD_of_mem hm
    exact ex_iff.2 ⟨j, hj, decide_eq_true (by unfold aAt; rw [e, Int.toNat_natCast])⟩
def behind (t : Table) (x : List Int) : Table := ⟨t.women, ysTo t x (astray t x).length, t.wrong⟩
theorem behind_same (t : Table) (x : List Int) : Same t (behind t x) := ⟨rfl, ysTo_len _ _ _, fun _ _ => rfl, fun i => ysTo_marks _ _ i _⟩
theorem behind_play {t : Table} (hV : Valid t) {x : List Int} (hx : x ∈ ask t) : Valid (behind t x) ∧ playE (behind t x) x = 0 ∧ astray (behind t x) x = [] := by
  have hS := behind_same t x
  have ha := ask_are hx
  have hla := areOwners_iff.1 ha
  have hVb : Valid (behind t x) := by
    refine ⟨hV.women, by rw [hS.pieces]; exact hV.pieces, hV.wrong, hV.woman, fun i hi => ?_, by rw [hS.many]; exact hV.many⟩
    rw [hS.pieces] at hi
    have h1 := hV.piece i hi
    unfold pieceBad at h1 ⊢
    rw [hS.marks, hS.of]
    simp only [Bool.or_eq_false_iff] at h1 ⊢
    refine ⟨⟨h1.1.1, ?_⟩, h1.2⟩
    show (!decide (0 ≤ ((ysTo t x (astray t x).length).getD i default).bundle ∧ ((ysTo t x (astray t x).length).getD i default).bundle ≤ (t.women.length : Int) - 1)) = false
    rw [ysTo_all hla.1 hi]
    obtain ⟨w, h2, _, e⟩ := mem_sel.1 (hla.2 i (by rw [hla.1]; exact hi))
    rw [e, Bool.not_eq_false']
    exact decide_eq_true (by omega)
  have hab : areOwners (behind t x) x = true := by
    rw [areOwners_iff]
    exact ⟨by rw [hS.pieces]; exact hla.1, fun i hi => by rw [hS.of]; exact hla.2 i hi⟩
  refine ⟨hVb, by unfold playE; rw [if_pos (fault_zero.2 hVb), if_pos hab], ?_⟩
  cases e : astray (behind t x) x with
  | nil => rfl
  | cons a s =>
    obtain ⟨p, h1, h2, _⟩ := mem_sel.1 (show a ∈ astray (behind t x) x by rw [e]; exact .head _)
    have := ysTo_all hla.1 (t := t) (x := x) (p := p) (by rw [← hla.1]; exact h1)
    have h3 : ((behind t x).pieces.getD p default).bundle = x.getD p 0 := this
    rw [h3] at h2
    simp at h2
theorem pieces_at {fs : List Value} {ps : List Piece} (hf : fs.length = ps.length) {p : Nat} (hp : p < ps.length) : (flatv (pcs fs ps))[p * 2 + 1]? = some (vi (ps.getD p default).bundle) := by
  have h1 := flat_at (k := 2) (by omega) (pcs_size fs ps) (i := p) (j := 1) (by rw [pcs_len hf]; exact hp) (by omega)
  rw [pcs_get hf hp] at h1
  have hlen : p * 2 + 1 < (flatv (pcs fs ps)).length := by rw [flatv_len (k := 2) (pcs_size _ _), pcs_len hf]; omega
  rw [List.getD_eq_getElem?_getD, List.getElem?_eq_getElem hlen] at h1
  rw [List.getElem?_eq_getElem hlen]
  exact congrArg some h1
end Go.Proofs.Ytgolpbkapphciaa
