/- The statements' functions of chapter 11, on: readiness, walks by words, truths by numbers. -/
import Derived.Test.YtdjkokpbeaapoaaGreatT77
namespace Go.Proofs.YtdjkokpbeaapoaaGreat
open Go Go.Eng Go.RowKit

/-- ready -/
def readyE (r : Errand) : Bool := ThinE r && decide (faultT r = 0)
theorem readyE_iff {r : Errand} : readyE r = true ↔ ThinE r = true ∧ ValidE r := by unfold readyE; rw [Bool.and_eq_true, decide_eq_true_eq, faultT_zero]
theorem ready11_any {h : Mem} {v : Value} {r : Errand} (hv : IsErrand h v r) : FnV Tryz.prog 9 #[v] h (.bool (readyE r)) := by
  have hv' := hv
  obtain ⟨wv, pv, hov, sv, f, rfl, hW, hP, hM, hH, hS⟩ := hv
  refine FnR.val ?_
  refine FnR.of_W (n := 10) Tryz.func9 rfl rfl (Nat.le_of_ble_eq_true rfl) fun c hr hD hF => ?_
  refine W.seq ?_
  refine W.region ?_
  refine WL.box rfl rfl rfl rfl (fun b1 => ?_)
  refine WL.val (OpVal.opv rfl) rfl rfl rfl ?_
  refine WL.nil ?_
  refine Kseq.go (W.seq ?_)
  skip
  refine W.toS [(2, .bool (readyE r))] ?_ ?_
  · skip
    refine W.region ?_
    refine WL.val (OpVal.loadBW rfl (.head _) rfl) rfl rfl rfl ?_
    refine WL.val (OpVal.call rfl (fun m hm => thin11_any (hv'.le (by repeat (first | exact hm.1 | replace hm := hm.2))))) rfl rfl rfl ?_
    refine WL.val (OpVal.opv rfl) rfl rfl rfl ?_
    refine WL.splitB rfl rfl (fun g5 => ?_) (fun g5 => ?_)
    · refine WL.val (OpVal.loadBW rfl (.head _) rfl) rfl rfl rfl ?_
      refine WL.val (OpVal.call rfl (fun m hm => faultR11_any (hv'.le (by repeat (first | exact hm.1 | replace hm := hm.2))) (ThinE.sm (by assumption)))) rfl rfl rfl ?_
      refine WL.val (OpVal.opv rfl) rfl rfl rfl ?_
      refine WL.val (OpVal.opv rfl) rfl rfl rfl ?_
      refine WL.val (OpVal.opv rfl) rfl rfl rfl ?_
      refine WL.nil ?_
      skip
      exact Keff.intro ⟨congrArg (fun b => some (Value.bool b)) (by simp [readyE, *]), trivial⟩ (by simp) (by repeat (first | exact List.Sublist.refl _ | refine List.Sublist.cons _ ?_ | refine List.Sublist.cons_cons _ ?_))
    · refine WL.pass rfl rfl rfl ?_
      refine WL.pass rfl rfl rfl ?_
      refine WL.pass rfl rfl rfl ?_
      refine WL.val (OpVal.opv rfl) rfl rfl rfl ?_
      refine WL.val (OpVal.opv rfl) rfl rfl rfl ?_
      refine WL.nil ?_
      skip
      exact Keff.intro ⟨congrArg (fun b => some (Value.bool b)) (by simp [readyE, *]), trivial⟩ (by simp) (by repeat (first | exact List.Sublist.refl _ | refine List.Sublist.cons _ ?_ | refine List.Sublist.cons_cons _ ?_))
  refine Kseq.go ?_
  refine W.ret ?_; skip; refine ⟨.inl rfl, [_], h, ⟨.tmp rfl, trivial⟩, (by repeat (first | exact .head _ | refine .tail _ ?_)), ?_⟩
  rfl
/-- Words. -/
def IsWds (m : Mem) (v : Value) (ws : List Nat) : Prop := IsArr m 1 v ws.length (fun i _ => .int .u16 ((ws.getD i 0 : Nat) : Int)) ∧ ∀ w ∈ ws, w < 65536
theorem IsWds.le {m m' : Mem} {v : Value} {ws : List Nat} (h : IsWds m v ws) (hm : MLe m m') : IsWds m' v ws := ⟨IsArr.le h.1 hm, h.2⟩
theorem walk_nil (n : Nat) : Walk n [] := ⟨by simp, fun i hi => absurd hi (by simp), fun i hi => absurd hi (by simp)⟩
theorem getD_snoc {l : List Int} {x : Int} {i : Nat} : (l ++ [x]).getD i 0 = if i < l.length then l.getD i 0 else if i = l.length then x else 0 := by
  simp only [List.getD_eq_getElem?_getD]
  by_cases h : i < l.length
  · rw [if_pos h, List.getElem?_append_left h]
  · rw [if_neg h, List.getElem?_append_right (by omega)]
    by_cases h2 : i = l.length
    · subst h2; simp
    · rw [if_neg h2, List.getElem?_eq_none (by simp; omega)]; rfl
theorem walk_snoc {n : Nat} {l : List Int} {u : Nat} (h : Walk n l) (hg : goes l u = true) (hu : u < n) (h6 : l.length < 7) : Walk n (l ++ [(u : Int)]) := by
  refine ⟨by simp; omega, fun i hi => ?_, fun i hi => ?_⟩
  · simp at hi
    rw [getD_snoc]
    by_cases h2 : i < l.length
    · rw [if_pos h2]; exact h.lt i h2
    · rw [if_neg h2, if_pos (by omega)]; omega
  · simp at hi
    rw [getD_snoc, getD_snoc, if_pos hi]
    by_cases h2 : i + 1 < l.length
    · rw [if_pos h2]; exact h.ne i h2
    · rw [if_neg h2, if_pos (by omega)]
      unfold goes at hg
      rw [show i = l.length - 1 by omega]
      have h0 : ¬ l.length = 0 := by omega
      simp only [h0, decide_false, Bool.false_or, Bool.not_eq_true', decide_eq_false_iff_not] at hg
      exact Ne.symm hg
/-- Walked -/
theorem walked11_any {h : Mem} {v wv : Value} {r : Errand} {ws : List Nat} (hv : IsErrand h v r) (hw : IsWds h wv ws) : FnR Tryz.prog 11 #[v, wv] h (fun m q => ∃ l, IsInts m q l ∧ Walk r.n l ∧ l.length ≤ 6) := by
  have hv' := hv
  obtain ⟨wov, pv, hov, sv, f, rfl, hW, hP, hM, hH, hS⟩ := hv
  obtain ⟨hwA, hwB⟩ := hw
  have hnw : r.table.women.length = r.n := rfl
  have hlen := IsArr.len hwA
  unfold maxLen at hlen
  refine FnR.of_W (n := 53) Tryz.func11 rfl rfl (Nat.le_of_ble_eq_true rfl) fun c hr hD hF => ?_
  refine W.seq ?_
  refine W.region ?_
  refine WL.box rfl rfl rfl rfl (fun b2 => ?_)
  refine WL.val (OpVal.opv rfl) rfl rfl rfl ?_
  refine WL.nil ?_
  refine Kseq.go (W.seq ?_)
  skip
  refine W.region ?_
  refine WL.val (OpVal.opv rfl) rfl rfl rfl ?_
  refine WL.nil ?_
  refine Kseq.go (W.seq ?_)
  skip
  refine W.region ?_
  refine WL.val (OpVal.fieldAddrB rfl) rfl rfl rfl ?_
  refine WL.val (OpVal.fieldAddrB rfl) rfl rfl rfl ?_
  refine WL.val (OpVal.loadB rfl (.head _) rfl) rfl rfl rfl ?_
  refine WL.val (OpVal.len rfl hW) rfl rfl rfl ?_
  refine WL.val (OpVal.opv rfl) rfl rfl rfl ?_
  refine WL.nil ?_
  refine Kseq.go (W.seq (W.seq ?_))
  skip
  refine W.region ?_
  refine WL.val (OpVal.opv rfl) rfl rfl rfl ?_
  refine WL.nil ?_
  refine Kseq.go (W.block ?_)
  refine W.nilRow 3 1 ?_
  refine W.loopA (σ := Nat × Value × List Int) (fun s => [(1, wv), (2, .pointer (some ⟨b2, 0, none⟩)), (5, s.2.1), (6, vi r.n), (7, .int .i64 (s.1 : Int))]) (fun s => ir 3 s.2.1 s.2.2) (fun s => s.1 ≤ ws.length ∧ Walk r.n s.2.2 ∧ s.2.2.length ≤ 6) (fun s => ws.length - s.1) (0, .slice none 0 0, []) ⟨rfl, rfl, rfl, rfl, rfl, trivial⟩ rfl ⟨Nat.zero_le _, walk_nil _, by simp⟩ ?_
  rintro ⟨k, a, l⟩ ⟨hk, hwk, hl6⟩
  dsimp only at hk hwk hl6 ⊢
  refine W.seq (W.seq ?_)
  refine W.toS [(1, wv), (2, .pointer (some ⟨b2, 0, none⟩)), (5, a), (6, vi r.n), (7, .int .i64 (k : Int)), (25, .bool (decide ((k : Int) < (ws.length : Int)) && decide ((l.length : Int) < 6) && decide ((r.n : Int) > 0)))] ?_ ?_
  · skip
    refine W.region ?_
    refine WL.val (OpVal.opv rfl) rfl rfl rfl ?_
    refine WL.val (OpVal.opv rfl) rfl rfl rfl ?_
    refine WL.val (OpVal.len rfl hwA) rfl rfl rfl ?_
    refine WL.val (OpVal.opv rfl) rfl rfl rfl ?_
    refine WL.val (OpVal.opv rfl) rfl rfl rfl ?_
    refine WL.split rfl rfl (fun g17 => ?_) (fun g17 => ?_)
    · refine WL.val (OpVal.opv rfl) rfl rfl rfl ?_
      refine WL.val (OpVal.lenR rfl (by repeat (first | exact .head _ | refine .tail _ ?_))) rfl rfl rfl ?_
      refine WL.val (OpVal.opv rfl) rfl rfl rfl ?_
      refine WL.val (OpVal.opv rfl) rfl rfl rfl ?_
      refine WL.val (OpVal.opv rfl) rfl rfl rfl ?_
      refine WL.split rfl rfl (fun g22 => ?_) (fun g22 => ?_)
      · refine WL.val (OpVal.opv rfl) rfl rfl rfl ?_
        refine WL.val (OpVal.opv rfl) rfl rfl rfl ?_
        refine WL.val (OpVal.opv rfl) rfl rfl rfl ?_
        refine WL.nil ?_
        skip
        exact Keff.intro ⟨rfl, rfl, rfl, rfl, rfl, congrArg (fun b => some (Value.bool b)) (by first | (simp_all; done) | (simp_all; intros; omega)), trivial⟩ (by simp) (by repeat (first | exact List.Sublist.refl _ | refine List.Sublist.cons _ ?_ | refine List.Sublist.cons_cons _ ?_))
      · refine WL.pass rfl rfl rfl ?_
        refine WL.pass rfl rfl rfl ?_
        refine WL.val (OpVal.opv rfl) rfl rfl rfl ?_
        refine WL.nil ?_
        skip
        exact Keff.intro ⟨rfl, rfl, rfl, rfl, rfl, congrArg (fun b => some (Value.bool b)) (by first | (simp_all; done) | (simp_all; intros; omega)), trivial⟩ (by simp) (by repeat (first | exact List.Sublist.refl _ | refine List.Sublist.cons _ ?_ | refine List.Sublist.cons_cons _ ?_))
    · refine WL.pass rfl rfl rfl ?_
      refine WL.pass rfl rfl rfl ?_
      refine WL.pass rfl rfl rfl ?_
      refine WL.val (OpVal.opv rfl) rfl rfl rfl ?_
      refine WL.val (OpVal.opv rfl) rfl rfl rfl ?_
      refine WL.pass rfl rfl rfl ?_
      refine WL.pass rfl rfl rfl ?_
      refine WL.val (OpVal.opv rfl) rfl rfl rfl ?_
      refine WL.nil ?_
      skip
      exact Keff.intro ⟨rfl, rfl, rfl, rfl, rfl, congrArg (fun b => some (Value.bool b)) (by first | (simp_all; done) | (simp_all; intros; omega)), trivial⟩ (by simp) (by repeat (first | exact List.Sublist.refl _ | refine List.Sublist.cons _ ?_ | refine List.Sublist.cons_cons _ ?_))
  refine Kseq.go ?_
  refine W.cond rfl rfl (fun he => ?_) (fun hne => ?_)
  · simp only [Bool.and_eq_true, decide_eq_true_eq] at he
    obtain ⟨⟨h1, h2⟩, h3⟩ := he
    have hkw : k < ws.length := by omega
    have hx : ws.getD k 0 < 65536 := by
      rw [List.getD_eq_getElem?_getD, List.getElem?_eq_getElem hkw]
      exact hwB _ (List.getElem_mem _)
    have hu : ws.getD k 0 % r.n < r.n := Nat.mod_lt _ (by omega)
    refine W.skip (Kseq.go (W.seq (W.block (W.seq ?_))))
    refine W.region ?_
    refine WL.val (OpVal.opv rfl) rfl rfl rfl ?_
    refine WL.val (OpVal.opv rfl) rfl rfl rfl ?_
    refine WL.val (OpVal.indexAddrN rfl rfl hwA (by omega)) rfl rfl rfl ?_
    refine WL.val (OpVal.loadE rfl hwA (by repeat (first | exact .head _ | refine .tail _ ?_)) (by omega) (by omega)) rfl rfl rfl ?_
    refine WL.val (OpVal.conv rfl (i64_in (by omega) (by omega))) rfl rfl rfl ?_
    refine WL.val (OpVal.opv rfl) rfl rfl rfl ?_
    refine WL.val (OpVal.cast (OpVal.rem rfl rfl (by omega) (by omega)) (show vi (((ws.getD k 0 : Nat) : Int) % (r.n : Int)) = vi ((ws.getD k 0 % r.n : Nat) : Int) from rfl)) rfl rfl rfl ?_
    refine WL.val (OpVal.opv rfl) rfl rfl rfl ?_
    refine WL.nil ?_
    refine Kseq.go (W.seq ?_)
    generalize ws.getD k 0 % r.n = u at *
    have eb : ((l.length : Int) - 1) = ((l.length - 1 : Nat) : Int) ∨ l.length = 0 := by omega
    skip
    refine W.toS [(1, wv), (2, .pointer (some ⟨b2, 0, none⟩)), (5, a), (6, vi r.n), (7, .int .i64 (k : Int)), (8, .int .i64 (u : Int)), (47, .bool (goes l u))] ?_ ?_
    · skip
      refine W.region ?_
      refine WL.val (OpVal.opv rfl) rfl rfl rfl ?_
      refine WL.val (OpVal.lenR rfl (by repeat (first | exact .head _ | refine .tail _ ?_))) rfl rfl rfl ?_
      refine WL.val (OpVal.opv rfl) rfl rfl rfl ?_
      refine WL.val (OpVal.opv rfl) rfl rfl rfl ?_
      refine WL.split rfl rfl (fun g38 => ?_) (fun g38 => ?_)
      · refine WL.pass rfl rfl rfl ?_
        refine WL.pass rfl rfl rfl ?_
        refine WL.pass rfl rfl rfl ?_
        refine WL.pass rfl rfl rfl ?_
        refine WL.pass rfl rfl rfl ?_
        refine WL.pass rfl rfl rfl ?_
        refine WL.pass rfl rfl rfl ?_
        refine WL.pass rfl rfl rfl ?_
        refine WL.val (OpVal.opv rfl) rfl rfl rfl ?_
        refine WL.nil ?_
        skip
        exact Keff.intro ⟨rfl, rfl, rfl, rfl, rfl, rfl, congrArg (fun b => some (Value.bool b)) (by unfold goes; first | (rw [decide_eq_true (show l.length = 0 by omega)]; rfl) | (rw [decide_eq_false (show ¬ l.length = 0 by omega), Bool.false_or])), trivial⟩ (by simp) (by repeat (first | exact List.Sublist.refl _ | refine List.Sublist.cons _ ?_ | refine List.Sublist.cons_cons _ ?_))
      · refine WL.val (OpVal.opv rfl) rfl rfl rfl ?_
        refine WL.val (OpVal.opv rfl) rfl rfl rfl ?_
        refine WL.val (OpVal.lenR rfl (by repeat (first | exact .head _ | refine .tail _ ?_))) rfl rfl rfl ?_
        refine WL.val (OpVal.cast (OpVal.sub rfl rfl (by omega) (by omega)) (show _ = vi ((l.length - 1 : Nat) : Int) from congrArg (Value.int .i64) (by omega))) rfl rfl rfl ?_
        refine WL.val (OpVal.indexAddrR rfl rfl (.head _) (by omega)) rfl rfl rfl ?_
        refine WL.val (OpVal.loadR (u := vi (l.getD (l.length - 1) 0)) rfl (.head _) (by omega) (by omega) (by rw [Nat.mul_one, Nat.add_zero, List.getElem?_map, List.getD_eq_getElem?_getD, List.getElem?_eq_getElem (show l.length - 1 < l.length by omega)]; rfl)) rfl rfl rfl ?_
        refine WL.val (OpVal.opv rfl) rfl rfl rfl ?_
        refine WL.val (OpVal.opv rfl) rfl rfl rfl ?_
        refine WL.val (OpVal.opv rfl) rfl rfl rfl ?_
        refine WL.nil ?_
        skip
        exact Keff.intro ⟨rfl, rfl, rfl, rfl, rfl, rfl, congrArg (fun b => some (Value.bool b)) (by unfold goes; first | (rw [decide_eq_true (show l.length = 0 by omega)]; rfl) | (rw [decide_eq_false (show ¬ l.length = 0 by omega), Bool.false_or])), trivial⟩ (by simp) (by repeat (first | exact List.Sublist.refl _ | refine List.Sublist.cons _ ?_ | refine List.Sublist.cons_cons _ ?_))
    refine Kseq.go ?_
    refine W.cond rfl rfl (fun hg => ?_) (fun hg => ?_)
    · skip
      refine W.region ?_
      refine WL.val (OpVal.opv rfl) rfl rfl rfl ?_
      refine WL.val (OpVal.opv rfl) rfl rfl rfl ?_
      refine WL.abs (OpAbs.lit [_] rfl (Nat.le_of_ble_eq_true rfl) rfl rfl (by simp [Value.cells]) (Nat.le_of_ble_eq_true rfl) rfl (by first | (simp [Value.oneCell']; done) | exact List.all_eq_true.1 rfl)) rfl rfl rfl ?_
      rintro m50 _ ⟨hc50, a50, rfl⟩
      refine WL.appInt rfl (fun _ => (.head _)) rfl (by assumption) (by repeat (first | exact .head _ | refine .tail _ ?_)) (by omega) rfl rfl rfl ?_
      intro a51 cp51
      refine WL.val (OpVal.opv rfl) rfl rfl rfl ?_
      refine WL.nil ?_
      refine Kblock.normal (Kseq.go ?_)
      skip
      refine W.region ?_
      refine WL.val (OpVal.opv rfl) rfl rfl rfl ?_
      refine WL.val (OpVal.incr rfl (by omega)) rfl rfl rfl ?_
      refine WL.val (OpVal.opv rfl) rfl rfl rfl ?_
      refine WL.nil ?_
      skip
      exact Kloop.next (k + 1, .slice a51 (l.length + 1) cp51, l ++ [(u : Int)]) ⟨by dsimp only; omega, walk_snoc hwk hg hu (by omega), by dsimp only; simp; omega⟩ (by dsimp only; omega) ⟨rfl, rfl, rfl, rfl, rfl, trivial⟩ (by simp) (by repeat (first | exact List.Sublist.refl _ | refine List.Sublist.cons _ ?_ | refine List.Sublist.cons_cons _ ?_))
    · refine W.skip (Kblock.normal (Kseq.go ?_))
      skip
      refine W.region ?_
      refine WL.val (OpVal.opv rfl) rfl rfl rfl ?_
      refine WL.val (OpVal.incr rfl (by omega)) rfl rfl rfl ?_
      refine WL.val (OpVal.opv rfl) rfl rfl rfl ?_
      refine WL.nil ?_
      skip
      exact Kloop.next (k + 1, a, l) ⟨by dsimp only; omega, hwk, hl6⟩ (by dsimp only; omega) ⟨rfl, rfl, rfl, rfl, rfl, trivial⟩ (by simp) (by repeat (first | exact List.Sublist.refl _ | refine List.Sublist.cons _ ?_ | refine List.Sublist.cons_cons _ ?_))
  · refine W.exit (Kseq.exit (Kloop.exit (Kblock.here (Kseq.go (W.seq ?_)))))
    refine W.freezeInts (.head _) (fun b hb => (hF b hb).elim) fun mr hmr => ?_
    skip
    refine W.region ?_
    refine WL.val (OpVal.opv rfl) rfl rfl rfl ?_
    refine WL.val (OpVal.opv rfl) rfl rfl rfl ?_
    refine WL.nil ?_
    refine Kseq.go ?_
    refine W.ret ?_; skip; refine ⟨.inl rfl, [_], mr, ⟨.tmp rfl, trivial⟩, (by repeat (first | exact .head _ | refine .tail _ ?_)), ?_⟩
    exact ⟨l, hmr, hwk, hl6⟩
theorem chosen_store (pre : List Int) (m : Nat) (u : Int) : ((pre ++ List.replicate (m + 1) 0).map vi).take (pre.length * 1 + 0) ++ ((vi u).cells.toList ++ ((pre ++ List.replicate (m + 1) 0).map vi).drop (pre.length * 1 + 0 + 1)) = ((pre ++ [u]) ++ List.replicate m 0).map vi := by
  rw [Nat.mul_one, Nat.add_zero, List.map_append, List.replicate_succ, List.map_cons]
  have h1 : (pre.map vi).length = pre.length := by simp
  rw [List.take_append_of_le_length (by omega), List.take_of_length_le (by omega), List.drop_append, h1, List.drop_of_length_le (by omega), Nat.add_sub_cancel_left]
  simp [Value.cells]
/-- chosen -/
theorem chosen11_any {h : Mem} {v : Value} {r : Errand} {x : Int} (hv : IsErrand h v r) (hV : ValidE r) (hx0 : 0 ≤ x) (hx1 : x < 1000000) : FnR Tryz.prog 12 #[v, vi x] h (fun m q => ∃ tr, TruthE r tr ∧ IsInts m q tr) := by
  have hv' := hv
  obtain ⟨wov, pv, hov, sv, f, rfl, hW, hP, hM, hH, hS⟩ := hv
  have h10 : r.streets.length ≤ 10 := by rw [hV.streetsLen]; exact streets_le hV.women
  refine FnR.of_W (n := 45) Tryz.func12 rfl rfl (Nat.le_of_ble_eq_true rfl) fun c hr hD hF => ?_
  refine W.seq ?_
  refine W.region ?_
  refine WL.box rfl rfl rfl rfl (fun b2 => ?_)
  refine WL.val (OpVal.opv rfl) rfl rfl rfl ?_
  refine WL.nil ?_
  refine Kseq.go (W.seq ?_)
  refine W.freezeBox (.head _) (fun b hb => (hF b hb).elim) fun m2 h2 => ?_
  skip
  refine W.region ?_
  refine WL.val (OpVal.fieldAddrB rfl) rfl rfl rfl ?_
  refine WL.val (OpVal.loadP rfl (by assumption) (by repeat (first | exact .head _ | refine .tail _ ?_)) rfl) rfl rfl rfl ?_
  refine WL.val (OpVal.len rfl hS) rfl rfl rfl ?_
  refine WL.make rfl rfl (by omega) (by unfold maxLen; omega) rfl rfl rfl (fun b12 => ?_)
  refine WL.val (OpVal.opv rfl) rfl rfl rfl ?_
  refine WL.nil ?_
  refine Kseq.go (W.seq (W.seq ?_))
  skip
  refine W.region ?_
  refine WL.val (OpVal.opv rfl) rfl rfl rfl ?_
  refine WL.nil ?_
  refine Kseq.go (W.block ?_)
  generalize hov : Value.slice (some ⟨b12, 0, none⟩) r.streets.length r.streets.length = ov
  refine W.loopA (σ := Nat × Int × List Int) (fun s => [(1, .int .i64 s.2.1), (2, .pointer (some ⟨b2, 0, none⟩)), (5, ov), (6, .int .i64 (s.1 : Int))]) (fun s => .row 3 1 ov r.streets.length ((s.2.2 ++ List.replicate (r.streets.length - s.1) 0).map vi))
    (fun s => s.1 ≤ r.streets.length ∧ 0 ≤ s.2.1 ∧ s.2.1 ≤ 1000000 + 10 * (s.1 : Int) ∧ s.2.2.length = s.1 ∧ ∀ i, i < s.1 → (r.streets.getD i default).lo ≤ s.2.2.getD i 0 ∧ s.2.2.getD i 0 ≤ (r.streets.getD i default).hi) (fun s => r.streets.length - s.1) (0, x, []) ⟨rfl, rfl, rfl, rfl, trivial⟩ ?_ ⟨Nat.zero_le _, hx0, by dsimp only; omega, rfl, fun i hi => absurd hi (Nat.not_lt_zero _)⟩ ?_
  · dsimp only
    simp [toList_madeCells_one, Value.cells]
  rintro ⟨k, z, pre⟩ ⟨hk, hz0, hz1, hpl, hall⟩
  dsimp only at hk hz0 hz1 hpl hall ⊢
  refine W.seq (W.seq ?_)
  refine W.region ?_
  refine WL.val (OpVal.opv rfl) rfl rfl rfl ?_
  refine WL.val (OpVal.opv rfl) rfl rfl rfl ?_
  refine WL.val (OpVal.lenR rfl (by repeat (first | exact .head _ | refine .tail _ ?_))) rfl rfl rfl ?_
  refine WL.val (OpVal.opv rfl) rfl rfl rfl ?_
  refine WL.nil ?_
  refine Kseq.go ?_
  refine W.condD rfl rfl (fun hlt => ?_) (fun hge => ?_)
  · have hks : k < r.streets.length := by omega
    have hin := inside_iff.1 (hV.street k hks)
    obtain ⟨m, hm⟩ : ∃ m, r.streets.length - k = m + 1 := ⟨r.streets.length - k - 1, by omega⟩
    rw [hm]
    refine W.skip (Kseq.go (W.seq (W.block (W.seq ?_))))
    refine W.region ?_
    refine WL.val (OpVal.fieldAddrB rfl) rfl rfl rfl ?_
    refine WL.val (OpVal.loadP rfl (by assumption) (by repeat (first | exact .head _ | refine .tail _ ?_)) rfl) rfl rfl rfl ?_
    refine WL.val (OpVal.opv rfl) rfl rfl rfl ?_
    refine WL.val (OpVal.indexAddrN rfl rfl hS (by omega)) rfl rfl rfl ?_
    refine WL.val (OpVal.loadEA rfl hS (by repeat (first | exact .head _ | refine .tail _ ?_)) (by omega)) rfl rfl rfl ?_
    refine WL.alloc rfl rfl rfl (fun b7 => ?_)
    refine WL.store [_, _] rfl (.head _) rfl rfl rfl (Nat.le_of_ble_eq_true rfl) (by first | (simp [Value.cells, Value.oneCell']; done) | exact IsArr.ones hW (by omega) | exact IsArr.ones hP (by omega) | exact IsArr.ones hS (by omega) | exact IsArr.ones hH (by omega) | exact IsArr.ones hL (by omega)) rfl ?_
    refine WL.nil ?_
    refine Kseq.go (W.seq ?_)
    skip
    refine W.region ?_
    refine WL.val (OpVal.fieldAddrB rfl) rfl rfl rfl ?_
    refine WL.val (OpVal.loadB rfl (.head _) rfl) rfl rfl rfl ?_
    refine WL.val (OpVal.fieldAddrB rfl) rfl rfl rfl ?_
    refine WL.val (OpVal.loadB rfl (.head _) rfl) rfl rfl rfl ?_
    refine WL.val (OpVal.sub rfl rfl (by omega) (by omega)) rfl rfl rfl ?_
    refine WL.val (OpVal.add rfl rfl (by omega) (by omega)) rfl rfl rfl ?_
    refine WL.val (OpVal.opv rfl) rfl rfl rfl ?_
    refine WL.nil ?_
    refine Kseq.go ?_
    generalize hlo : (r.streets.getD k default).lo = lo at *
    generalize hhi : (r.streets.getD k default).hi = hi at *
    have hmod := Int.emod_nonneg z (b := hi - lo + 1) (by omega)
    have hmod2 := Int.emod_lt_of_pos z (b := hi - lo + 1) (by omega)
    have hdiv := Int.ediv_nonneg (a := z) (b := hi - lo + 1) hz0 (by omega)
    have hdiv2 := Int.ediv_le_self (a := z) (hi - lo + 1) hz0
    subst hpl
    generalize hu : lo + z % (hi - lo + 1) = u
    refine W.weaken [(1, .int .i64 z), (2, .pointer (some ⟨b2, 0, none⟩)), (5, ov), (6, .int .i64 (pre.length : Int)), (7, .pointer (some ⟨b7, 0, none⟩)), (8, vi (hi - lo + 1))] [m2, h] [.blk b7 #[vi lo, vi hi] 73, .row 3 1 ov r.streets.length ((pre ++ List.replicate (m + 1) 0).map vi)] (by repeat (first | exact trivial | refine ⟨rfl, ?_⟩)) (by simp) (by repeat (first | exact List.Sublist.refl _ | refine List.Sublist.cons _ ?_ | refine List.Sublist.cons_cons _ ?_)) ?_
    skip
    refine W.draw2s 15 14 [.blk b7 #[vi lo, vi hi] 73, .row 3 1 ov r.streets.length (((pre ++ [u]) ++ List.replicate m 0).map vi)] (by kernel_rfl) (by kernel_rfl) (by kernel_rfl) rfl ?_
    refine DJ2.val [] (.inr (OpVal.opv rfl)) (.inl rfl) rfl (fun _ => rfl) rfl rfl rfl (fun _ => rfl) rfl ?_
    refine DJ2.val [] (.inr (OpVal.opv rfl)) (.inl rfl) rfl (fun _ => rfl) rfl rfl rfl (fun _ => rfl) rfl ?_
    refine DJ2.val [] (.inr (OpVal.fieldAddrB rfl)) (.inl rfl) rfl (fun _ => rfl) rfl rfl rfl (fun _ => rfl) rfl ?_
    refine DJ2.val [] (.inr (OpVal.loadB rfl (.head _) rfl)) (.inl rfl) rfl (fun _ => rfl) rfl rfl rfl (fun _ => rfl) rfl ?_
    refine DJ2.val [] (.inr (OpVal.opv rfl)) (.inl rfl) rfl (fun _ => rfl) rfl rfl rfl (fun _ => rfl) rfl ?_
    refine DJ2.val [] (.inr (OpVal.opv rfl)) (.inl rfl) rfl (fun _ => rfl) rfl rfl rfl (fun _ => rfl) rfl ?_
    refine DJ2.val [] (.inr (OpVal.rem rfl rfl (by omega) (by omega))) (.inl rfl) rfl (fun _ => rfl) rfl rfl rfl (fun _ => rfl) rfl ?_
    refine DJ2.val [] (.inr (OpVal.cast (OpVal.add rfl rfl (by omega) (by omega)) (congrArg (Value.int .i64) hu))) (.inl rfl) rfl (fun _ => rfl) rfl rfl rfl (fun _ => rfl) rfl ?_
    refine DJ2.val [] (.inr (OpVal.opv rfl)) (.inr (fun g => OpVal.opv rfl)) rfl (fun _ => rfl) rfl rfl rfl (fun _ => rfl) rfl ?_
    refine DJ2.val [] (.inr (OpVal.opv rfl)) (.inr (fun g => OpVal.opv rfl)) rfl (fun _ => rfl) rfl rfl rfl (fun _ => rfl) rfl ?_
    refine DJ2.val [] (.inr (OpVal.quo rfl rfl (by omega) (by omega) (by omega))) (.inr (fun g => OpVal.quo rfl rfl (by omega) (by omega) (by omega))) rfl (fun _ => rfl) rfl rfl rfl (fun _ => rfl) rfl ?_
    refine DJ2.val [] (.inr (OpVal.opv rfl)) (.inr (fun g => OpVal.opv rfl)) rfl (fun _ => rfl) rfl rfl rfl (fun _ => rfl) rfl ?_
    refine DJ2.val [] (.inr (OpVal.add rfl rfl (by omega) (by omega))) (.inr (fun g => OpVal.add rfl rfl (by omega) (by omega))) rfl (fun _ => rfl) rfl rfl rfl (fun _ => rfl) rfl ?_
    refine DJ2.val [] (.inr (OpVal.indexAddrR rfl rfl (by repeat (first | exact .head _ | refine .tail _ ?_)) (by omega))) (.inl rfl) rfl (fun _ => rfl) rfl rfl rfl (fun _ => rfl) rfl ?_
    refine DJ2.eff [(43, _), (37, _)] ⟨rfl, rfl, trivial⟩ rfl rfl rfl (fun M2 hM2 => ?_) ?_
    · (refine WL.storeR rfl (.tail _ (.head _)) rfl rfl rfl (by omega) (Nat.le_refl _) (by simp [Value.cells, Value.oneCell']) ?_; exact WL.nil ⟨(), Keff.intro (by repeat (first | exact trivial | refine ⟨rfl, ?_⟩)) (fun _ h => h) (sub_eq (congrArg (fun xs => [_, Res.row 3 1 ov r.streets.length xs]) (chosen_store pre m u).symm))⟩)
    refine DJ2.nil (fun g => ?_)
    refine WL.val (OpVal.opv rfl) rfl rfl rfl ?_
    refine WL.nil ?_
    refine Kblock.normal (Kseq.go ?_)
    skip
    refine W.region ?_
    refine WL.val (OpVal.opv rfl) rfl rfl rfl ?_
    refine WL.val (OpVal.incr rfl (by omega)) rfl rfl rfl ?_
    refine WL.val (OpVal.opv rfl) rfl rfl rfl ?_
    refine WL.nil ?_
    skip
    refine Kloop.next (pre.length + 1, z / (hi - lo + 1) + (pre.length : Int), pre ++ [u]) ⟨by dsimp only; omega, by dsimp only; omega, by dsimp only; omega, by dsimp only; simp, fun i hi2 => ?_⟩ (by dsimp only; omega) ⟨rfl, rfl, rfl, rfl, trivial⟩ (by simp) ?_
    · dsimp only at hi2 ⊢
      rw [getD_snoc]
      by_cases h1 : i < pre.length
      · rw [if_pos h1]; exact hall i h1
      · have h2 : i = pre.length := by omega
        rw [if_neg h1, if_pos h2, h2, hlo, hhi]; omega
    · dsimp only
      rw [show r.streets.length - (pre.length + 1) = m by omega]
      exact (by repeat (first | exact List.Sublist.refl _ | refine List.Sublist.cons _ ?_ | refine List.Sublist.cons_cons _ ?_))
  · have : k = r.streets.length := by omega
    subst this
    refine W.exit (Kseq.exit (Kloop.exit (Kblock.here (Kseq.go (W.seq ?_)))))
    rw [Nat.sub_self, List.replicate_zero, List.append_nil]
    refine W.freezeInts (xs := pre) (by rw [← hpl]; exact .head _) (fun b hb => (hF b hb).elim) fun mr hmr => ?_
    skip
    refine W.region ?_
    refine WL.val (OpVal.opv rfl) rfl rfl rfl ?_
    refine WL.val (OpVal.opv rfl) rfl rfl rfl ?_
    refine WL.nil ?_
    refine Kseq.go ?_
    refine W.ret ?_; skip; refine ⟨.inl rfl, [_], mr, ⟨.tmp rfl, trivial⟩, (by repeat (first | exact .head _ | refine .tail _ ?_)), ?_⟩
    exact ⟨pre, ⟨hpl, fun i hi => hall i hi⟩, hmr⟩
end Go.Proofs.YtdjkokpbeaapoaaGreat
