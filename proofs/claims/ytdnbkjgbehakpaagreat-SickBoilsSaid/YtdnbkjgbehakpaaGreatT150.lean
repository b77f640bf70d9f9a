/- The reference's functions of chapter 6: At, Row, Boil; the statement SickBoils. -/
import Derived.Test.YtdnbkjgbehakpaaGreatT147
import Derived.Test.YtdnbkjgbehakpaaGreatT125
namespace Go.Proofs.YtdnbkjgbehakpaaGreat
open Go Go.Eng Go.RowKit

theorem atL_take {x : List Int} {k : Nat} (hk : k < x.length) (hour : Int) : (atL (x.take (k + 1)) hour).map bv2 = (atL (x.take k) hour).map bv2 ++ [bv2 ⟨x.getD k 0, hour⟩] := by
  rw [take_succ_getD (d := 0) hk]
  unfold atL
  rw [List.map_append, List.map_append]; rfl
/-- At -/
theorem atR_any {h : Mem} {lv : Value} {x : List Int} (hour : Int) (hl : IsInts h lv x) (hx : x.length ≤ 1000) : FnR Tryz.prog 56 #[lv, vi hour] h (fun m q => IsBoils m q (atL x hour)) := by
  refine FnR.of_W (n := 23) Tryz.func56 rfl rfl (Nat.le_of_ble_eq_true rfl) fun c hr hD hF => ?_
  refine W.seq ?_; refine W.region ?_; refine .o rfl rfl rfl rfl ?_; refine WL.nil ?_
  refine Kseq.go (W.seq ?_)
  refine W.region ?_; refine .o rfl rfl rfl rfl ?_; refine WL.nil ?_
  refine Kseq.go (W.seq (W.seq ?_))
  refine W.region ?_; refine .o rfl rfl rfl rfl ?_; refine WL.nil ?_
  refine Kseq.go (W.block ?_)
  refine W.nilRow 81 2 ?_; refine W.loop (σ := Nat × Value) (fun s => [(0, lv), (1, vi hour), (5, s.2), (6, vi (s.1 : Int))]) (fun _ => [h]) (fun s => [kr 81 2 s.2 ((atL (x.take s.1) hour).map bv2)]) (fun s => s.1 ≤ x.length) (fun s => x.length - s.1) (0, .slice none 0 0) ⟨rfl, rfl, rfl, rfl, trivial⟩ (by simp) (.refl _) (Nat.zero_le _) ?_
  rintro ⟨k, a⟩ hk
  dsimp only at hk ⊢
  have hN : ((atL (x.take k) hour).map bv2).length = k := by simp [atL]; omega
  refine W.seq (W.seq ?_)
  refine W.region ?_
  iterate 2 refine .o rfl rfl rfl rfl ?_
  refine .val (.len rfl hl) rfl rfl rfl ?_; refine .o rfl rfl rfl rfl ?_; refine WL.nil ?_; refine Kseq.go ?_
  refine W.condD rfl rfl (fun hlt => ?_) (fun hge => ?_)
  · have hkl : k < x.length := by omega
    have ht := atL_take hkl hour
    refine W.skip (Kseq.go (W.seq (W.block ?_)))
    refine W.region ?_
    iterate 3 refine .o rfl rfl rfl rfl ?_
    refine .val (.indexAddrN rfl rfl hl hkl) rfl rfl rfl ?_; refine .val (.loadE rfl hl (by repeat constructor) hkl (by omega)) rfl rfl rfl ?_; refine .o rfl rfl rfl rfl ?_; refine .val (.build2 rfl rfl) rfl rfl rfl ?_; refine WL.abs (OpAbs.mono (OpAbs.lit [vi (x.getD k 0), vi hour] rfl (Nat.le_of_ble_eq_true rfl) rfl rfl (by simp [Value.cells]) (Nat.le_of_ble_eq_true rfl) rfl (by simp [Value.oneCell'])) (fun m' v' h' => h'.1)) rfl rfl rfl ?_
    rintro m20 v20 h20
    (refine WL.appK (bv2 ⟨x.getD k 0, hour⟩) rfl (fun _ => .head _) rfl h20 (by repeat constructor) rfl rfl (by omega) (by omega) (Nat.le_of_ble_eq_true rfl) rfl rfl rfl ?_; intro a21 c21)
    refine .o rfl rfl rfl rfl ?_; refine WL.nil ?_
    refine Kblock.normal (Kseq.go ?_)
    refine W.region ?_; refine .o rfl rfl rfl rfl ?_; refine .val (.incr rfl (by omega)) rfl rfl rfl ?_; refine .o rfl rfl rfl rfl ?_; refine WL.nil ?_
    refine Kloop.next (k + 1, .slice a21 (((atL (x.take k) hour).map bv2).length + 1) c21) (by dsimp only; omega) (by dsimp only; omega) ⟨rfl, rfl, rfl, rfl, trivial⟩ (by simp) ?_
    dsimp only
    rw [ht]
    exact (by repeat (first | exact List.Sublist.refl _ | refine List.Sublist.cons _ ?_ | refine List.Sublist.cons_cons _ ?_))
  refine W.exit (Kseq.exit (Kloop.exit (Kblock.here (Kseq.go (W.seq ?_)))))
  have hkk : k = x.length := by omega
  subst hkk
  rw [List.take_length]
  refine W.freezeK (.head _) (fun b hb => (hF b hb).elim) (by omega) (fun u hu => by obtain ⟨w, _, rfl⟩ := List.mem_map.1 hu; rfl) (fun u hu => by obtain ⟨w, _, rfl⟩ := List.mem_map.1 hu; simp [bv2, Value.cells, Value.oneCell']) fun m3 hm3 => ?_
  refine W.region ?_
  iterate 2 refine .o rfl rfl rfl rfl ?_
  refine WL.nil ?_; refine Kseq.go ?_
  refine W.ret ?_; refine ⟨.inl rfl, [_], m3, ⟨.tmp rfl, trivial⟩, (by repeat constructor), ?_⟩
  exact boils_of hm3
def okK (r : House) (hour : Int) (k : Nat) : Bool := safeL r (ask6 r) (atL (bits k) hour)
theorem boil6_refK {r : House} (hV : ValidH r) {hour : Nat} (hh : (hour : Int) ≤ r.last) : boil6 r hour = some (leastK (okK r hour) (2 ^ r.th - 1) (2 ^ r.th)) := by
  rw [boil6_ref hV hh]
  have e : (fun k => safeL r (truths6 r) (atL (bits k) (hour : Int))) = okK r (hour : Int) := funext fun k => safeL_congr (fun c => hV.truths) _
  rw [e]
/-- Boil -/
theorem boilR_any {h : Mem} {v lv : Value} {r : House} {hour : Int} (hv : IsHouse h v r) (hV : ValidH r) (hl : IsCourses h lv (truths6 r)) : FnR Tryz.prog 57 #[v, lv, vi hour] h (fun m q => IsInts m q (leastK (okK r hour) (2 ^ r.th - 1) (2 ^ r.th))) := by
  have hv' := hv
  obtain ⟨wv, pv, kv, tv, bv, sv, f, rfl, hA⟩ := hv
  have hth := hV.thW
  have h10 := hV.th
  have hp10 : 2 ^ r.th ≤ 2 ^ 10 := Nat.pow_le_pow_right (by omega) h10.2.2
  have hpo : 0 < 2 ^ r.th := Nat.pow_pos (by omega)
  refine FnR.of_W (n := 38) Tryz.func57 rfl rfl (Nat.le_of_ble_eq_true rfl) fun c hr hD hF => ?_
  refine W.seq ?_; refine W.region ?_
  refine WL.box rfl rfl rfl rfl (fun b3 => ?_)
  refine .o rfl rfl rfl rfl ?_; refine WL.nil ?_
  refine Kseq.go (W.seq ?_)
  refine W.freezeBox (.head _) (fun b hb => (hF b hb).elim) fun m3 h3 => ?_
  refine W.region ?_; refine .val (.loadPW rfl h3 (by repeat constructor) rfl) rfl rfl rfl ?_; refine .val (.cast (.call rfl (fun m hm => thingsR_any (hv'.le (by repeat (first | exact hm.1 | replace hm := hm.2))))) (congrArg (Value.int .i64) hth)) rfl rfl rfl ?_; refine .val (.conv rfl (wrap_u64 (by omega) (by omega))) rfl rfl rfl ?_
  refine .val ((OpVal.shl rfl rfl (by omega) (by rw [pow_cast]; omega) (by rw [pow_cast]; omega)).cast (congrArg (Value.int .i64) (pow_cast r.th))) rfl rfl rfl ?_
  refine .val (.cast (.sub rfl rfl (by omega) (by omega)) (congrArg (Value.int .i64) (show ((2 ^ r.th : Nat) : Int) - 1 = ((2 ^ r.th - 1 : Nat) : Int) by omega))) rfl rfl rfl ?_; refine .o rfl rfl rfl rfl ?_; refine WL.nil ?_
  refine Kseq.go (W.seq ?_)
  refine W.region ?_; refine .o rfl rfl rfl rfl ?_; refine WL.abs (OpAbs.call rfl (fun m hm => bits_any (by omega))) rfl rfl rfl ?_
  rintro m17 v17 h17
  refine .o rfl rfl rfl rfl ?_; refine WL.nil ?_
  refine Kseq.go (W.seq (W.seq ?_))
  refine W.region ?_; refine .o rfl rfl rfl rfl ?_; refine WL.nil ?_
  refine Kseq.go (W.block ?_)
  refine W.join fun m0 hm0 => ?_
  refine W.loop (σ := Nat × Value × Mem) (fun s => [(1, lv), (2, vi hour), (3, .pointer (some ⟨b3, 0, none⟩)), (7, vi ((2 ^ r.th - 1 : Nat) : Int)), (8, s.2.1), (9, vi (s.1 : Int))]) (fun s => [s.2.2]) (fun _ => []) (fun s => s.1 ≤ 2 ^ r.th ∧ IsInts s.2.2 s.2.1 (leastK (okK r hour) (2 ^ r.th - 1) s.1) ∧ IsBox s.2.2 b3 (Value.agg (hcs wv pv kv tv bv sv r)).cells 31 ∧ IsHouse s.2.2 (.agg (hcs wv pv kv tv bv sv r)) r ∧ IsCourses s.2.2 lv (truths6 r)) (fun s => 2 ^ r.th - s.1) (0, v17, m0) ⟨rfl, rfl, rfl, rfl, rfl, rfl, trivial⟩ (by simp) (List.nil_sublist _) ⟨Nat.zero_le _, h17.le (hm0 m17 (by simp)), h3.le (hm0 m3 (by simp)), hv'.le (hm0 h (by simp)), hl.le (hm0 h (by simp))⟩ ?_
  rintro ⟨k, bv2', mb⟩ ⟨hk, hbest, h3b, hvb, hlb⟩
  dsimp only at hk hbest h3b hvb hlb ⊢
  refine W.seq (W.seq ?_)
  refine W.region ?_
  iterate 3 refine .o rfl rfl rfl rfl ?_
  refine WL.nil ?_; refine Kseq.go ?_
  refine W.condD rfl rfl (fun hlt => ?_) (fun hge => ?_)
  · have hkl : k < 2 ^ r.th := by omega
    have hbl : (bits k).length ≤ 10 := inc_zero_len (bits_inc6 (W := 10) (by omega) (by omega))
    refine W.skip (Kseq.go (W.seq (W.block (W.seq ?_))))
    refine W.region ?_; refine .o rfl rfl rfl rfl ?_; refine WL.abs (OpAbs.call rfl (fun m hm => bits_any (by omega))) rfl rfl rfl ?_
    rintro m24 v24 h24
    refine .o rfl rfl rfl rfl ?_; refine WL.nil ?_
    refine Kseq.go (W.seq ?_)
    refine W.join fun mj hj => ?_
    have hbj := hbest.le (hj mb (by simp))
    have hkj := h24.le (hj m24 (by simp))
    have h3j := h3b.le (hj mb (by simp))
    have hvj := hvb.le (hj mb (by simp))
    have hlj := hlb.le (hj mb (by simp))
    refine W.weaken [(1, lv), (2, vi hour), (3, .pointer (some ⟨b3, 0, none⟩)), (7, vi ((2 ^ r.th - 1 : Nat) : Int)), (8, bv2'), (9, vi (k : Int)), (10, v24)] [mj] [] (by repeat (first | exact trivial | refine ⟨rfl, ?_⟩)) (by simp) (List.nil_sublist _) ?_; refine W.toS [(1, lv), (2, vi hour), (3, .pointer (some ⟨b3, 0, none⟩)), (7, vi ((2 ^ r.th - 1 : Nat) : Int)), (8, bv2'), (9, vi (k : Int)), (10, v24), (35, .bool (shorter (bits k) (leastK (okK r hour) (2 ^ r.th - 1) k) && okK r hour k))] ?_ ?_
    · cases hsh : shorter (bits k) (leastK (okK r hour) (2 ^ r.th - 1) k) with
      | false =>
        refine W.draw 9 (by kernel_rfl) (by kernel_rfl) (by kernel_rfl) rfl ?_; refine .val [] (.opv rfl) rfl rfl rfl rfl ?_; refine .val [] (.opv rfl) rfl rfl rfl rfl ?_; refine .val [] (.cast (.call rfl (fun m hm => shorter_any (hkj.le (by repeat (first | exact hm.1 | replace hm := hm.2))) (hbj.le (by repeat (first | exact hm.1 | replace hm := hm.2))))) (congrArg Value.bool hsh)) rfl rfl rfl rfl ?_; refine .val [] (.opv rfl) rfl rfl rfl rfl ?_; refine DJ.pass rfl rfl rfl rfl ?_; refine DJ.pass rfl rfl rfl rfl ?_; refine DJ.pass rfl rfl rfl rfl ?_; refine DJ.pass rfl rfl rfl rfl ?_; refine DJ.pass rfl rfl rfl rfl ?_; refine DJ.nil ?_; refine WL.pass rfl rfl rfl ?_; refine .o rfl rfl rfl rfl ?_; refine WL.nil ?_
        exact Keff.intro (by repeat (first | exact trivial | refine ⟨rfl, ?_⟩)) (by simp) (by repeat (first | exact List.Sublist.refl _ | refine List.Sublist.cons _ ?_ | refine List.Sublist.cons_cons _ ?_))
      | true =>
        obtain ⟨cn, hcn⟩ : ∃ cn, okK r hour k = cn := ⟨_, rfl⟩
        rw [hcn]
        refine W.draw 9 (by kernel_rfl) (by kernel_rfl) (by kernel_rfl) rfl ?_; refine .val [] (.opv rfl) rfl rfl rfl rfl ?_; refine .val [] (.opv rfl) rfl rfl rfl rfl ?_; refine .val [] (.cast (.call rfl (fun m hm => shorter_any (hkj.le (by repeat (first | exact hm.1 | replace hm := hm.2))) (hbj.le (by repeat (first | exact hm.1 | replace hm := hm.2))))) (congrArg Value.bool hsh)) rfl rfl rfl rfl ?_; refine .val [] (.opv rfl) rfl rfl rfl rfl ?_; refine .val [] (.loadPW rfl h3j (by repeat constructor) rfl) rfl rfl rfl rfl ?_; refine .val [] (.opv rfl) rfl rfl rfl rfl ?_; refine .val [] (.opv rfl) rfl rfl rfl rfl ?_; refine .val [] (.opv rfl) rfl rfl rfl rfl ?_; refine DJ.abs (A := fun m q => IsBoils m q (atL (bits k) hour)) [] (OpAbs.call rfl (fun m hm => atR_any hour (hkj.le (by repeat (first | exact hm.1 | replace hm := hm.2))) (by omega))) rfl rfl rfl rfl ?_; refine DJ.nil ?_
        rintro m33 v33 h33
        refine .val (.cast (.call rfl (fun m hm => areSafeR_any (hvj.le (by repeat (first | exact hm.1 | replace hm := hm.2))) hV (hlj.le (by repeat (first | exact hm.1 | replace hm := hm.2))) (h33.le (by repeat (first | exact hm.1 | replace hm := hm.2))) (by simp [atL]; omega))) (congrArg Value.bool hcn)) rfl rfl rfl ?_
        refine .o rfl rfl rfl rfl ?_; refine WL.nil ?_
        exact Keff.intro (by repeat (first | exact trivial | refine ⟨rfl, ?_⟩)) (by simp) (by repeat (first | exact List.Sublist.refl _ | refine List.Sublist.cons _ ?_ | refine List.Sublist.cons_cons _ ?_))
    refine Kseq.go ?_
    refine W.cond rfl rfl (fun hb => ?_) (fun hb => ?_)
    · have e : leastK (okK r hour) (2 ^ r.th - 1) (k + 1) = bits k := by
        rw [Bool.and_eq_true] at hb
        simp only [leastK]; rw [if_pos hb]
      refine W.region ?_
      iterate 2 refine .o rfl rfl rfl rfl ?_
      refine WL.nil ?_
      refine Kblock.normal (Kseq.go ?_)
      refine W.region ?_; refine .o rfl rfl rfl rfl ?_; refine .val (.incr rfl (by omega)) rfl rfl rfl ?_; refine .o rfl rfl rfl rfl ?_; refine WL.nil ?_
      exact Kloop.next (k + 1, v24, mj) ⟨by dsimp only; omega, by dsimp only; rw [e]; exact hkj, h3j, hvj, hlj⟩ (by dsimp only; omega) ⟨rfl, rfl, rfl, rfl, rfl, rfl, trivial⟩ (by simp) (by repeat (first | exact List.Sublist.refl _ | refine List.Sublist.cons _ ?_ | refine List.Sublist.cons_cons _ ?_))
    · have e : leastK (okK r hour) (2 ^ r.th - 1) (k + 1) = leastK (okK r hour) (2 ^ r.th - 1) k := by
        simp only [leastK]; rw [if_neg (fun hh => by rw [hh.1, hh.2] at hb; cases hb)]
      refine W.skip (Kblock.normal (Kseq.go ?_))
      refine W.region ?_; refine .o rfl rfl rfl rfl ?_; refine .val (.incr rfl (by omega)) rfl rfl rfl ?_; refine .o rfl rfl rfl rfl ?_; refine WL.nil ?_
      exact Kloop.next (k + 1, bv2', mj) ⟨by dsimp only; omega, by dsimp only; rw [e]; exact hbj, h3j, hvj, hlj⟩ (by dsimp only; omega) ⟨rfl, rfl, rfl, rfl, rfl, rfl, trivial⟩ (by simp) (by repeat (first | exact List.Sublist.refl _ | refine List.Sublist.cons _ ?_ | refine List.Sublist.cons_cons _ ?_))
  · refine W.exit (Kseq.exit (Kloop.exit (Kblock.here (Kseq.go (W.seq ?_)))))
    have hkk : k = 2 ^ r.th := by omega
    subst hkk
    refine W.region ?_
    iterate 2 refine .o rfl rfl rfl rfl ?_
    refine WL.nil ?_; refine Kseq.go ?_
    refine W.ret ?_; refine ⟨.inl rfl, [_], mb, ⟨.tmp rfl, trivial⟩, (by repeat constructor), ?_⟩
    exact hbest
theorem proveBoil_E {r : House} {hour : Int} {x : List Int} {m : Int} (h : proveBoilB r hour x m = true) : ask6E r (isHour r hour) = 0 := by
  unfold proveBoilB at h
  simp only [Bool.and_eq_true, decide_eq_true_eq] at h
  obtain ⟨h1, h2, h3⟩ := ask6E_iff.1 h.1
  rw [Bool.and_eq_true] at h2
  exact ask6E_iff.2 ⟨h1, h2.1, h3⟩
theorem proveBoil_val {r : House} {hour : Int} {x : List Int} {m : Int} (h : ask6E r (isHour r hour) = 0) : proveBoilB r hour x m = (risingB x r.things && (decide ((x.length : Int) ≤ m) && safeL r (ask6 r) (atL x hour))) := by
  obtain ⟨h1, h2, h3⟩ := ask6E_iff.1 h
  unfold proveBoilB
  congr 1
  rw [Bool.eq_iff_iff, decide_eq_true_eq, ask6E_iff, h2, Bool.true_and]
  exact ⟨fun h => h.2.1, fun h => ⟨h1, h, h3⟩⟩
/-- SickBoils -/
theorem sickBoils_any {h : Mem} {v tvv : Value} {r : House} (hv : IsHouse h v r) (hour : Int) {x : List Int} (hx : IsInts h tvv x) (many : Int) : FnV Tryz.prog 12 #[v, vi hour, tvv, vi many] h (.bool true) := by
  have hv' := hv
  obtain ⟨wv, pv, kv, tv, bv, sv, f, rfl, hA⟩ := hv
  have hxb := hx.bd
  refine FnR.val ?_
  refine FnR.of_W (n := 97) Tryz.func12 rfl rfl (Nat.le_of_ble_eq_true rfl) fun c hr hD hF => ?_
  refine W.seq ?_; refine W.region ?_
  refine WL.box rfl rfl rfl rfl (fun b4 => ?_)
  refine .o rfl rfl rfl rfl ?_; refine WL.nil ?_
  refine Kseq.go (W.seq (W.seq ?_))
  refine W.freezeBox (.head _) (fun b hb => (hF b hb).elim) fun m4 h4 => ?_
  cases hth : thin6 r with
  | false =>
    refine W.region ?_; refine .val (.loadPW rfl h4 (by repeat constructor) rfl) rfl rfl rfl ?_; refine .val (.cast (.call rfl (fun m hm => thin6_any (hv'.le (by repeat (first | exact hm.1 | replace hm := hm.2))))) (congrArg Value.bool hth)) rfl rfl rfl ?_
    iterate 2 refine .o rfl rfl rfl rfl ?_
    refine WL.pass rfl rfl rfl ?_; refine WL.pass rfl rfl rfl ?_; refine WL.pass rfl rfl rfl ?_; refine .o rfl rfl rfl rfl ?_; refine WL.nil ?_; refine Kseq.go ?_; refine W.condT rfl rfl ?_; refine W.seq ?_; refine W.region ?_; refine .val (.call rfl (fun m hm => awake6_any)) rfl rfl rfl ?_; refine .o rfl rfl rfl rfl ?_; refine WL.nil ?_; refine Kseq.go ?_
    refine W.ret ?_; refine Kseq.ret ?_; refine ⟨.inl rfl, [_], h, ⟨.tmp rfl, trivial⟩, (by repeat constructor), ?_⟩
    rfl
  | true =>
  have hs := thin6_sm hth
  by_cases hl12 : 12 < x.length
  · skip
    refine W.region ?_; refine .val (.loadPW rfl h4 (by repeat constructor) rfl) rfl rfl rfl ?_; refine .val (.cast (.call rfl (fun m hm => thin6_any (hv'.le (by repeat (first | exact hm.1 | replace hm := hm.2))))) (congrArg Value.bool hth)) rfl rfl rfl ?_
    iterate 3 refine .o rfl rfl rfl rfl ?_
    refine .val (.len rfl hx) rfl rfl rfl ?_; refine .val (.cast (.opv rfl) (congrArg Value.bool (decide_eq_true (by omega)))) rfl rfl rfl ?_; refine .o rfl rfl rfl rfl ?_; refine WL.nil ?_; refine Kseq.go ?_; refine W.condT rfl rfl ?_; refine W.seq ?_; refine W.region ?_; refine .val (.call rfl (fun m hm => awake6_any)) rfl rfl rfl ?_; refine .o rfl rfl rfl rfl ?_; refine WL.nil ?_; refine Kseq.go ?_
    refine W.ret ?_; refine Kseq.ret ?_; refine ⟨.inl rfl, [_], h, ⟨.tmp rfl, trivial⟩, (by repeat constructor), ?_⟩
    rfl
  refine W.region ?_; refine .val (.loadPW rfl h4 (by repeat constructor) rfl) rfl rfl rfl ?_; refine .val (.cast (.call rfl (fun m hm => thin6_any (hv'.le (by repeat (first | exact hm.1 | replace hm := hm.2))))) (congrArg Value.bool hth)) rfl rfl rfl ?_
  iterate 3 refine .o rfl rfl rfl rfl ?_
  refine .val (.len rfl hx) rfl rfl rfl ?_; refine .val (.cast (.opv rfl) (congrArg Value.bool (decide_eq_false (by omega)))) rfl rfl rfl ?_; refine .o rfl rfl rfl rfl ?_; refine WL.nil ?_; refine Kseq.go ?_; refine W.condF rfl rfl ?_
  refine W.skip (Kseq.go (W.seq ?_))
  obtain ⟨E, hE⟩ : ∃ E, ask6E r (isHour r hour) = E := ⟨_, rfl⟩
  obtain ⟨B, hB⟩ : ∃ B, proveBoilB r hour x many = B := ⟨_, rfl⟩
  refine W.region ?_; refine .val (.loadPW rfl h4 (by repeat constructor) rfl) rfl rfl rfl ?_; refine WL.abs (OpAbs.call rfl (fun m hm => houseL_any (hv'.le (by repeat (first | exact hm.1 | replace hm := hm.2))) hs)) rfl rfl rfl ?_
  rintro m26 v26 h26
  refine .o rfl rfl rfl rfl ?_; refine WL.abs (OpAbs.call rfl (fun m hm => boil6_any hour (h26.le (by repeat (first | exact hm.1 | replace hm := hm.2))) hs)) rfl rfl rfl ?_
  rintro m28 _ ⟨xv, rfl, hxa, hxb2⟩
  rw [hE] at hxa hxb2
  rw [hE]
  iterate 5 refine .o rfl rfl rfl rfl ?_
  refine WL.nil ?_
  refine Kseq.go (W.seq ?_)
  refine W.region ?_; refine .val (.loadPW rfl h4 (by repeat constructor) rfl) rfl rfl rfl ?_; refine WL.abs (OpAbs.call rfl (fun m hm => houseL_any (hv'.le (by repeat (first | exact hm.1 | replace hm := hm.2))) hs)) rfl rfl rfl ?_
  rintro m32 v32 h32
  iterate 2 refine .o rfl rfl rfl rfl ?_
  refine WL.abs (OpAbs.call rfl (fun m hm => list6_any (hx.le (by repeat (first | exact hm.1 | replace hm := hm.2))) (by omega))) rfl rfl rfl ?_
  rintro m35 v35 h35
  refine .o rfl rfl rfl rfl ?_; refine .val (.cast (.call rfl (fun m hm => proveBoil_any many (h32.le (by repeat (first | exact hm.1 | replace hm := hm.2))) hs (h35.le (by repeat (first | exact hm.1 | replace hm := hm.2))) (by omega))) (congrArg Value.bool hB)) rfl rfl rfl ?_; refine .o rfl rfl rfl rfl ?_; refine WL.nil ?_
  refine Kseq.go (W.seq ?_)
  refine W.region ?_; refine .val (.loadPW rfl h4 (by repeat constructor) rfl) rfl rfl rfl ?_; refine .o rfl rfl rfl rfl ?_; refine WL.abs (OpAbs.call rfl (fun m hm => within6L_any hour (hv'.le (by repeat (first | exact hm.1 | replace hm := hm.2))) hs)) rfl rfl rfl ?_
  rintro m41 _ ⟨lv, rfl, hlv⟩
  rw [hE] at hlv
  rw [hE]
  iterate 5 refine .o rfl rfl rfl rfl ?_
  refine WL.nil ?_
  refine Kseq.go (W.seq (W.seq ?_))
  by_cases h0 : E = 0
  · subst h0
    have hEi := ask6E_iff.1 hE
    have hV := fault6_zero.1 hEi.1
    have hhr := isHour_iff.1 hEi.2.1
    have hla := hV.last
    obtain ⟨k, hk⟩ : ∃ k : Nat, hour = (k : Int) := ⟨hour.toNat, by omega⟩
    subst hk
    have hT := hlv rfl
    have hxr := boil6_refK hV (hour := k) (by omega)
    have hxI := hxb2 rfl _ hxr
    have hthw := hV.thW
    have hth := hV.th
    have hval := proveBoil_val (x := x) (m := many) hE
    rw [hB] at hval
    have hrg := hV.fit
    refine W.region ?_; refine .o rfl rfl rfl rfl ?_; refine .val (OpVal.neqF6 rfl rfl) rfl rfl rfl ?_; refine WL.nil ?_; refine Kseq.go ?_; refine W.condF rfl rfl ?_
    refine W.skip (Kseq.go (W.seq ?_))
    refine W.toS [(1, vi (k : Int)), (4, .pointer (some ⟨b4, 0, none⟩)), (9, xv), (10, vi 0), (11, .bool B), (12, lv), (14, .bool B)] ?_ ?_
    · cases hA1 : risingB x r.things with
      | false =>
        have hB0 : B = false := by rw [hval, hA1]; rfl
        refine W.draw 16 (by kernel_rfl) (by kernel_rfl) (by kernel_rfl) rfl ?_; refine .val [] (.opv rfl) rfl rfl rfl rfl ?_; refine .val [] (.loadPW rfl h4 (by repeat constructor) rfl) rfl rfl rfl rfl ?_; refine .val [] (.cast (.call rfl (fun m hm => thingsR_any (hv'.le (by repeat (first | exact hm.1 | replace hm := hm.2))))) (congrArg (Value.int .i64) (hthw.trans hth.1))) rfl rfl rfl rfl ?_; refine .val [] (.cast (.call rfl (fun m hm => areRising_any (by omega) (hx.le (by repeat (first | exact hm.1 | replace hm := hm.2))))) (congrArg Value.bool hA1)) rfl rfl rfl rfl ?_; refine .val [] (.opv rfl) rfl rfl rfl rfl ?_; refine DJ.pass rfl rfl rfl rfl ?_; refine DJ.pass rfl rfl rfl rfl ?_; refine DJ.pass rfl rfl rfl rfl ?_; refine DJ.pass rfl rfl rfl rfl ?_; refine .val [] (.opv rfl) rfl rfl rfl rfl ?_; refine .val [] (.opv rfl) rfl rfl rfl rfl ?_; refine DJ.pass rfl rfl rfl rfl ?_; refine DJ.pass rfl rfl rfl rfl ?_
        refine DJ.pass rfl rfl rfl rfl ?_; refine DJ.pass rfl rfl rfl rfl ?_; refine DJ.pass rfl rfl rfl rfl ?_; refine DJ.nil ?_; refine WL.pass rfl rfl rfl ?_
        iterate 2 refine .o rfl rfl rfl rfl ?_
        refine WL.nil ?_
        exact Keff.intro ⟨rfl, rfl, rfl, rfl, rfl, rfl, congrArg (fun b => some (Value.bool b)) hB0.symm, trivial⟩ (by intro y hy; repeat (first | exact hy | refine .tail _ ?_)) (by repeat (first | exact List.Sublist.refl _ | refine List.Sublist.cons _ ?_ | refine List.Sublist.cons_cons _ ?_))
      | true =>
        cases hA2 : decide ((x.length : Int) ≤ many) with
        | false =>
          have hB0 : B = false := by rw [hval, hA1, hA2]; rfl
          refine W.draw 16 (by kernel_rfl) (by kernel_rfl) (by kernel_rfl) rfl ?_; refine .val [] (.opv rfl) rfl rfl rfl rfl ?_; refine .val [] (.loadPW rfl h4 (by repeat constructor) rfl) rfl rfl rfl rfl ?_; refine .val [] (.cast (.call rfl (fun m hm => thingsR_any (hv'.le (by repeat (first | exact hm.1 | replace hm := hm.2))))) (congrArg (Value.int .i64) (hthw.trans hth.1))) rfl rfl rfl rfl ?_; refine .val [] (.cast (.call rfl (fun m hm => areRising_any (by omega) (hx.le (by repeat (first | exact hm.1 | replace hm := hm.2))))) (congrArg Value.bool hA1)) rfl rfl rfl rfl ?_; refine .val [] (.opv rfl) rfl rfl rfl rfl ?_; refine .val [] (.opv rfl) rfl rfl rfl rfl ?_; refine .val [] (.len rfl hx) rfl rfl rfl rfl ?_; refine .val [] (.opv rfl) rfl rfl rfl rfl ?_; refine .val [] (.cast (.opv rfl) (congrArg Value.bool hA2)) rfl rfl rfl rfl ?_; refine .val [] (.opv rfl) rfl rfl rfl rfl ?_; refine .val [] (.opv rfl) rfl rfl rfl rfl ?_
          refine DJ.pass rfl rfl rfl rfl ?_; refine DJ.pass rfl rfl rfl rfl ?_; refine DJ.pass rfl rfl rfl rfl ?_; refine DJ.pass rfl rfl rfl rfl ?_; refine DJ.pass rfl rfl rfl rfl ?_; refine DJ.nil ?_; refine WL.pass rfl rfl rfl ?_
          iterate 2 refine .o rfl rfl rfl rfl ?_
          refine WL.nil ?_
          exact Keff.intro ⟨rfl, rfl, rfl, rfl, rfl, rfl, congrArg (fun b => some (Value.bool b)) hB0.symm, trivial⟩ (by intro y hy; repeat (first | exact hy | refine .tail _ ?_)) (by repeat (first | exact List.Sublist.refl _ | refine List.Sublist.cons _ ?_ | refine List.Sublist.cons_cons _ ?_))
        | true =>
          have hB0 : safeL r (ask6 r) (atL x (k : Int)) = B := by rw [hval, hA1, hA2]; rfl
          refine W.draw 16 (by kernel_rfl) (by kernel_rfl) (by kernel_rfl) rfl ?_; refine .val [] (.opv rfl) rfl rfl rfl rfl ?_; refine .val [] (.loadPW rfl h4 (by repeat constructor) rfl) rfl rfl rfl rfl ?_; refine .val [] (.cast (.call rfl (fun m hm => thingsR_any (hv'.le (by repeat (first | exact hm.1 | replace hm := hm.2))))) (congrArg (Value.int .i64) (hthw.trans hth.1))) rfl rfl rfl rfl ?_; refine .val [] (.cast (.call rfl (fun m hm => areRising_any (by omega) (hx.le (by repeat (first | exact hm.1 | replace hm := hm.2))))) (congrArg Value.bool hA1)) rfl rfl rfl rfl ?_; refine .val [] (.opv rfl) rfl rfl rfl rfl ?_; refine .val [] (.opv rfl) rfl rfl rfl rfl ?_; refine .val [] (.len rfl hx) rfl rfl rfl rfl ?_; refine .val [] (.opv rfl) rfl rfl rfl rfl ?_; refine .val [] (.cast (.opv rfl) (congrArg Value.bool hA2)) rfl rfl rfl rfl ?_; refine .val [] (.opv rfl) rfl rfl rfl rfl ?_; refine .val [] (.opv rfl) rfl rfl rfl rfl ?_
          refine .val [] (.loadPW rfl h4 (by repeat constructor) rfl) rfl rfl rfl rfl ?_; refine .val [] (.opv rfl) rfl rfl rfl rfl ?_; refine .val [] (.opv rfl) rfl rfl rfl rfl ?_; refine .val [] (.opv rfl) rfl rfl rfl rfl ?_; refine DJ.abs (A := fun m q => IsBoils m q (atL x (k : Int))) [] (OpAbs.call rfl (fun m hm => atR_any (k : Int) (hx.le (by repeat (first | exact hm.1 | replace hm := hm.2))) (by omega))) rfl rfl rfl rfl ?_; refine DJ.nil ?_
          rintro m76 v76 h76
          refine .val (.cast (.call rfl (fun m hm => areSafeR_any (hv'.le (by repeat (first | exact hm.1 | replace hm := hm.2))) hV (hT.le (by repeat (first | exact hm.1 | replace hm := hm.2))) (h76.le (by repeat (first | exact hm.1 | replace hm := hm.2))) (by simp [atL]; omega))) (congrArg Value.bool hB0)) rfl rfl rfl ?_
          iterate 2 refine .o rfl rfl rfl rfl ?_
          refine WL.nil ?_
          exact Keff.intro (by repeat (first | exact trivial | refine ⟨rfl, ?_⟩)) (by intro y hy; repeat (first | exact hy | refine .tail _ ?_)) (by repeat (first | exact List.Sublist.refl _ | refine List.Sublist.cons _ ?_ | refine List.Sublist.cons_cons _ ?_))
    refine Kseq.go (W.seq ?_)
    refine W.region ?_
    iterate 2 refine .o rfl rfl rfl rfl ?_
    refine .val (.cast (OpVal.eqB6 rfl rfl) (show _ = Value.bool true from congrArg Value.bool (decide_eq_true rfl))) rfl rfl rfl ?_
    iterate 2 refine .o rfl rfl rfl rfl ?_
    refine .val (OpVal.eqT6 rfl rfl) rfl rfl rfl ?_
    iterate 3 refine .o rfl rfl rfl rfl ?_
    refine .val (.loadPW rfl h4 (by repeat constructor) rfl) rfl rfl rfl ?_
    iterate 2 refine .o rfl rfl rfl rfl ?_
    refine WL.abs (OpAbs.call rfl (fun m hm => boilR_any (hv'.le (by repeat (first | exact hm.1 | replace hm := hm.2))) hV (hT.le (by repeat (first | exact hm.1 | replace hm := hm.2))))) rfl rfl rfl ?_
    rintro m91 v91 h91
    refine .val (.call rfl (fun m hm => same6_eq (hxI.le (by repeat (first | exact hm.1 | replace hm := hm.2))) (h91.le (by repeat (first | exact hm.1 | replace hm := hm.2))))) rfl rfl rfl ?_
    iterate 2 refine .o rfl rfl rfl rfl ?_
    refine .val (.call rfl (fun m hm => awake6_any)) rfl rfl rfl ?_
    iterate 2 refine .o rfl rfl rfl rfl ?_
    refine WL.nil ?_; refine Kseq.go ?_
    refine W.ret ?_; refine ⟨.inl rfl, [_], h, ⟨.tmp rfl, trivial⟩, (by repeat constructor), ?_⟩
    rfl
  · have hxn := hxa h0
    subst hxn
    have hB0 : B = false := by
      cases B with
      | false => rfl
      | true => exact absurd (hE ▸ proveBoil_E hB) h0
    subst hB0
    refine W.region ?_; refine .o rfl rfl rfl rfl ?_; refine .val (.cast (.opv rfl) (show _ = Value.bool true from congrArg (fun b => Value.bool (!b)) (decide_eq_false h0))) rfl rfl rfl ?_; refine WL.nil ?_; refine Kseq.go ?_; refine W.condT rfl rfl ?_; refine W.seq ?_; refine W.region ?_
    iterate 2 refine .o rfl rfl rfl rfl ?_
    refine .val (OpVal.eqT6 rfl rfl) rfl rfl rfl ?_
    iterate 2 refine .o rfl rfl rfl rfl ?_
    refine .val (.lenNil rfl) rfl rfl rfl ?_; refine .val (OpVal.eqT6 rfl rfl) rfl rfl rfl ?_
    iterate 6 refine .o rfl rfl rfl rfl ?_
    refine .val (.call rfl (fun m hm => awake6_any)) rfl rfl rfl ?_
    iterate 2 refine .o rfl rfl rfl rfl ?_
    refine WL.nil ?_; refine Kseq.go ?_
    refine W.ret ?_; refine Kseq.ret ?_; refine ⟨.inl rfl, [_], h, ⟨.tmp rfl, trivial⟩, (by repeat constructor), ?_⟩
    rfl
end Go.Proofs.YtdnbkjgbehakpaaGreat
