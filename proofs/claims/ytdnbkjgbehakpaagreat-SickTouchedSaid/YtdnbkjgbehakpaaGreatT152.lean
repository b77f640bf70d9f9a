/- The statement SickTouched: its contract. -/
import Derived.Test.YtdnbkjgbehakpaaGreatP40
import Derived.Test.YtdnbkjgbehakpaaGreatT126
import Derived.Test.YtdnbkjgbehakpaaGreatT143
import Derived.Test.YtdnbkjgbehakpaaGreatT146
import Derived.Test.YtdnbkjgbehakpaaGreatT132
import Derived.Test.YtdnbkjgbehakpaaGreatE18
import Derived.Test.YtdnbkjgbehakpaaGreatE19
namespace Go.Proofs.YtdnbkjgbehakpaaGreat
open Go Go.Eng Go.RowKit

/-- list, its result a row of one's own -/
theorem list6M_any {h : Mem} {v : Value} {xs : List Int} (hv : IsInts h v xs) (hb : xs.length ≤ 1000) : FnM Tryz.prog 45 #[v] [h] [] (fun r Ms' μ' => Ms' = [] ∧ μ' = [ir 3 r xs] ∧ r.cells = #[r]) := by
  obtain ⟨a, cp, rfl⟩ := IsArr.form hv
  refine FnM.of_W (n := 6) Tryz.func45 rfl rfl (Nat.le_of_ble_eq_true rfl) rfl fun c hr hD hF => ?_
  refine W.seq ?_; refine W.region ?_; refine .o rfl ?_; refine WL.nil ?_
  refine Kseq.go (W.seq ?_)
  refine W.region ?_
  (refine WL.lit (vs := []) [] rfl (Nat.le_of_ble_eq_true rfl) rfl rfl (by simp) (Nat.le_of_ble_eq_true rfl) rfl rfl rfl rfl (fun b3 => ?_))
  refine .o rfl ?_
  (refine WL.appInts (xs := []) rfl (fun _ => .head _) rfl hv (by repeat constructor) (by simp; omega) rfl rfl rfl ?_; intro a5 cp5)
  refine .o rfl ?_; refine WL.nil ?_; refine Kseq.go ?_
  refine W.ret ?_; skip
  exact ⟨.inl rfl, [_], [], _, ⟨.tmp rfl, trivial⟩, ⟨rfl, rfl, rfl⟩, by simp, .refl _, by simp [markOf]⟩
theorem flat_touch (ts : List Touch) (t : Touch) : flatv ((ts ++ [t]).map tv4) = flatv (ts.map tv4) ++ [vi t.a, vi t.b, vi t.lo, vi t.hi] := by
  rw [touch_flat ts [] t]; simp [flatv]
theorem flat_boil (bs : List Boil) (b : Boil) : flatv ((bs ++ [b]).map bv2) = flatv (bs.map bv2) ++ [vi b.thing, vi b.hour] := by
  unfold flatv
  rw [List.map_append, List.flatMap_append]
  rfl
theorem tcells_one (bs : List Touch) : ∀ u ∈ flatv (bs.map tv4), u.oneCell' = true := by
  intro u hu
  unfold flatv at hu
  obtain ⟨x, hx, hu⟩ := List.mem_flatMap.1 hu
  obtain ⟨y, _, rfl⟩ := List.mem_map.1 hx
  simp [tv4, Value.cells] at hu
  rcases hu with rfl | rfl | rfl | rfl <;> rfl
theorem touches_cells {m : Mem} {v : Value} {bs : List Touch} {n : Nat} (hn : n = bs.length) (h : IsArr m 4 v n (fun i j => (flatv (bs.map tv4)).getD (i * 4 + j) undef)) : IsTouches m v bs := by
  subst hn
  refine h.congr fun i j hi hj => ?_
  have e := tcells_at hi hj
  match j, hj, e with
  | 0, _, e => exact e
  | 1, _, e => exact e
  | 2, _, e => exact e
  | 3, _, e => exact e
theorem other_thing {n a b : Nat} (hn : 2 ≤ n) : (a % n + 1 + b % (n - 1)) % n < n ∧ (a % n + 1 + b % (n - 1)) % n ≠ a % n := by
  have h1 : a % n < n := Nat.mod_lt _ (by omega)
  have h2 : b % (n - 1) < n - 1 := Nat.mod_lt _ (by omega)
  refine ⟨Nat.mod_lt _ (by omega), ?_⟩
  generalize a % n = x at *
  generalize b % (n - 1) = y at *
  rcases Nat.lt_or_ge (x + 1 + y) n with h | h
  · rw [Nat.mod_eq_of_lt h]; omega
  · rw [Nat.mod_eq_sub_mod h, Nat.mod_eq_of_lt (by omega)]; omega
theorem play6E_zero {r : House} (hV : ValidH r) {c : Course} (hc : CourseT r.table r.touches c) : play6E r c = 0 := by
  unfold play6E
  rw [if_neg (by simpa using fault6_zero.2 hV), if_neg]
  rw [courseB_iff.2 hc]; simp
theorem courses_some {r : House} (hV : ValidH r) : 0 < (courses r).length := by
  obtain ⟨c, hc⟩ := List.exists_mem_of_ne_nil _ (scenes_some hV)
  exact List.length_pos_of_mem (hV.mem.2 hc)
theorem has_bits {s i W : Nat} (_ : s < 2 ^ W) (_ : W ≤ 60) (hi : i < 60) : decide ((i : Int) ∈ bits s) = s.testBit i := by
  rw [Bool.eq_iff_iff, decide_eq_true_eq, mem_bits]
  exact ⟨fun h => h.2, fun h => ⟨by omega, h⟩⟩
set_option maxHeartbeats 2000000 in
/-- SickTouched -/
theorem sickTouched_any {h : Mem} {v : Value} {r : House} {wh n1 n2 n3 : Nat} (hv : IsHouse h v r) (hw : wh < 65536) (hn1 : n1 < 256) (hn2 : n2 < 256) (hn3 : n3 < 256) : FnV Tryz.prog 6 #[v, .int .u16 wh, .int .u8 n1, .int .u8 n2, .int .u8 n3] h (.bool true) := by
  have hv' := hv
  obtain ⟨wv, pv, kv, tv, bv, sv, f, rfl, hA⟩ := hv
  have hT := hA.T
  have hB := hA.B
  have hTc := hA.T.toCells
  have hBc := hA.B.toCells
  refine FnR.val ?_
  refine FnR.of_W (n := 179) Tryz.func6 rfl rfl (Nat.le_of_ble_eq_true rfl) fun c hr hD hF => ?_
  refine W.seq ?_; refine W.region ?_
  refine WL.box rfl rfl rfl rfl (fun b5 => ?_)
  refine .o rfl ?_; refine WL.nil ?_
  refine Kseq.go (W.seq ?_)
  refine W.freezeBox (.head _) (fun b hb => (hF b hb).elim) fun m5 h5 => ?_
  refine W.region ?_; refine .val (.loadPW rfl h5 (by repeat constructor) rfl) rfl rfl rfl ?_; refine .val (.call rfl (fun m hm => thingsR_any (hv'.le (by repeat first | exact hm.1 | replace hm := hm.2)))) rfl rfl rfl ?_; refine .o rfl ?_; refine WL.nil ?_
  refine Kseq.go (W.seq (W.seq ?_))
  cases hR : ready6 r with
  | false =>
    refine W.region ?_; refine .val (.loadPW rfl h5 (by repeat constructor) rfl) rfl rfl rfl ?_; refine .val (.cast (.call rfl (fun m hm => ready6_any (hv'.le (by repeat first | exact hm.1 | replace hm := hm.2)))) (congrArg Value.bool hR)) rfl rfl rfl ?_
    iterate 2 refine .o rfl ?_
    refine WL.pass rfl rfl rfl ?_; refine WL.pass rfl rfl rfl ?_
    iterate 2 refine .o rfl ?_
    refine WL.pass rfl rfl rfl ?_; refine WL.pass rfl rfl rfl ?_; refine WL.pass rfl rfl rfl ?_; refine WL.pass rfl rfl rfl ?_
    iterate 2 refine .o rfl ?_
    refine WL.pass rfl rfl rfl ?_; refine WL.pass rfl rfl rfl ?_; refine WL.pass rfl rfl rfl ?_; refine WL.pass rfl rfl rfl ?_; refine .o rfl ?_; refine WL.nil ?_; refine Kseq.go ?_; refine W.condT rfl rfl ?_; refine W.seq ?_; refine W.region ?_; refine .val (.call rfl (fun m hm => awake6_any)) rfl rfl rfl ?_; refine .o rfl ?_; refine WL.nil ?_; refine Kseq.go ?_
    refine W.ret ?_; refine Kseq.ret ?_; refine ⟨.inl rfl, [_], h, ⟨.tmp rfl, trivial⟩, (by repeat constructor), ?_⟩
    rfl
  | true =>
  obtain ⟨hV, hs, hf0, _⟩ := ready6_iff hR
  have hth := hV.thW
  have h10 := hV.th
  rw [hth]
  by_cases ht2 : r.th < 2
  · skip
    refine W.region ?_; refine .val (.loadPW rfl h5 (by repeat constructor) rfl) rfl rfl rfl ?_; refine .val (.cast (.call rfl (fun m hm => ready6_any (hv'.le (by repeat first | exact hm.1 | replace hm := hm.2)))) (congrArg Value.bool hR)) rfl rfl rfl ?_
    iterate 3 refine .o rfl ?_
    refine .val (.cast (.opv rfl) (congrArg Value.bool (decide_eq_true (by omega)))) rfl rfl rfl ?_
    iterate 2 refine .o rfl ?_
    refine WL.pass rfl rfl rfl ?_; refine WL.pass rfl rfl rfl ?_; refine WL.pass rfl rfl rfl ?_; refine WL.pass rfl rfl rfl ?_
    iterate 2 refine .o rfl ?_
    refine WL.pass rfl rfl rfl ?_; refine WL.pass rfl rfl rfl ?_; refine WL.pass rfl rfl rfl ?_; refine WL.pass rfl rfl rfl ?_; refine .o rfl ?_; refine WL.nil ?_; refine Kseq.go ?_; refine W.condT rfl rfl ?_; refine W.seq ?_; refine W.region ?_; refine .val (.call rfl (fun m hm => awake6_any)) rfl rfl rfl ?_; refine .o rfl ?_; refine WL.nil ?_; refine Kseq.go ?_
    refine W.ret ?_; refine Kseq.ret ?_; refine ⟨.inl rfl, [_], h, ⟨.tmp rfl, trivial⟩, (by repeat constructor), ?_⟩
    rfl
  by_cases ht5 : 5 < r.touches.length
  · skip
    refine W.region ?_; refine .val (.loadPW rfl h5 (by repeat constructor) rfl) rfl rfl rfl ?_; refine .val (.cast (.call rfl (fun m hm => ready6_any (hv'.le (by repeat first | exact hm.1 | replace hm := hm.2)))) (congrArg Value.bool hR)) rfl rfl rfl ?_
    iterate 3 refine .o rfl ?_
    refine .val (.cast (.opv rfl) (congrArg Value.bool (decide_eq_false (by omega)))) rfl rfl rfl ?_
    iterate 2 refine .o rfl ?_
    refine .val (.fieldAddrB rfl) rfl rfl rfl ?_; refine .val (.loadP rfl h5 (by repeat constructor) rfl) rfl rfl rfl ?_; refine .val (.len rfl hT) rfl rfl rfl ?_; refine .val (.cast (.opv rfl) (congrArg Value.bool (decide_eq_true (by omega)))) rfl rfl rfl ?_
    iterate 2 refine .o rfl ?_
    refine WL.pass rfl rfl rfl ?_; refine WL.pass rfl rfl rfl ?_; refine WL.pass rfl rfl rfl ?_; refine WL.pass rfl rfl rfl ?_; refine .o rfl ?_; refine WL.nil ?_; refine Kseq.go ?_; refine W.condT rfl rfl ?_; refine W.seq ?_; refine W.region ?_; refine .val (.call rfl (fun m hm => awake6_any)) rfl rfl rfl ?_; refine .o rfl ?_; refine WL.nil ?_; refine Kseq.go ?_
    refine W.ret ?_; refine Kseq.ret ?_; refine ⟨.inl rfl, [_], h, ⟨.tmp rfl, trivial⟩, (by repeat constructor), ?_⟩
    rfl
  by_cases hb3 : 3 < r.boiled.length
  · skip
    refine W.region ?_; refine .val (.loadPW rfl h5 (by repeat constructor) rfl) rfl rfl rfl ?_; refine .val (.cast (.call rfl (fun m hm => ready6_any (hv'.le (by repeat first | exact hm.1 | replace hm := hm.2)))) (congrArg Value.bool hR)) rfl rfl rfl ?_
    iterate 3 refine .o rfl ?_
    refine .val (.cast (.opv rfl) (congrArg Value.bool (decide_eq_false (by omega)))) rfl rfl rfl ?_
    iterate 2 refine .o rfl ?_
    refine .val (.fieldAddrB rfl) rfl rfl rfl ?_; refine .val (.loadP rfl h5 (by repeat constructor) rfl) rfl rfl rfl ?_; refine .val (.len rfl hT) rfl rfl rfl ?_; refine .val (.cast (.opv rfl) (congrArg Value.bool (decide_eq_false (by omega)))) rfl rfl rfl ?_
    iterate 2 refine .o rfl ?_
    refine .val (.fieldAddrB rfl) rfl rfl rfl ?_; refine .val (.loadP rfl h5 (by repeat constructor) rfl) rfl rfl rfl ?_; refine .val (.len rfl hB) rfl rfl rfl ?_; refine .val (.cast (.opv rfl) (congrArg Value.bool (decide_eq_true (by omega)))) rfl rfl rfl ?_; refine .o rfl ?_; refine WL.nil ?_; refine Kseq.go ?_; refine W.condT rfl rfl ?_; refine W.seq ?_; refine W.region ?_; refine .val (.call rfl (fun m hm => awake6_any)) rfl rfl rfl ?_; refine .o rfl ?_; refine WL.nil ?_; refine Kseq.go ?_
    refine W.ret ?_; refine Kseq.ret ?_; refine ⟨.inl rfl, [_], h, ⟨.tmp rfl, trivial⟩, (by repeat constructor), ?_⟩
    rfl
  refine W.region ?_; refine .val (.loadPW rfl h5 (by repeat constructor) rfl) rfl rfl rfl ?_; refine .val (.cast (.call rfl (fun m hm => ready6_any (hv'.le (by repeat first | exact hm.1 | replace hm := hm.2)))) (congrArg Value.bool hR)) rfl rfl rfl ?_
  iterate 3 refine .o rfl ?_
  refine .val (.cast (.opv rfl) (congrArg Value.bool (decide_eq_false (by omega)))) rfl rfl rfl ?_
  iterate 2 refine .o rfl ?_
  refine .val (.fieldAddrB rfl) rfl rfl rfl ?_; refine .val (.loadP rfl h5 (by repeat constructor) rfl) rfl rfl rfl ?_; refine .val (.len rfl hT) rfl rfl rfl ?_; refine .val (.cast (.opv rfl) (congrArg Value.bool (decide_eq_false (by omega)))) rfl rfl rfl ?_
  iterate 2 refine .o rfl ?_
  refine .val (.fieldAddrB rfl) rfl rfl rfl ?_; refine .val (.loadP rfl h5 (by repeat constructor) rfl) rfl rfl rfl ?_; refine .val (.len rfl hB) rfl rfl rfl ?_; refine .val (.cast (.opv rfl) (congrArg Value.bool (decide_eq_false (by omega)))) rfl rfl rfl ?_; refine .o rfl ?_; refine WL.nil ?_; refine Kseq.go ?_; refine W.condF rfl rfl ?_
  have hla := hV.last
  obtain ⟨L, hL⟩ : ∃ L : Nat, r.last = (L : Int) := ⟨r.last.toNat, by omega⟩
  have hk : n3 % (L + 1) < L + 1 := Nat.mod_lt _ (by omega)
  have hF1 : n1 % r.th < r.th := Nat.mod_lt _ (by omega)
  obtain ⟨hS1, hS2⟩ := other_thing (n := r.th) (a := n1) (b := n2) (by omega)
  have hbm : n2 % (r.th - 1) < r.th - 1 := Nat.mod_lt _ (by omega)
  have eT : ((r.th : Int) - 1) = ((r.th - 1 : Nat) : Int) := by omega
  refine W.skip (Kseq.go (W.seq ?_))
  refine W.region ?_; refine .o rfl ?_; refine .val (.conv rfl (i64_in (by omega) (by omega))) rfl rfl rfl ?_; refine .val (.fieldAddrB rfl) rfl rfl rfl ?_; refine .val (.cast (.loadP rfl h5 (by repeat constructor) rfl) (congrArg (Value.int .i64) hL)) rfl rfl rfl ?_; refine .val (.cast (.add rfl rfl (by omega) (by omega)) (show _ = vi ((L + 1 : Nat) : Int) from rfl)) rfl rfl rfl ?_; refine .val (.cast (.rem rfl rfl (by omega) (by omega)) (show vi ((n3 : Int) % ((L + 1 : Nat) : Int)) = vi ((n3 % (L + 1) : Nat) : Int) from rfl)) rfl rfl rfl ?_; refine .o rfl ?_; refine WL.nil ?_
  refine Kseq.go (W.seq ?_)
  refine W.region ?_; refine .o rfl ?_; refine .val (.conv rfl (i64_in (by omega) (by omega))) rfl rfl rfl ?_; refine .o rfl ?_; refine .val (.cast (.rem rfl rfl (by omega) (by omega)) (show vi ((n1 : Int) % (r.th : Int)) = vi ((n1 % r.th : Nat) : Int) from rfl)) rfl rfl rfl ?_; refine .o rfl ?_; refine WL.nil ?_
  refine Kseq.go (W.seq ?_)
  refine W.region ?_; refine .o rfl ?_; refine .val (.incr rfl (by omega)) rfl rfl rfl ?_; refine .o rfl ?_; refine .val (.conv rfl (i64_in (by omega) (by omega))) rfl rfl rfl ?_; refine .o rfl ?_; refine .val (.cast (.sub rfl rfl (by omega) (by omega)) (congrArg (Value.int .i64) eT)) rfl rfl rfl ?_; refine .val (.cast (.rem rfl rfl (by omega) (by omega)) (show vi ((n2 : Int) % ((r.th - 1 : Nat) : Int)) = vi ((n2 % (r.th - 1) : Nat) : Int) from rfl)) rfl rfl rfl ?_; refine .val (.cast (.add rfl rfl (by omega) (by omega)) (show _ = vi ((n1 % r.th + 1 + n2 % (r.th - 1) : Nat) : Int) from congrArg (Value.int .i64) (by omega))) rfl rfl rfl ?_; refine .o rfl ?_; refine .val (.cast (.rem rfl rfl (by omega) (by omega)) (show _ = vi (((n1 % r.th + 1 + n2 % (r.th - 1)) % r.th : Nat) : Int) from rfl)) rfl rfl rfl ?_; refine .o rfl ?_; refine WL.nil ?_
  refine Kseq.go (W.seq ?_)
  generalize (n1 % r.th + 1 + n2 % (r.th - 1)) % r.th = S at *
  generalize n1 % r.th = F at *
  generalize n3 % (L + 1) = k at *
  have hcp := courses_some hV
  have hcl := courses_len6 hV
  have hil : wh % (courses r).length < (courses r).length := Nat.mod_lt _ hcp
  refine W.region ?_; refine .val (.loadPW rfl h5 (by repeat constructor) rfl) rfl rfl rfl ?_; refine WL.abs (OpAbs.call rfl (fun m hm => coursesR_any (hv'.le (by repeat first | exact hm.1 | replace hm := hm.2)) hV hs)) rfl rfl rfl ?_
  rintro m69 v69 h69
  refine .o rfl ?_; refine WL.nil ?_
  refine Kseq.go (W.seq ?_)
  obtain ⟨vs0, hvs0, hvA⟩ := h69
  have hci := hvs0.2 _ hil
  obtain ⟨c, hce⟩ : ∃ c, (courses r).getD (wh % (courses r).length) default = c := ⟨_, rfl⟩
  have hcm : c ∈ scenes r := hV.mem.1 (by rw [← hce]; exact getDc hil)
  have hcT := mem_scenes.1 hcm
  rw [hce] at hci
  have hcv := hci
  obtain ⟨ov, hv2, eci, hO, hH⟩ := hci
  refine W.region ?_
  iterate 2 refine .o rfl ?_
  refine .val (.conv rfl (i64_in (by omega) (by omega))) rfl rfl rfl ?_; refine .o rfl ?_; refine .val (.len rfl hvA) rfl rfl rfl ?_; refine .val (.cast (.rem rfl rfl (by omega) (by omega)) (show vi ((wh : Int) % ((courses r).length : Int)) = vi ((wh % (courses r).length : Nat) : Int) from rfl)) rfl rfl rfl ?_; refine .val (.indexAddrN rfl rfl hvA hil) rfl rfl rfl ?_
  refine .val (.cast (.loadEA rfl hvA (by repeat constructor) hil) (show _ = Value.agg #[ov, hv2] from by simp only [eci]; rfl)) rfl rfl rfl ?_
  refine WL.alloc rfl rfl rfl (fun b16 => ?_)
  (refine WL.store [_, _] rfl (.head _) rfl rfl rfl (Nat.le_of_ble_eq_true rfl) (by simp [Value.cells]; exact ⟨IsArr.one hO, IsArr.one hH⟩) rfl ?_)
  refine WL.nil ?_
  refine Kseq.go (W.seq ?_)
  have hcq : IsCourseV m69 (.agg #[ov, hv2]) c := eci ▸ hcv
  refine W.freezeBox (.head _) (fun b hb => (hF b hb).elim) fun m16 h16 => ?_
  refine W.join fun mi hi => ?_
  have hvi := hv'.le (hi h (by simp))
  have hci := hcq.le (hi m69 (by simp))
  have hOi := IsInts.le hO (hi m69 (by simp))
  have hHi := IsInts.le hH (hi m69 (by simp))
  have h5i := h5.le (hi m5 (by simp))
  have h16i := h16.le (hi m16 (by simp))
  have hAi := hA.le (hi h (by simp))
  have hTi := hTc.1
  have hTci : IsCells mi 4 tv r.touches.length (flatv (r.touches.map tv4)) := ⟨hTc.1, hTc.2.le (hi h (by simp))⟩
  have hBci : IsCells mi 2 bv r.boiled.length (flatv (r.boiled.map bv2)) := ⟨hBc.1, hBc.2.le (hi h (by simp))⟩
  clear h5 h16 hvA hcv hcq hO hH
  refine W.weaken [(5, .pointer (some ⟨b5, 0, none⟩)), (11, vi (r.th : Int)), (12, vi (k : Int)), (13, vi (F : Int)), (14, vi (S : Int)), (16, .pointer (some ⟨b16, 0, none⟩))] [mi] [] (by repeat (first | exact trivial | refine ⟨rfl, ?_⟩)) (by simp) (List.nil_sublist _) ?_
  let Z9 : Array Value := #[.slice none 0 0, .slice none 0 0, .int .i64 0, .slice none 0 0, .int .i64 0, .int .i64 0, .slice none 0 0, .slice none 0 0, .slice none 0 0]
  refine W.drawY (γ := Two) .n 5 [2, 3, 4] (Two.L 17 18 [(5, .pointer (some ⟨b5, 0, none⟩)), (11, vi (r.th : Int)), (12, vi (k : Int)), (13, vi (F : Int)), (14, vi (S : Int)), (16, .pointer (some ⟨b16, 0, none⟩))]) (fun _ => [mi]) (Two.M Z9 (hcs wv pv kv tv bv sv r) 31 []) (Two.tn 2 3 4) (by kernel_rfl) (by kernel_rfl) (by kernel_rfl) (fun _ _ => rfl) (fun g => by cases g <;> rfl) rfl rfl rfl ?_; refine DJY.val [] (fun g _ => by cases g <;> exact OpVal.loadPW rfl h5i (by repeat constructor) (by rfl)) (fun g _ => by cases g <;> rfl) rfl rfl (fun g => by cases g <;> rfl) rfl ?_; refine DJY.val [] (fun g _ => by cases g <;> exact OpVal.loadPW rfl h5i (by repeat constructor) (by rfl)) (fun g _ => by cases g <;> rfl) rfl rfl (fun g => by cases g <;> rfl) rfl ?_; refine DJY.eff [] trivial rfl rfl [] trivial (fun g ha hn => ?_) ?_
  · cases g with
    | n => exact ⟨rfl, fun M2 hM2 => by refine WL.alloc rfl rfl rfl (fun bx => ?_); exact WL.nil ⟨.a bx, (by intro q hq; simp at hq; rcases hq with rfl | rfl | rfl <;> rfl), (Keff.intro (by repeat (first | exact trivial | refine ⟨rfl, ?_⟩)) (fun x hx => (List.mem_append.1 hx).elim (fun h => h) (hM2 x)) (.refl _))⟩⟩
    | a x => exact Bool.noConfusion (show true = false from hn)
    | b y => exact ⟨rfl, fun M2 hM2 => by refine WL.alloc rfl rfl rfl (fun bx => ?_); refine WL.swap rfl ?_; exact WL.nil ⟨.ab bx y, (by intro q hq; simp at hq; rcases hq with rfl | rfl | rfl <;> rfl), (Keff.intro (by repeat (first | exact trivial | refine ⟨rfl, ?_⟩)) (fun x hx => (List.mem_append.1 hx).elim (fun h => h) (hM2 x)) (.refl _))⟩⟩
    | ab x y => exact Bool.noConfusion (show true = false from hn)
    | s x y => exact Bool.noConfusion (show true = false from hn)
  refine DJY.eff [] trivial rfl rfl [] trivial (fun g ha hn => ?_) ?_
  · cases g with
    | n => exact ⟨rfl, fun M2 hM2 => by refine WL.alloc rfl rfl rfl (fun bx => ?_); exact WL.nil ⟨.b bx, (by intro q hq; simp at hq; rcases hq with rfl | rfl | rfl <;> rfl), (Keff.intro (by repeat (first | exact trivial | refine ⟨rfl, ?_⟩)) (fun x hx => (List.mem_append.1 hx).elim (fun h => h) (hM2 x)) (.refl _))⟩⟩
    | a x => exact ⟨rfl, fun M2 hM2 => by refine WL.alloc rfl rfl rfl (fun bx => ?_); exact WL.nil ⟨.ab x bx, (by intro q hq; simp at hq; rcases hq with rfl | rfl | rfl <;> rfl), (Keff.intro (by repeat (first | exact trivial | refine ⟨rfl, ?_⟩)) (fun x hx => (List.mem_append.1 hx).elim (fun h => h) (hM2 x)) (.refl _))⟩⟩
    | b y => exact Bool.noConfusion (show true = false from hn)
    | ab x y => exact Bool.noConfusion (show true = false from hn)
    | s x y => exact Bool.noConfusion (show true = false from hn)
  refine DJY.eff [(78, _)] ⟨rfl, trivial⟩ rfl rfl [] trivial (fun g ha hn => ?_) ?_
  · cases g with
    | n => exact Bool.noConfusion (show false = true from ha)
    | a x => exact Bool.noConfusion (show false = true from ha)
    | b y => exact Bool.noConfusion (show false = true from ha)
    | ab x y => exact ⟨rfl, fun M2 hM2 => by refine WL.store [wv, pv, vi r.table.wrong, kv, vi r.others, vi r.last, tv, bv, sv] rfl (.tail _ (.head _)) rfl rfl rfl (Nat.le_of_ble_eq_true rfl) (by simp [Value.cells]; exact ⟨IsArr.one hAi.W, IsArr.one hAi.P, rfl, IsArr.one hAi.K, rfl, rfl, IsArr.one hAi.T, IsArr.one hAi.B, IsArr.one hAi.S⟩) rfl ?_; exact WL.nil ⟨.s x y, (by intro q hq; simp at hq; rcases hq with rfl | rfl | rfl <;> rfl), (Keff.intro (by repeat (first | exact trivial | refine ⟨rfl, ?_⟩)) (fun x hx => (List.mem_append.1 hx).elim (fun h => h) (hM2 x)) (.refl _))⟩⟩
    | s x y => exact Bool.noConfusion (show true = false from hn)
  refine DJY.nil (fun g hg => ?_)
  cases g with
  | n => exact Bool.noConfusion (show false = true from hg 4 (by simp))
  | a x => exact Bool.noConfusion (show false = true from hg 4 (by simp))
  | b y => exact Bool.noConfusion (show false = true from hg 4 (by simp))
  | ab x y => exact Bool.noConfusion (show false = true from hg 4 (by simp))
  | s b17 b18 =>
  refine WL.store [wv, pv, vi r.table.wrong, kv, vi r.others, vi r.last, tv, bv, sv] rfl (.head _) rfl rfl rfl (Nat.le_of_ble_eq_true rfl) (by simp [Value.cells]; exact ⟨IsArr.one hAi.W, IsArr.one hAi.P, rfl, IsArr.one hAi.K, rfl, rfl, IsArr.one hAi.T, IsArr.one hAi.B, IsArr.one hAi.S⟩) rfl ?_
  refine WL.nil ?_
  refine Kseq.go (W.seq ?_)
  refine W.region ?_; refine .val (.fieldAddrB rfl) rfl rfl rfl ?_
  refine WL.store [_, _, _, _, _, _, _, _, _] rfl (.tail _ (.head _)) rfl rfl rfl (Nat.le_of_ble_eq_true rfl) (by first | (simp [Value.cells, Value.oneCell']; done) | exact IsArr.ones hW (by omega) | exact IsArr.ones hP (by omega) | exact IsArr.ones hS (by omega) | exact IsArr.ones hH (by omega) | exact IsArr.ones hL (by omega) | exact IsArr.ones hB (by omega) | exact IsArr.ones hT (by omega) | exact IsArr.ones hm (by omega)) rfl ?_
  refine .val (.fieldAddrB rfl) rfl rfl rfl ?_
  refine WL.store [_, _, _, _, _, _, _, _, _] rfl (.head _) rfl rfl rfl (Nat.le_of_ble_eq_true rfl) (by first | (simp [Value.cells, Value.oneCell']; done) | exact IsArr.ones hW (by omega) | exact IsArr.ones hP (by omega) | exact IsArr.ones hS (by omega) | exact IsArr.ones hH (by omega) | exact IsArr.ones hL (by omega) | exact IsArr.ones hB (by omega) | exact IsArr.ones hT (by omega) | exact IsArr.ones hm (by omega)) rfl ?_
  refine WL.nil ?_
  refine Kseq.go (W.seq ?_)
  refine W.region ?_
  (refine WL.lit (vs := []) [] rfl (Nat.le_of_ble_eq_true rfl) rfl rfl (by simp) (Nat.le_of_ble_eq_true rfl) rfl rfl rfl rfl (fun b82 => ?_))
  refine .val (.fieldAddrB rfl) rfl rfl rfl ?_; refine .val (.loadP rfl h5i (by repeat constructor) rfl) rfl rfl rfl ?_
  (refine WL.append (e := 79) (k := 4) (bytes := 32) (xs := []) (ys := flatv (r.touches.map tv4)) (N := 0) (m2 := r.touches.length) rfl (fun v' => .head _) rfl hTci (by repeat constructor) rfl (by omega) (by unfold maxLen; omega) (by omega) rfl rfl rfl ?_; intro a85 c85)
  iterate 4 refine .o rfl ?_
  refine .val (.build2 rfl rfl) rfl rfl rfl ?_; refine .val (.build #[vi (F : Int), vi (S : Int), vi (k : Int), vi (k : Int)] rfl (by kernel_rfl)) rfl rfl rfl ?_; refine WL.abs (OpAbs.mono (OpAbs.lit [vi (F : Int), vi (S : Int), vi (k : Int), vi (k : Int)] rfl (Nat.le_of_ble_eq_true rfl) rfl rfl (by simp [Value.cells]) (Nat.le_of_ble_eq_true rfl) rfl (by simp [Value.oneCell'])) (fun m' v' h' => h'.1)) rfl rfl rfl ?_
  rintro m92 v92 h92
  (refine WL.append (e := 79) (k := 4) (bytes := 32) (xs := [] ++ flatv (r.touches.map tv4)) (ys := [vi (F : Int), vi (S : Int), vi (k : Int), vi (k : Int)]) (N := 0 + r.touches.length) (m2 := 1) rfl (fun v' => .head _) rfl h92 (by repeat constructor) rfl (by omega) (by unfold maxLen; omega) (by omega) rfl rfl rfl ?_; intro a93 c93)
  refine .val (.fieldAddrB rfl) rfl rfl rfl ?_
  (refine WL.store [_, _, _, _, _, _, _, _, _] rfl (.tail _ (.tail _ (.head _))) rfl rfl rfl (Nat.le_of_ble_eq_true rfl) (by simp [Value.cells, Value.oneCell']) rfl ?_)
  refine WL.nil ?_
  refine Kseq.go (W.seq ?_)
  refine W.region ?_
  (refine WL.lit (vs := []) [] rfl (Nat.le_of_ble_eq_true rfl) rfl rfl (by simp) (Nat.le_of_ble_eq_true rfl) rfl rfl rfl rfl (fun b95 => ?_))
  refine .val (.fieldAddrB rfl) rfl rfl rfl ?_; refine .val (.loadP rfl h5i (by repeat constructor) rfl) rfl rfl rfl ?_
  (refine WL.append (e := 81) (k := 2) (bytes := 16) (xs := []) (ys := flatv (r.boiled.map bv2)) (N := 0) (m2 := r.boiled.length) rfl (fun v' => .head _) rfl hBci (by repeat constructor) rfl (by omega) (by unfold maxLen; omega) (by omega) rfl rfl rfl ?_; intro a98 c98)
  iterate 2 refine .o rfl ?_
  refine .val (.build2 rfl rfl) rfl rfl rfl ?_; refine WL.abs (OpAbs.mono (OpAbs.lit [vi (F : Int), vi (k : Int)] rfl (Nat.le_of_ble_eq_true rfl) rfl rfl (by simp [Value.cells]) (Nat.le_of_ble_eq_true rfl) rfl (by simp [Value.oneCell'])) (fun m' v' h' => h'.1)) rfl rfl rfl ?_
  rintro m102 v102 h102
  (refine WL.append (e := 81) (k := 2) (bytes := 16) (xs := [] ++ flatv (r.boiled.map bv2)) (ys := [vi (F : Int), vi (k : Int)]) (N := 0 + r.boiled.length) (m2 := 1) rfl (fun v' => .head _) rfl h102 (by repeat constructor) rfl (by omega) (by unfold maxLen; omega) (by omega) rfl rfl rfl ?_; intro a103 c103)
  refine .val (.fieldAddrB rfl) rfl rfl rfl ?_
  (refine WL.store [_, _, _, _, _, _, _, _, _] rfl (.tail _ (.tail _ (.head _))) rfl rfl rfl (Nat.le_of_ble_eq_true rfl) (by simp [Value.cells, Value.oneCell']) rfl ?_)
  refine WL.nil ?_
  refine Kseq.go (W.seq ?_)
  let t : Touch := ⟨F, S, k, k⟩
  let b : Boil := ⟨F, k⟩
  refine W.freezeRow (.head _) (fun b hb => (hF b hb).elim) (by intro u hu; simp only [List.nil_append, List.mem_append] at hu; rcases hu with hu | hu; exact bcells_one _ u hu; (simp at hu; rcases hu with rfl | rfl <;> rfl)) fun mo hmo => ?_
  have hso : IsBoils mo (.slice a103 (0 + r.boiled.length + 1) c103) (r.boiled ++ [b]) := boils_cells (by rw [List.length_append]; simp) (hmo.congr fun i j _ _ => by rw [List.nil_append, flat_boil])
  clear hmo
  refine W.freezeRow (.head _) (fun b hb => (hF b hb).elim) (by intro u hu; simp only [List.nil_append, List.mem_append] at hu; rcases hu with hu | hu; exact tcells_one _ u hu; (simp at hu; rcases hu with rfl | rfl | rfl | rfl <;> rfl)) fun mo2 hmo => ?_
  have hto : IsTouches mo2 (.slice a93 (0 + r.touches.length + 1) c93) (r.touches ++ [t]) := touches_cells (by rw [List.length_append]; simp) (hmo.congr fun i j _ _ => by rw [List.nil_append, flat_touch])
  clear hmo
  refine W.freezeBox (.head _) (fun b hb => (hF b hb).elim) fun m18 h18 => ?_
  refine W.freezeBox (.head _) (fun b hb => (hF b hb).elim) fun m17 h17 => ?_
  refine W.join fun mj hj => ?_
  have hAj := hAi.le (hj mi (by simp))
  have hX : IsHouse mj (.agg #[wv, pv, vi r.table.wrong, kv, vi r.others, vi r.last, .slice a93 (0 + r.touches.length + 1) c93, bv, .slice none 0 0]) (moreTouch r t) := ⟨wv, pv, kv, _, bv, _, f, rfl, ⟨hAj.W, hAj.P, hAj.M, hAj.K, hto.le (hj mo2 (by simp)), hAj.B, IsSigns.nil _⟩⟩
  have hY : IsHouse mj (.agg #[wv, pv, vi r.table.wrong, kv, vi r.others, vi r.last, tv, .slice a103 (0 + r.boiled.length + 1) c103, .slice none 0 0]) (moreBoil r b) := ⟨wv, pv, kv, tv, _, _, f, rfl, ⟨hAj.W, hAj.P, hAj.M, hAj.K, hAj.T, hso.le (hj mo (by simp)), IsSigns.nil _⟩⟩
  have hvj := hvi.le (hj mi (by simp))
  have hcj := hci.le (hj mi (by simp))
  have hOj := IsInts.le hOi (hj mi (by simp))
  have hHj := IsInts.le hHi (hj mi (by simp))
  have h5j := h5i.le (hj mi (by simp))
  have h16j := h16i.le (hj mi (by simp))
  have h17j := h17.le (hj m17 (by simp))
  have h18j := h18.le (hj m18 (by simp))
  clear h17 h18 hso hto hAj hAi
  have htk : touchOk r t = true := touchOk_of (by omega) (by omega) (fun e => hS2 (by omega)) (by omega)
  have hbk : boilOk r b = true := boilOk_of (by omega) (by omega)
  have hVx := moreTouch_valid hV (t := t) (by omega) htk rfl
  have hVy := moreBoil_valid hV (b := b) (by omega) hbk
  have hcx : CourseT (moreTouch r t).table (moreTouch r t).touches ⟨c.owners, c.hours ++ [(k : Int)]⟩ := moreTouch_course hcT ⟨Int.le_refl _, Int.le_refl _⟩
  have hsx : SmH (moreTouch r t) := ⟨hs.table, hs.sick, by show (r.touches ++ [t]).length ≤ 20; simp; omega, hs.boiled, Nat.zero_le _⟩
  have hsy : SmH (moreBoil r b) := ⟨hs.table, hs.sick, hs.touches, by show (r.boiled ++ [b]).length ≤ 20; simp; omega, Nat.zero_le _⟩
  have p1 := play6E_zero hV hcT
  have p2 := play6E_zero hVx hcx
  have p3 := play6E_zero hVy (c := c) hcT
  have s1 := touch_sub hV (k := (k : Int)) (t := t) (by omega) htk rfl hcT
  have s2 := boil_sub hV (b := b) hcT
  have hol : c.owners.length = r.np := ask_lens hcT.owners
  have hol2 : c.owners.length = r.table.pieces.length := hol
  have hhl : c.hours.length = r.touches.length := hcT.len
  have htn := hV.touchN
  have hnp := hV.table.pieces
  have l1 := lastN_lt hV hol []
  have l3 : lastN (moreBoil r b) c [] < 2 ^ r.th := lastN_lt hVy hol []
  have hp10 : 2 ^ r.th ≤ 2 ^ 10 := Nat.pow_le_pow_right (by omega) h10.2.2
  have l2 : lastN (moreTouch r t) ⟨c.owners, c.hours ++ [(k : Int)]⟩ [] < 2 ^ r.th := lastN_lt hVx (c := ⟨c.owners, c.hours ++ [(k : Int)]⟩) hol []
  have hhl7 : (c.hours ++ [(k : Int)]).length = c.hours.length + 1 := by simp
  let l0 : List (Nat × Value) := [(5, .pointer (some ⟨b5, 0, none⟩)), (11, vi (r.th : Int)), (12, vi (k : Int)), (16, .pointer (some ⟨b16, 0, none⟩)), (17, .pointer (some ⟨b17, 0, none⟩)), (18, .pointer (some ⟨b18, 0, none⟩))]
  refine W.weaken l0 [mj] [] (by repeat (first | exact trivial | refine ⟨rfl, ?_⟩)) (by simp) (List.nil_sublist _) ?_; refine W.draw 9 (by kernel_rfl) (by kernel_rfl) (by kernel_rfl) rfl ?_; refine .val [] (.loadPW rfl h5j (by repeat constructor) rfl) rfl rfl rfl rfl ?_; refine DJ.abs (A := fun m x => IsHouse m x r) [] (OpAbs.call rfl (fun m hm => houseL_any (hvj.le (by repeat first | exact hm.1 | replace hm := hm.2)) hs)) rfl rfl rfl rfl ?_; refine .val [] (.loadPW rfl h16j (by repeat constructor) rfl) rfl rfl rfl rfl ?_; refine DJ.abs (A := fun m x => IsCourseV m x c) [] (OpAbs.call rfl (fun m hm => courseL_any (hcj.le (by repeat first | exact hm.1 | replace hm := hm.2)) (by omega) (by omega))) rfl rfl rfl rfl ?_
  refine DJ.abs (A := fun m x => ∃ lv, x = .tuple #[lv, vi 0] ∧ IsInts m lv (bits (lastN r c []))) [(109, fun m x => IsCourseV m x c), (107, fun m x => IsHouse m x r)] (fun m109 v109 h109 => fun m107 v107 h107 => OpAbs.mono (OpAbs.call rfl (fun m hm => play6_any (h107.le (by repeat first | exact hm.1 | replace hm := hm.2)) hs (h109.le (by repeat first | exact hm.1 | replace hm := hm.2)))) (fun m x hx => by obtain ⟨lv, e, hl⟩ := hx; exact ⟨lv, by rw [e, p1], by rwa [p1, if_pos rfl] at hl⟩)) rfl rfl rfl rfl ?_ (hG := ⟨(by repeat constructor), rfl, (by repeat constructor), rfl, trivial⟩)
  refine DJ.abs (A := fun m x => ∃ lv, x = .tuple #[lv, vi 0] ∧ IsInts m lv (bits (lastN r c []))) [(110, fun m x => ∃ lv, x = .tuple #[lv, vi 0] ∧ IsInts m lv (bits (lastN r c [])))] (fun m110 v110 h110 => OpAbs.ofVal (OpVal.opv rfl) (.head _) h110) rfl rfl rfl rfl ?_ (hG := ⟨(by repeat constructor), rfl, trivial⟩)
  refine DJ.abs (A := fun m x => IsInts m x (bits (lastN r c []))) [(105, fun m x => ∃ lv, x = .tuple #[lv, vi 0] ∧ IsInts m lv (bits (lastN r c [])))] (fun m105 v105 h105 => by obtain ⟨lv, rfl, hl⟩ := h105; exact OpAbs.ofVal (OpVal.opv rfl) (.head _) hl) rfl rfl rfl rfl ?_ (hG := ⟨(by repeat constructor), rfl, trivial⟩)
  refine DJ.val [(105, fun m x => ∃ lv, x = .tuple #[lv, vi 0] ∧ IsInts m lv (bits (lastN r c [])))] (fun m105 v105 h105 => (by obtain ⟨lv, rfl, hl⟩ := h105; exact OpVal.cast (.opv rfl) (show _ = vi 0 from rfl))) rfl rfl rfl rfl ?_ (hG := ⟨(by repeat constructor), rfl, trivial⟩)
  refine DJ.abs (A := fun m x => IsInts m x (bits (lastN r c []))) [(111, fun m x => IsInts m x (bits (lastN r c [])))] (fun m111 v111 h111 => OpAbs.ofVal (A := fun m x => IsInts m x (bits (lastN r c []))) (OpVal.opv rfl) (.head _) h111) rfl rfl rfl rfl ?_ (hG := ⟨(by repeat constructor), rfl, trivial⟩)
  refine DJ.nil ?_
  rintro m19 v19 h19
  rintro m111 v111 h111
  rintro m105 v105 h105
  rintro m110 v110 h110
  rintro m109 v109 h109
  rintro m107 v107 h107
  refine .o rfl ?_; refine WL.nil ?_
  refine Kseq.go (W.seq ?_)
  refine W.join fun mk hk2 => ?_
  have g1 := IsInts.le h19 (hk2 _ (by simp))
  have hXk := hX.le (hk2 mj (by simp))
  have hYk := hY.le (hk2 mj (by simp))
  have hck := hcj.le (hk2 mj (by simp))
  have hOk := IsInts.le hOj (hk2 mj (by simp))
  have hHk := IsInts.le hHj (hk2 mj (by simp))
  have h16k := h16j.le (hk2 mj (by simp))
  have h17k := h17j.le (hk2 mj (by simp))
  have h18k := h18j.le (hk2 mj (by simp))
  let l1' : List (Nat × Value) := [(11, vi (r.th : Int)), (12, vi (k : Int)), (16, .pointer (some ⟨b16, 0, none⟩)), (17, .pointer (some ⟨b17, 0, none⟩)), (18, .pointer (some ⟨b18, 0, none⟩)), (19, v19), (20, vi 0)]
  refine W.weaken l1' [mk] [] (by repeat (first | exact trivial | refine ⟨rfl, ?_⟩)) (by simp) (List.nil_sublist _) ?_
  let XN : List Int := bits (lastN (moreTouch r t) ⟨c.owners, c.hours ++ [(k : Int)]⟩ [])
  refine W.drawX (γ := Ph2 Value {z : (Option Addr × Nat) × Mem // IsInts z.2 (.slice z.1.1 (c.hours.length + 1) z.1.2) (c.hours ++ [(k : Int)])}) .a 17 [7, 10] (Ph2.sel l1' (fun q => (121, q) :: l1') (fun q z => (124, .slice z.1.1.1 (c.hours.length + 1) z.1.1.2) :: (121, q) :: l1')) (Ph2.sel [mk] (fun _ => [mk]) (fun _ z => [z.1.2, mk])) (Ph2.sel [] (fun q => [ir 3 q c.hours]) (fun q z => [])) Ph2.num (by kernel_rfl) (by kernel_rfl) (by kernel_rfl) rfl Ph2.le (Ph2.all rfl (fun _ => rfl) (fun _ _ => rfl)) rfl rfl rfl ?_; refine DJX.val [] (Ph2.all (fun hg => OpVal.loadPW rfl h17k (by repeat constructor) rfl) (fun x1 hg => OpVal.loadPW rfl h17k (by repeat constructor) rfl) (fun x1 x2 hg => OpVal.loadPW rfl h17k (by repeat constructor) rfl)) (Ph2.all (fun hg => rfl) (fun x1 hg => rfl) (fun x1 x2 hg => rfl)) rfl rfl (Ph2.all rfl (fun _ => rfl) (fun _ _ => rfl)) rfl ?_; refine DJX.abs (A := fun m x => IsHouse m x (moreTouch r t)) [] (Ph2.all (fun hg => (OpAbs.call rfl (fun m hm => houseL_any (hXk.le (by repeat first | exact hm.1 | replace hm := hm.2)) hsx))) (fun x1 hg => (OpAbs.call rfl (fun m hm => houseL_any (hXk.le (by repeat first | exact hm.1 | replace hm := hm.2)) hsx))) (fun x1 x2 hg => (OpAbs.call rfl (fun m hm => houseL_any (hXk.le (by repeat first | exact hm.1 | replace hm := hm.2)) hsx)))) (Ph2.all (fun hg => rfl) (fun x1 hg => rfl) (fun x1 x2 hg => rfl)) rfl rfl (Ph2.all rfl (fun _ => rfl) (fun _ _ => rfl)) rfl ?_
  refine DJX.val [] (Ph2.all (fun hg => OpVal.fieldAddrB rfl) (fun x1 hg => OpVal.fieldAddrB rfl) (fun x1 x2 hg => OpVal.fieldAddrB rfl)) (Ph2.all (fun hg => rfl) (fun x1 hg => rfl) (fun x1 x2 hg => rfl)) rfl rfl (Ph2.all rfl (fun _ => rfl) (fun _ _ => rfl)) rfl ?_; refine DJX.val [] (Ph2.all (fun hg => OpVal.loadP rfl h16k (by repeat constructor) rfl) (fun x1 hg => OpVal.loadP rfl h16k (by repeat constructor) rfl) (fun x1 x2 hg => OpVal.loadP rfl h16k (by repeat constructor) rfl)) (Ph2.all (fun hg => rfl) (fun x1 hg => rfl) (fun x1 x2 hg => rfl)) rfl rfl (Ph2.all rfl (fun _ => rfl) (fun _ _ => rfl)) rfl ?_; refine DJX.abs (A := fun m x => IsInts m x c.owners) [] (Ph2.all (fun hg => (OpAbs.call rfl (fun m hm => list6_any (hOk.le (by repeat first | exact hm.1 | replace hm := hm.2)) (by omega)))) (fun x1 hg => Bool.noConfusion (show false = true from hg)) (fun x1 x2 hg => Bool.noConfusion (show false = true from hg))) (Ph2.all (fun hg => rfl) (fun x1 hg => Bool.noConfusion (show false = true from hg)) (fun x1 x2 hg => Bool.noConfusion (show false = true from hg))) rfl rfl (Ph2.all rfl (fun _ => rfl) (fun _ _ => rfl)) rfl ?_
  refine DJX.val [] (Ph2.all (fun hg => OpVal.fieldAddrB rfl) (fun x1 hg => OpVal.fieldAddrB rfl) (fun x1 x2 hg => OpVal.fieldAddrB rfl)) (Ph2.all (fun hg => rfl) (fun x1 hg => rfl) (fun x1 x2 hg => rfl)) rfl rfl (Ph2.all rfl (fun _ => rfl) (fun _ _ => rfl)) rfl ?_; refine DJX.val [] (Ph2.all (fun hg => OpVal.loadP rfl h16k (by repeat constructor) rfl) (fun x1 hg => Bool.noConfusion (show false = true from hg)) (fun x1 x2 hg => Bool.noConfusion (show false = true from hg))) (Ph2.all (fun hg => rfl) (fun x1 hg => Bool.noConfusion (show false = true from hg)) (fun x1 x2 hg => Bool.noConfusion (show false = true from hg))) rfl rfl (Ph2.all rfl (fun _ => rfl) (fun _ _ => rfl)) rfl ?_; refine DJX.eff 0 [(120, _)] ⟨rfl, trivial⟩ rfl rfl [] trivial (Ph2.all (fun hg => ⟨rfl, fun M2 hM2 => ?_⟩) (fun x1 hg => absurd hg (by simp [Ph2.num])) (fun x1 x2 hg => absurd hg (by simp [Ph2.num]))) ?_
  · (refine WL.callM rfl rfl (M0 := [mk]) (fun x hx => hM2 x hx) (Split.none _) rfl (list6M_any hHk (by omega)) rfl rfl rfl ?_; rintro q M1 a1 ⟨rfl, rfl, hr⟩; exact WL.nil ⟨.b q, rfl, Keff.intro (by repeat (first | exact trivial | refine ⟨rfl, ?_⟩)) (fun x hx => (List.mem_append.1 hx).elim (fun h => h) (fun h => hM2 x h)) (.refl _)⟩)
  refine DJX.val [] (Ph2.all (fun hg => OpVal.opv rfl) (fun x1 hg => OpVal.opv rfl) (fun x1 x2 hg => OpVal.opv rfl)) (Ph2.all (fun hg => rfl) (fun x1 hg => rfl) (fun x1 x2 hg => rfl)) rfl rfl (Ph2.all rfl (fun _ => rfl) (fun _ _ => rfl)) rfl ?_; refine DJX.abs (A := fun m x => IsCells m 1 x 1 [vi (k : Int)]) [] (Ph2.all (fun hg => (OpAbs.litI rfl)) (fun x1 hg => (OpAbs.litI rfl)) (fun x1 x2 hg => Bool.noConfusion (show false = true from hg))) (Ph2.all (fun hg => rfl) (fun x1 hg => rfl) (fun x1 x2 hg => Bool.noConfusion (show false = true from hg))) rfl rfl (Ph2.all rfl (fun _ => rfl) (fun _ _ => rfl)) rfl ?_; refine DJX.eff 1 [] trivial rfl rfl [(123, fun m x => IsCells m 1 x 1 [vi (k : Int)])] ⟨(by repeat constructor), rfl, trivial⟩ (Ph2.all (fun hg => absurd hg (by simp [Ph2.num])) (fun x1 hg => ⟨rfl, fun M2 hM2 => ?_⟩) (fun x1 x2 hg => absurd hg (by simp [Ph2.num]))) ?_
  · intro m123 v123 h123
    (refine WL.appInt (k := (k : Int)) rfl (fun _ => .head _) rfl h123 (.head _) (by omega) rfl rfl rfl ?_; intro a124 c124; refine WL.freezeInts (.head _) (fun b hb => (hF b hb).elim) fun mo hmo => ?_; exact WL.nil ⟨.c x1 ⟨((a124, c124), mo), hmo⟩, rfl, Keff.intro (by repeat (first | exact trivial | refine ⟨rfl, ?_⟩)) (fun x hx => (List.mem_append.1 hx).elim (fun h => .tail _ (.tail _ h)) (fun h => by rcases List.mem_cons.1 h with rfl | h2; exact .head _; exact .tail _ (.tail _ (hM2 x h2)))) (.refl _)⟩)
  refine DJX.abs (A := fun m x => IsCourseV m x ⟨c.owners, c.hours ++ [(k : Int)]⟩) [(118, fun m x => IsInts m x c.owners)] (Ph2.all (fun hg => Bool.noConfusion (show false = true from hg)) (fun x1 hg => Bool.noConfusion (show false = true from hg)) (fun x1 x2 hg => fun m118 v118 h118 => (by obtain ⟨a118, c118, rfl⟩ := IsArr.form h118; exact OpAbs.mono (OpAbs.join (OpAbs.ofVal (A := fun m x => x = .agg #[.slice a118 c.owners.length c118, .slice x2.1.1.1 (c.hours.length + 1) x2.1.1.2] ∧ IsInts m (.slice a118 c.owners.length c118) c.owners) (OpVal.build2 rfl rfl) (m := m118) (by repeat constructor) ⟨rfl, h118⟩) (m := x2.1.2) (by repeat constructor)) (fun m x hx => by obtain ⟨m1, l1, l2, e, hh⟩ := hx; exact ⟨_, _, e, IsInts.le hh l1, IsInts.le x2.2 l2⟩)))) (Ph2.all (fun hg => Bool.noConfusion (show false = true from hg)) (fun x1 hg => Bool.noConfusion (show false = true from hg)) (fun x1 x2 hg => rfl)) rfl rfl (Ph2.all rfl (fun _ => rfl) (fun _ _ => rfl)) rfl ?_ (hG := ⟨(by repeat constructor), rfl, trivial⟩)
  refine DJX.abs (A := fun m x => ∃ lv, x = .tuple #[lv, vi 0] ∧ IsInts m lv XN) [(125, fun m x => IsCourseV m x ⟨c.owners, c.hours ++ [(k : Int)]⟩), (115, fun m x => IsHouse m x (moreTouch r t))] (Ph2.all (fun hg => Bool.noConfusion (show false = true from hg)) (fun x1 hg => Bool.noConfusion (show false = true from hg)) (fun x1 x2 hg => fun m125 v125 h125 => fun m115 v115 h115 => (OpAbs.mono (OpAbs.call rfl (fun m hm => play6_any (h115.le (by repeat first | exact hm.1 | replace hm := hm.2)) hsx (h125.le (by repeat first | exact hm.1 | replace hm := hm.2)))) (fun m x hx => by obtain ⟨lv, e, hl⟩ := hx; exact ⟨lv, by rw [e, p2], by rwa [p2, if_pos rfl] at hl⟩)))) (Ph2.all (fun hg => Bool.noConfusion (show false = true from hg)) (fun x1 hg => Bool.noConfusion (show false = true from hg)) (fun x1 x2 hg => rfl)) rfl rfl (Ph2.all rfl (fun _ => rfl) (fun _ _ => rfl)) rfl ?_ (hG := ⟨(by repeat constructor), rfl, (by repeat constructor), rfl, trivial⟩)
  refine DJX.abs (A := fun m x => ∃ lv, x = .tuple #[lv, vi 0] ∧ IsInts m lv XN) [(126, fun m x => ∃ lv, x = .tuple #[lv, vi 0] ∧ IsInts m lv XN)] (Ph2.all (fun hg => fun m126 v126 h126 => (OpAbs.ofVal (OpVal.opv rfl) (.head _) h126)) (fun x1 hg => fun m126 v126 h126 => (OpAbs.ofVal (OpVal.opv rfl) (.head _) h126)) (fun x1 x2 hg => fun m126 v126 h126 => (OpAbs.ofVal (OpVal.opv rfl) (.head _) h126))) (Ph2.all (fun hg => rfl) (fun x1 hg => rfl) (fun x1 x2 hg => rfl)) rfl rfl (Ph2.all rfl (fun _ => rfl) (fun _ _ => rfl)) rfl ?_ (hG := ⟨(by repeat constructor), rfl, trivial⟩)
  refine DJX.abs (A := fun m x => IsInts m x XN) [(113, fun m x => ∃ lv, x = .tuple #[lv, vi 0] ∧ IsInts m lv XN)] (Ph2.all (fun hg => fun m113 v113 h113 => (by obtain ⟨lv, rfl, hl⟩ := h113; exact OpAbs.ofVal (OpVal.opv rfl) (.head _) hl)) (fun x1 hg => fun m113 v113 h113 => (by obtain ⟨lv, rfl, hl⟩ := h113; exact OpAbs.ofVal (OpVal.opv rfl) (.head _) hl)) (fun x1 x2 hg => fun m113 v113 h113 => (by obtain ⟨lv, rfl, hl⟩ := h113; exact OpAbs.ofVal (OpVal.opv rfl) (.head _) hl))) (Ph2.all (fun hg => rfl) (fun x1 hg => rfl) (fun x1 x2 hg => rfl)) rfl rfl (Ph2.all rfl (fun _ => rfl) (fun _ _ => rfl)) rfl ?_ (hG := ⟨(by repeat constructor), rfl, trivial⟩)
  refine DJX.val [(113, fun m x => ∃ lv, x = .tuple #[lv, vi 0] ∧ IsInts m lv XN)] (Ph2.all (fun hg => fun m113 v113 h113 => (by obtain ⟨lv, rfl, hl⟩ := h113; exact OpVal.cast (.opv rfl) (show _ = vi 0 from rfl))) (fun x1 hg => fun m113 v113 h113 => (by obtain ⟨lv, rfl, hl⟩ := h113; exact OpVal.cast (.opv rfl) (show _ = vi 0 from rfl))) (fun x1 x2 hg => fun m113 v113 h113 => (by obtain ⟨lv, rfl, hl⟩ := h113; exact OpVal.cast (.opv rfl) (show _ = vi 0 from rfl)))) (Ph2.all (fun hg => rfl) (fun x1 hg => rfl) (fun x1 x2 hg => rfl)) rfl rfl (Ph2.all rfl (fun _ => rfl) (fun _ _ => rfl)) rfl ?_ (hG := ⟨(by repeat constructor), rfl, trivial⟩)
  refine DJX.abs (A := fun m x => IsInts m x XN) [(127, fun m x => IsInts m x XN)] (Ph2.all (fun hg => Bool.noConfusion (show false = true from hg)) (fun x1 hg => Bool.noConfusion (show false = true from hg)) (fun x1 x2 hg => fun m127 v127 h127 => (OpAbs.ofVal (A := fun m x => IsInts m x XN) (OpVal.opv rfl) (.head _) h127))) (Ph2.all (fun hg => Bool.noConfusion (show false = true from hg)) (fun x1 hg => Bool.noConfusion (show false = true from hg)) (fun x1 x2 hg => rfl)) rfl rfl (Ph2.all rfl (fun _ => rfl) (fun _ _ => rfl)) rfl ?_ (hG := ⟨(by repeat constructor), rfl, trivial⟩)
  refine DJX.nil (Ph2.all (fun hg => absurd hg (by simp [Ph2.num])) (fun x1 hg => absurd hg (by simp [Ph2.num])) (fun x1 x2 hg => ?_))
  rintro m21 v21 h21
  rintro m127 v127 h127
  rintro m113 v113 h113
  rintro m126 v126 h126
  rintro m125 v125 h125
  rintro m123 v123 h123
  rintro m118 v118 h118
  rintro m115 v115 h115
  refine .o rfl ?_; refine WL.nil ?_
  refine Kseq.go (W.seq ?_)
  refine W.join fun ml hl2 => ?_
  have g1l := IsInts.le g1 (hl2 mk (by simp))
  have g2 := IsInts.le h21 (hl2 _ (by simp))
  have hYl := hYk.le (hl2 mk (by simp))
  have hcl2 := hck.le (hl2 mk (by simp))
  have h16l := h16k.le (hl2 mk (by simp))
  have h18l := h18k.le (hl2 mk (by simp))
  refine W.weaken [(11, vi (r.th : Int)), (12, vi (k : Int)), (16, .pointer (some ⟨b16, 0, none⟩)), (18, .pointer (some ⟨b18, 0, none⟩)), (19, v19), (20, vi 0), (21, v21), (22, vi 0)] [ml] [] (by repeat (first | exact trivial | refine ⟨rfl, ?_⟩)) (by simp) (List.nil_sublist _) ?_; refine W.draw 9 (by kernel_rfl) (by kernel_rfl) (by kernel_rfl) rfl ?_; refine .val [] (.loadPW rfl h18l (by repeat constructor) rfl) rfl rfl rfl rfl ?_; refine DJ.abs (A := fun m x => IsHouse m x (moreBoil r b)) [] (OpAbs.call rfl (fun m hm => houseL_any (hYl.le (by repeat first | exact hm.1 | replace hm := hm.2)) hsy)) rfl rfl rfl rfl ?_; refine .val [] (.loadPW rfl h16l (by repeat constructor) rfl) rfl rfl rfl rfl ?_; refine DJ.abs (A := fun m x => IsCourseV m x c) [] (OpAbs.call rfl (fun m hm => courseL_any (hcl2.le (by repeat first | exact hm.1 | replace hm := hm.2)) (by omega) (by omega))) rfl rfl rfl rfl ?_
  refine DJ.abs (A := fun m x => ∃ lv, x = .tuple #[lv, vi 0] ∧ IsInts m lv (bits (lastN (moreBoil r b) c []))) [(133, fun m x => IsCourseV m x c), (131, fun m x => IsHouse m x (moreBoil r b))] (fun m133 v133 h133 => fun m131 v131 h131 => OpAbs.mono (OpAbs.call rfl (fun m hm => play6_any (h131.le (by repeat first | exact hm.1 | replace hm := hm.2)) hsy (h133.le (by repeat first | exact hm.1 | replace hm := hm.2)))) (fun m x hx => by obtain ⟨lv, e, hl⟩ := hx; exact ⟨lv, by rw [e, p3], by rwa [p3, if_pos rfl] at hl⟩)) rfl rfl rfl rfl ?_ (hG := ⟨(by repeat constructor), rfl, (by repeat constructor), rfl, trivial⟩)
  refine DJ.abs (A := fun m x => ∃ lv, x = .tuple #[lv, vi 0] ∧ IsInts m lv (bits (lastN (moreBoil r b) c []))) [(134, fun m x => ∃ lv, x = .tuple #[lv, vi 0] ∧ IsInts m lv (bits (lastN (moreBoil r b) c [])))] (fun m134 v134 h134 => OpAbs.ofVal (OpVal.opv rfl) (.head _) h134) rfl rfl rfl rfl ?_ (hG := ⟨(by repeat constructor), rfl, trivial⟩)
  refine DJ.abs (A := fun m x => IsInts m x (bits (lastN (moreBoil r b) c []))) [(129, fun m x => ∃ lv, x = .tuple #[lv, vi 0] ∧ IsInts m lv (bits (lastN (moreBoil r b) c [])))] (fun m129 v129 h129 => by obtain ⟨lv, rfl, hl⟩ := h129; exact OpAbs.ofVal (OpVal.opv rfl) (.head _) hl) rfl rfl rfl rfl ?_ (hG := ⟨(by repeat constructor), rfl, trivial⟩)
  refine DJ.val [(129, fun m x => ∃ lv, x = .tuple #[lv, vi 0] ∧ IsInts m lv (bits (lastN (moreBoil r b) c [])))] (fun m129 v129 h129 => (by obtain ⟨lv, rfl, hl⟩ := h129; exact OpVal.cast (.opv rfl) (show _ = vi 0 from rfl))) rfl rfl rfl rfl ?_ (hG := ⟨(by repeat constructor), rfl, trivial⟩)
  refine DJ.abs (A := fun m x => IsInts m x (bits (lastN (moreBoil r b) c []))) [(135, fun m x => IsInts m x (bits (lastN (moreBoil r b) c [])))] (fun m135 v135 h135 => OpAbs.ofVal (A := fun m x => IsInts m x (bits (lastN (moreBoil r b) c []))) (OpVal.opv rfl) (.head _) h135) rfl rfl rfl rfl ?_ (hG := ⟨(by repeat constructor), rfl, trivial⟩)
  refine DJ.nil ?_
  rintro m23 v23 h23
  rintro m135 v135 h135
  rintro m129 v129 h129
  rintro m134 v134 h134
  rintro m133 v133 h133
  rintro m131 v131 h131
  refine .o rfl ?_; refine WL.nil ?_
  refine Kseq.go (W.seq (W.seq ?_))
  have hb3l := bits_len6 (W := r.th) (by omega) l3
  refine W.join fun mn hn => ?_
  have q1 := IsInts.le g1l (hn ml (by simp))
  have q2 := IsInts.le g2 (hn ml (by simp))
  have q3 := IsInts.le h23 (hn _ (by simp))
  refine W.weaken [(11, vi (r.th : Int)), (19, v19), (20, vi 0), (21, v21), (22, vi 0), (23, v23), (24, vi 0)] [mn] [] (by repeat (first | exact trivial | refine ⟨rfl, ?_⟩)) (by simp) (List.nil_sublist _) ?_; refine W.region ?_; refine .o rfl ?_; refine .val (OpVal.neqF6 rfl rfl) rfl rfl rfl ?_
  iterate 2 refine .o rfl ?_
  refine .val (OpVal.neqF6 rfl rfl) rfl rfl rfl ?_
  iterate 3 refine .o rfl ?_
  refine .val (OpVal.neqF6 rfl rfl) rfl rfl rfl ?_
  iterate 3 refine .o rfl ?_
  refine .val (.len rfl q3) rfl rfl rfl ?_; refine .o rfl ?_; refine .val (.cast (.opv rfl) (congrArg Value.bool (decide_eq_false (by omega)))) rfl rfl rfl ?_; refine .o rfl ?_; refine WL.nil ?_; refine Kseq.go ?_; refine W.condF rfl rfl ?_
  refine W.skip (Kseq.go (W.seq (W.seq ?_)))
  refine W.region ?_; refine .o rfl ?_; refine WL.nil ?_
  refine Kseq.go (W.block ?_)
  refine W.loop (σ := Nat) (fun i => [(11, vi (r.th : Int)), (19, v19), (21, v21), (23, v23), (25, vi (i : Int))]) (fun _ => [mn]) (fun _ => []) (fun i => i ≤ r.th) (fun i => r.th - i) 0 ⟨rfl, rfl, rfl, rfl, rfl, trivial⟩ (by simp) (List.nil_sublist _) (Nat.zero_le _) ?_
  intro i hi3
  refine W.seq (W.seq ?_)
  refine W.region ?_
  iterate 3 refine .o rfl ?_
  refine WL.nil ?_; refine Kseq.go ?_
  refine W.condD rfl rfl (fun hlt => ?_) (fun hge => ?_)
  · have e1 := has_bits (i := i) l1 (by omega) (by omega)
    have e2 := has_bits (i := i) l2 (by omega) (by omega)
    have e3 := has_bits (i := i) l3 (by omega) (by omega)
    have i1 := s1 i
    have i2 := s2 i
    obtain ⟨y1, hy1⟩ : ∃ y, (lastN r c []).testBit i = y := ⟨_, rfl⟩
    obtain ⟨y2, hy2⟩ : ∃ y, (lastN (moreTouch r t) ⟨c.owners, c.hours ++ [(k : Int)]⟩ []).testBit i = y := ⟨_, rfl⟩
    obtain ⟨y3, hy3⟩ : ∃ y, (lastN (moreBoil r b) c []).testBit i = y := ⟨_, rfl⟩
    rw [hy1, hy2] at i1
    rw [hy3, hy1] at i2
    rw [hy1] at e1
    rw [hy2] at e2
    rw [hy3] at e3
    clear hy1 hy2 hy3 s1 s2 l1 l2 l3
    refine W.skip (Kseq.go (W.seq (W.block (W.seq ?_))))
    refine W.toS [(11, vi (r.th : Int)), (19, v19), (21, v21), (23, v23), (25, vi (i : Int)), (177, .bool false)] ?_ ?_
    · skip
      refine W.region ?_
      iterate 2 refine .o rfl ?_
      refine .val (.cast (.call rfl (fun m hm => has_any _ (q1.le (by repeat first | exact hm.1 | replace hm := hm.2)))) (congrArg Value.bool e1)) rfl rfl rfl ?_; refine .o rfl ?_
      refine WL.splitB rfl rfl (fun g161 => ?_) (fun g161 => ?_)
      · refine .o rfl ?_
        refine .o rfl ?_; refine .val (.cast (.call rfl (fun m hm => has_any _ (q2.le (by repeat first | exact hm.1 | replace hm := hm.2)))) (congrArg Value.bool e2)) rfl rfl rfl ?_
        iterate 3 refine .o rfl ?_
        refine WL.splitB rfl rfl (fun g167 => ?_) (fun g167 => ?_)
        · refine WL.pass rfl rfl rfl ?_
          refine WL.pass rfl rfl rfl ?_; refine WL.pass rfl rfl rfl ?_; refine WL.pass rfl rfl rfl ?_; refine WL.pass rfl rfl rfl ?_; refine WL.pass rfl rfl rfl ?_; refine WL.pass rfl rfl rfl ?_; refine WL.pass rfl rfl rfl ?_; refine WL.pass rfl rfl rfl ?_; refine .o rfl ?_; refine WL.nil ?_
          exact Keff.intro ⟨rfl, rfl, rfl, rfl, rfl, congrArg (fun b => some (Value.bool b)) (by clear e1 e2 e3; first | (simp_all; done) | (cases y1 <;> cases y2 <;> cases y3 <;> simp_all)), trivial⟩ (by simp) (by repeat first | exact .refl _ | refine .cons _ ?_)
        · refine .o rfl ?_
          refine .o rfl ?_; refine .val (.cast (.call rfl (fun m hm => has_any _ (q3.le (by repeat first | exact hm.1 | replace hm := hm.2)))) (congrArg Value.bool e3)) rfl rfl rfl ?_; refine .o rfl ?_
          refine WL.splitB rfl rfl (fun g171 => ?_) (fun g171 => ?_)
          · refine .o rfl ?_
            refine .o rfl ?_; refine .val (.cast (.call rfl (fun m hm => has_any _ (q1.le (by repeat first | exact hm.1 | replace hm := hm.2)))) (congrArg Value.bool e1)) rfl rfl rfl ?_
            iterate 3 refine .o rfl ?_
            refine WL.nil ?_
            exact Keff.intro ⟨rfl, rfl, rfl, rfl, rfl, congrArg (fun b => some (Value.bool b)) (by clear e1 e2 e3; first | (simp_all; done) | (cases y1 <;> cases y2 <;> cases y3 <;> simp_all)), trivial⟩ (by simp) (by repeat first | exact .refl _ | refine .cons _ ?_)
          · refine WL.pass rfl rfl rfl ?_
            refine WL.pass rfl rfl rfl ?_; refine WL.pass rfl rfl rfl ?_; refine WL.pass rfl rfl rfl ?_
            iterate 2 refine .o rfl ?_
            refine WL.nil ?_
            exact Keff.intro ⟨rfl, rfl, rfl, rfl, rfl, congrArg (fun b => some (Value.bool b)) (by clear e1 e2 e3; first | (simp_all; done) | (cases y1 <;> cases y2 <;> cases y3 <;> simp_all)), trivial⟩ (by simp) (by repeat first | exact .refl _ | refine .cons _ ?_)
      · refine WL.pass rfl rfl rfl ?_
        refine WL.pass rfl rfl rfl ?_; refine WL.pass rfl rfl rfl ?_; refine WL.pass rfl rfl rfl ?_
        iterate 4 refine .o rfl ?_
        refine .val (.cast (.call rfl (fun m hm => has_any _ (q3.le (by repeat first | exact hm.1 | replace hm := hm.2)))) (congrArg Value.bool e3)) rfl rfl rfl ?_; refine .o rfl ?_
        refine WL.splitB rfl rfl (fun g171 => ?_) (fun g171 => ?_)
        · refine .o rfl ?_
          refine .o rfl ?_; refine .val (.cast (.call rfl (fun m hm => has_any _ (q1.le (by repeat first | exact hm.1 | replace hm := hm.2)))) (congrArg Value.bool e1)) rfl rfl rfl ?_
          iterate 3 refine .o rfl ?_
          refine WL.nil ?_
          exact Keff.intro ⟨rfl, rfl, rfl, rfl, rfl, congrArg (fun b => some (Value.bool b)) (by clear e1 e2 e3; first | (simp_all; done) | (cases y1 <;> cases y2 <;> cases y3 <;> simp_all)), trivial⟩ (by simp) (by repeat first | exact .refl _ | refine .cons _ ?_)
        · refine WL.pass rfl rfl rfl ?_
          refine WL.pass rfl rfl rfl ?_; refine WL.pass rfl rfl rfl ?_; refine WL.pass rfl rfl rfl ?_
          iterate 2 refine .o rfl ?_
          refine WL.nil ?_
          exact Keff.intro ⟨rfl, rfl, rfl, rfl, rfl, congrArg (fun b => some (Value.bool b)) (by clear e1 e2 e3; first | (simp_all; done) | (cases y1 <;> cases y2 <;> cases y3 <;> simp_all)), trivial⟩ (by simp) (by repeat first | exact .refl _ | refine .cons _ ?_)
    refine Kseq.go ?_; refine W.condF rfl rfl ?_
    refine W.skip (Kblock.normal (Kseq.go ?_))
    refine W.region ?_; refine .o rfl ?_; refine .val (.incr rfl (by omega)) rfl rfl rfl ?_; refine .o rfl ?_; refine WL.nil ?_
    exact Kloop.next (i + 1) (by omega) (by omega) ⟨rfl, rfl, rfl, rfl, rfl, trivial⟩ (by simp) (by repeat first | exact .refl _ | refine .cons _ ?_)
  · refine W.exit (Kseq.exit (Kloop.exit (Kblock.here (Kseq.go (W.seq ?_)))))
    refine W.region ?_; refine .val (.call rfl (fun m hm => awake6_any)) rfl rfl rfl ?_; refine .o rfl ?_; refine WL.nil ?_; refine Kseq.go ?_
    refine W.ret ?_; refine ⟨.inl rfl, [_], mn, ⟨.tmp rfl, trivial⟩, (by repeat constructor), ?_⟩
    rfl
end Go.Proofs.YtdnbkjgbehakpaaGreat
