/- The statement SickMore: its contract. -/
import Derived.Test.YtdnbkjgbehakpaaGreatP36
import Derived.Test.YtdnbkjgbehakpaaGreatT136
namespace Go.Proofs.YtdnbkjgbehakpaaGreat
open Go Go.Eng Go.RowKit

theorem scells_at {bs : List Sign} {i j : Nat} (hi : i < bs.length) (hj : j < 2) : (flatv (bs.map sv2)).getD (i * 2 + j) undef = (match j with | 0 => vi (bs.getD i default).thing | _ => .bool (bs.getD i default).carries) := by
  have h := flat_at (vs := bs.map sv2) (k := 2) (by omega) (fun u hu => by obtain ⟨y, _, rfl⟩ := List.mem_map.1 hu; rfl) (i := i) (j := j) (by simpa using hi) hj
  have e : (bs.map sv2).getD i undef = sv2 (bs.getD i default) := by simp [List.getD_eq_getElem?_getD, List.getElem?_eq_getElem hi]
  rw [h, e]
  match j, hj with
  | 0, _ => rfl
  | 1, _ => rfl
theorem scells_len (bs : List Sign) : (flatv (bs.map sv2)).length = bs.length * 2 := by
  unfold flatv
  rw [List.flatMap_map]
  exact flat_len _ _ 2 fun _ _ => rfl
theorem IsSigns.toCells {m : Mem} {v : Value} {bs : List Sign} (h : IsSigns m v bs) : IsCells m 2 v bs.length (flatv (bs.map sv2)) :=
  ⟨scells_len bs, IsArr.congr h fun i j hi hj => by
    have e := scells_at hi hj
    match j, hj, e with
    | 0, _, e => exact e.symm
    | 1, _, e => exact e.symm⟩
theorem signs_cells {m : Mem} {v : Value} {bs : List Sign} {n : Nat} (hn : n = bs.length) (h : IsArr m 2 v n (fun i j => (flatv (bs.map sv2)).getD (i * 2 + j) undef)) : IsSigns m v bs := by
  subst hn
  refine h.congr fun i j hi hj => ?_
  have e := scells_at hi hj
  match j, hj, e with
  | 0, _, e => exact e
  | 1, _, e => exact e
theorem scells_one (bs : List Sign) : ∀ u ∈ flatv (bs.map sv2), u.oneCell' = true := by
  intro u hu
  unfold flatv at hu
  obtain ⟨x, hx, hu⟩ := List.mem_flatMap.1 hu
  obtain ⟨y, _, rfl⟩ := List.mem_map.1 hx
  simp [sv2, Value.cells] at hu
  rcases hu with rfl | rfl <;> rfl
theorem flat_snoc6 (bs : List Sign) (t : Sign) : flatv ((bs ++ [t]).map sv2) = flatv (bs.map sv2) ++ [vi t.thing, .bool t.carries] := by
  unfold flatv
  rw [List.map_append, List.flatMap_append]
  rfl
/-- SickMore -/
theorem sickMore_any {h : Mem} {v gv : Value} {r : House} {t : Sign} {n : Nat} (hv : IsHouse h v r) (hl : r.signs.length * 16 + 4096 ≤ 140737488355328) (hg : gv = sv2 t) (hn : n < 256) : FnV Tryz.prog 7 #[v, gv, .int .u8 n] h (.bool true) := by
  subst hg
  have hv' := hv
  obtain ⟨wv, pv, kv, tv, bv, sv, f, rfl, hA⟩ := hv
  have hSc := hA.S.toCells
  refine FnR.val ?_
  refine FnR.of_W (n := 80) Tryz.func7 rfl rfl (Nat.le_of_ble_eq_true rfl) fun c hr hD hF => ?_
  refine W.seq ?_; refine W.region ?_
  refine WL.box rfl rfl rfl rfl (fun b3 => ?_)
  refine WL.box rfl rfl rfl rfl (fun b4 => ?_)
  refine .o rfl rfl rfl rfl ?_; refine WL.nil ?_
  refine Kseq.go (W.seq ?_)
  refine W.freezeBox (.head _) (fun b hb => (hF b hb).elim) fun m4 h4 => ?_
  refine W.freezeBox (.head _) (fun b hb => (hF b hb).elim) fun m3 h3 => ?_
  refine W.region ?_; refine .val (.loadPW rfl (by assumption) (by repeat constructor) (by rfl)) rfl rfl rfl ?_
  refine WL.alloc rfl rfl rfl (fun b7 => ?_)
  (refine WL.store [wv, pv, vi r.table.wrong, kv, vi r.others, vi r.last, tv, bv, sv] rfl (.head _) rfl rfl rfl (Nat.le_of_ble_eq_true rfl) (by simp [Value.cells]; exact ⟨IsArr.one hA.W, IsArr.one hA.P, rfl, IsArr.one hA.K, rfl, rfl, IsArr.one hA.T, IsArr.one hA.B, IsArr.one hA.S⟩) rfl ?_)
  refine WL.nil ?_
  refine Kseq.go (W.seq ?_)
  let l0 : List (Nat × Value) := [(2, .int .u8 n), (3, .pointer (some ⟨b3, 0, none⟩)), (4, .pointer (some ⟨b4, 0, none⟩)), (7, .pointer (some ⟨b7, 0, none⟩))]
  let μ0 : List Res := [.blk b7 (hcs wv pv kv tv bv sv r) 31]
  refine W.weaken l0 [m3, m4, h] μ0 (by repeat (first | exact trivial | refine ⟨rfl, ?_⟩)) (by simp) (.refl _) ?_; refine W.drawN (γ := Ph2 Nat (Option Addr × Nat)) .a 6 [0, 3] (Ph2.sel l0 (fun b => (13, .slice (some ⟨b, 0, none⟩) 0 0) :: l0) (fun b g => (16, .slice g.1 (0 + r.signs.length) g.2) :: (13, .slice (some ⟨b, 0, none⟩) 0 0) :: l0)) (Ph2.sel μ0 (fun b => .row 88 2 (.slice (some ⟨b, 0, none⟩) 0 0) 0 [] :: μ0) (fun b g => .row 88 2 (.slice g.1 (0 + r.signs.length) g.2) (0 + r.signs.length) ([] ++ flatv (r.signs.map sv2)) :: μ0)) Ph2.num (by kernel_rfl) (by kernel_rfl) (by kernel_rfl) rfl Ph2.le (Ph2.all rfl (fun _ => rfl) (fun _ _ => rfl)) rfl rfl ?_; refine DJN.eff 0 [] trivial rfl rfl [] trivial (Ph2.all (fun hg => ⟨rfl, fun M2 hM2 => ?_⟩) (fun x1 hg => absurd hg (by simp [Ph2.num])) (fun x1 x2 hg => absurd hg (by simp [Ph2.num]))) ?_
  · (refine WL.lit (vs := []) [] rfl (Nat.le_of_ble_eq_true rfl) rfl rfl (by simp) (Nat.le_of_ble_eq_true rfl) rfl rfl rfl rfl (fun b13 => ?_); exact WL.nil ⟨.b b13, rfl, Keff.intro (by repeat (first | exact trivial | refine ⟨rfl, ?_⟩)) (fun x hx => hx) (.refl _)⟩)
  refine DJN.val [] (Ph2.all (fun hg => OpVal.fieldAddrB rfl) (fun x1 hg => OpVal.fieldAddrB rfl) (fun x1 x2 hg => OpVal.fieldAddrB rfl)) (Ph2.all (fun hg => rfl) (fun x1 hg => rfl) (fun x1 x2 hg => rfl)) rfl rfl (Ph2.all rfl (fun _ => rfl) (fun _ _ => rfl)) rfl ?_; refine DJN.val [] (Ph2.all (fun hg => OpVal.loadP rfl h3 (by repeat constructor) rfl) (fun x1 hg => OpVal.loadP rfl h3 (by repeat constructor) rfl) (fun x1 x2 hg => Bool.noConfusion (show false = true from hg))) (Ph2.all (fun hg => rfl) (fun x1 hg => rfl) (fun x1 x2 hg => Bool.noConfusion (show false = true from hg))) rfl rfl (Ph2.all rfl (fun _ => rfl) (fun _ _ => rfl)) rfl ?_; refine DJN.eff 1 [(15, _)] ⟨rfl, trivial⟩ rfl rfl [] trivial (Ph2.all (fun hg => absurd hg (by simp [Ph2.num])) (fun x1 hg => ⟨rfl, fun M2 hM2 => ?_⟩) (fun x1 x2 hg => absurd hg (by simp [Ph2.num]))) ?_
  · (refine WL.append (e := 88) (k := 2) (bytes := 16) (xs := []) (ys := flatv (r.signs.map sv2)) (N := 0) (m2 := r.signs.length) (μ' := fun v' => .row 88 2 v' (0 + r.signs.length) ([] ++ flatv (r.signs.map sv2)) :: μ0) rfl (fun v' => .head _) rfl hSc (hM2 h (by simp)) rfl (by omega) (by unfold maxLen; omega) (by omega) rfl rfl rfl ?_; intro a16 c16; exact WL.nil ⟨.c x1 (a16, c16), rfl, Keff.intro (by repeat (first | exact trivial | refine ⟨rfl, ?_⟩)) (fun x hx => hx) (.refl _)⟩)
  refine DJN.val [] (Ph2.all (fun hg => OpVal.cast (.loadPW rfl h4 (by repeat constructor) rfl) (show _ = Value.agg #[vi t.thing, .bool t.carries] from rfl)) (fun x1 hg => OpVal.cast (.loadPW rfl h4 (by repeat constructor) rfl) (show _ = Value.agg #[vi t.thing, .bool t.carries] from rfl)) (fun x1 x2 hg => OpVal.cast (.loadPW rfl h4 (by repeat constructor) rfl) (show _ = Value.agg #[vi t.thing, .bool t.carries] from rfl))) (Ph2.all (fun hg => rfl) (fun x1 hg => rfl) (fun x1 x2 hg => rfl)) rfl rfl (Ph2.all rfl (fun _ => rfl) (fun _ _ => rfl)) rfl ?_; refine DJN.abs (A := fun m x => IsCells m 2 x 1 [vi t.thing, .bool t.carries]) [] (Ph2.all (fun hg => (OpAbs.mono (OpAbs.lit [vi t.thing, .bool t.carries] rfl (Nat.le_of_ble_eq_true rfl) rfl rfl (by simp [Value.cells]) (Nat.le_of_ble_eq_true rfl) rfl (by simp [Value.oneCell'])) (fun m' v' h' => h'.1))) (fun x1 hg => (OpAbs.mono (OpAbs.lit [vi t.thing, .bool t.carries] rfl (Nat.le_of_ble_eq_true rfl) rfl rfl (by simp [Value.cells]) (Nat.le_of_ble_eq_true rfl) rfl (by simp [Value.oneCell'])) (fun m' v' h' => h'.1))) (fun x1 x2 hg => (OpAbs.mono (OpAbs.lit [vi t.thing, .bool t.carries] rfl (Nat.le_of_ble_eq_true rfl) rfl rfl (by simp [Value.cells]) (Nat.le_of_ble_eq_true rfl) rfl (by simp [Value.oneCell'])) (fun m' v' h' => h'.1)))) (Ph2.all (fun hg => rfl) (fun x1 hg => rfl) (fun x1 x2 hg => rfl)) rfl rfl (Ph2.all rfl (fun _ => rfl) (fun _ _ => rfl)) rfl ?_
  refine DJN.nil (Ph2.all (fun hg => absurd hg (by simp [Ph2.num])) (fun x1 hg => absurd hg (by simp [Ph2.num])) (fun x1 x2 hg => ?_))
  rintro m18 v18 h18
  (refine WL.append (e := 88) (k := 2) (bytes := 16) (xs := [] ++ flatv (r.signs.map sv2)) (ys := [vi t.thing, .bool t.carries]) (N := 0 + r.signs.length) (m2 := 1) (μ' := fun v' => .row 88 2 v' (0 + r.signs.length + 1) ([] ++ flatv (r.signs.map sv2) ++ [vi t.thing, .bool t.carries]) :: μ0) rfl (fun v' => .head _) rfl h18 (.head _) rfl (by omega) (by unfold maxLen; omega) (by omega) rfl rfl rfl ?_; intro a19 c19)
  refine .val (.fieldAddrB rfl) rfl rfl rfl ?_
  (refine WL.store [_, _, _, _, _, _, _, _, _] rfl (.tail _ (.head _)) rfl rfl rfl (Nat.le_of_ble_eq_true rfl) (by simp [Value.cells, Value.oneCell']) rfl ?_)
  refine WL.nil ?_
  refine Kseq.go (W.seq (W.seq ?_))
  refine W.freezeRow (.head _) (fun b hb => (hF b hb).elim) (by intro u hu; simp only [List.nil_append, List.mem_append] at hu; rcases hu with hu | hu; exact scells_one _ u hu; (simp at hu; rcases hu with rfl | rfl <;> rfl)) fun mo hmo => ?_
  have hso : IsSigns mo (.slice a19 (0 + r.signs.length + 1) c19) (r.signs ++ [t]) := signs_cells (by rw [List.length_append]; simp) (hmo.congr fun i j _ _ => by rw [List.nil_append, ← flat_snoc6])
  clear hmo
  refine W.freezeBox (.head _) (fun b hb => (hF b hb).elim) fun m7 h7 => ?_
  refine W.join fun mj hj => ?_
  have hAj := hA.le (hj h (by simp))
  have hx : IsHouse mj (.agg #[wv, pv, vi r.table.wrong, kv, vi r.others, vi r.last, tv, bv, .slice a19 (0 + r.signs.length + 1) c19]) (moreS r t) := ⟨wv, pv, kv, tv, bv, _, f, rfl, ⟨hAj.W, hAj.P, hAj.M, hAj.K, hAj.T, hAj.B, hso.le (hj mo (by simp))⟩⟩
  have hvj := hv'.le (hj h (by simp))
  have h3j := h3.le (hj m3 (by simp))
  have h7j := h7.le (hj m7 (by simp))
  clear h3 h7 hso h4
  refine W.weaken [(2, .int .u8 n), (3, .pointer (some ⟨b3, 0, none⟩)), (7, .pointer (some ⟨b7, 0, none⟩))] [mj] [] (by repeat (first | exact trivial | refine ⟨rfl, ?_⟩)) (by simp) (List.nil_sublist _) ?_
  cases hR : ready6 r with
  | false =>
    refine W.region ?_; refine .val (.loadPW rfl h3j (by repeat constructor) rfl) rfl rfl rfl ?_; refine .val (.cast (.call rfl (fun m hm => ready6_any (hvj.le (by repeat (first | exact hm.1 | replace hm := hm.2))))) (congrArg Value.bool hR)) rfl rfl rfl ?_
    iterate 2 refine .o rfl rfl rfl rfl ?_
    refine WL.pass rfl rfl rfl ?_; refine WL.pass rfl rfl rfl ?_; refine WL.pass rfl rfl rfl ?_; refine .o rfl rfl rfl rfl ?_; refine WL.nil ?_; refine Kseq.go ?_; refine W.condT rfl rfl ?_; refine W.seq ?_; refine W.region ?_; refine .val (.call rfl (fun m hm => awake6_any)) rfl rfl rfl ?_; refine .o rfl rfl rfl rfl ?_; refine WL.nil ?_; refine Kseq.go ?_
    refine W.ret ?_; refine Kseq.ret ?_; refine ⟨.inl rfl, [_], mj, ⟨.tmp rfl, trivial⟩, (by repeat constructor), ?_⟩
    rfl
  | true =>
  cases hR2 : ready6 (moreS r t) with
  | false =>
    refine W.region ?_; refine .val (.loadPW rfl h3j (by repeat constructor) rfl) rfl rfl rfl ?_; refine .val (.cast (.call rfl (fun m hm => ready6_any (hvj.le (by repeat (first | exact hm.1 | replace hm := hm.2))))) (congrArg Value.bool hR)) rfl rfl rfl ?_
    iterate 2 refine .o rfl rfl rfl rfl ?_
    refine .val (.loadPW rfl h7j (by repeat constructor) rfl) rfl rfl rfl ?_; refine .val (.cast (.call rfl (fun m hm => ready6_any (hx.le (by repeat (first | exact hm.1 | replace hm := hm.2))))) (congrArg Value.bool hR2)) rfl rfl rfl ?_
    iterate 2 refine .o rfl rfl rfl rfl ?_
    refine WL.nil ?_; refine Kseq.go ?_; refine W.condT rfl rfl ?_; refine W.seq ?_; refine W.region ?_; refine .val (.call rfl (fun m hm => awake6_any)) rfl rfl rfl ?_; refine .o rfl rfl rfl rfl ?_; refine WL.nil ?_; refine Kseq.go ?_
    refine W.ret ?_; refine Kseq.ret ?_; refine ⟨.inl rfl, [_], mj, ⟨.tmp rfl, trivial⟩, (by repeat constructor), ?_⟩
    rfl
  | true =>
  refine W.region ?_; refine .val (.loadPW rfl h3j (by repeat constructor) rfl) rfl rfl rfl ?_; refine .val (.cast (.call rfl (fun m hm => ready6_any (hvj.le (by repeat (first | exact hm.1 | replace hm := hm.2))))) (congrArg Value.bool hR)) rfl rfl rfl ?_
  iterate 2 refine .o rfl rfl rfl rfl ?_
  refine .val (.loadPW rfl h7j (by repeat constructor) rfl) rfl rfl rfl ?_; refine .val (.cast (.call rfl (fun m hm => ready6_any (hx.le (by repeat (first | exact hm.1 | replace hm := hm.2))))) (congrArg Value.bool hR2)) rfl rfl rfl ?_
  iterate 2 refine .o rfl rfl rfl rfl ?_
  refine WL.nil ?_; refine Kseq.go ?_; refine W.condF rfl rfl ?_
  obtain ⟨hV, hs, hf0, _⟩ := ready6_iff hR
  obtain ⟨hVx, hsx, hfx, _⟩ := ready6_iff hR2
  obtain ⟨c, hce, hcS⟩ := leave6_least hV
  obtain ⟨d, hde, hdS⟩ := leave6_least hVx
  have hds : (moreS r t).signs.length = r.signs.length + 1 := by show (r.signs ++ [t]).length = _; simp
  rw [hds] at hdS
  obtain ⟨hL1, hL2⟩ := more_leave hcS hdS
  have hla := hV.last
  obtain ⟨L, hL⟩ : ∃ L : Nat, r.last = (L : Int) := ⟨r.last.toNat, by omega⟩
  have hk : n % (L + 1) < L + 1 := Nat.mod_lt _ (by omega)
  refine W.skip (Kseq.go (W.seq ?_))
  refine W.region ?_; refine .val (.loadPW rfl h3j (by repeat constructor) rfl) rfl rfl rfl ?_; refine WL.abs (OpAbs.call rfl (fun m hm => houseL_any (hvj.le (by repeat (first | exact hm.1 | replace hm := hm.2))) hs)) rfl rfl rfl ?_
  rintro m32 v32 h32
  refine WL.abs (OpAbs.call rfl (fun m hm => leave6_any (h32.le (by repeat (first | exact hm.1 | replace hm := hm.2))) hs)) rfl rfl rfl ?_
  rintro m33 _ ⟨lv, rfl, _, hl2⟩
  have hlI := hl2 hf0 c hce
  iterate 5 refine .o rfl rfl rfl rfl ?_
  refine WL.nil ?_
  refine Kseq.go (W.seq ?_)
  rw [hf0]
  refine W.region ?_; refine .val (.loadPW rfl h7j (by repeat constructor) rfl) rfl rfl rfl ?_; refine WL.abs (OpAbs.call rfl (fun m hm => houseL_any (hx.le (by repeat (first | exact hm.1 | replace hm := hm.2))) hsx)) rfl rfl rfl ?_
  rintro m38 v38 h38
  refine WL.abs (OpAbs.call rfl (fun m hm => leave6_any (h38.le (by repeat (first | exact hm.1 | replace hm := hm.2))) hsx)) rfl rfl rfl ?_
  rintro m39 _ ⟨lv2, rfl, _, hl3⟩
  have hlJ := hl3 hfx d hde
  iterate 5 refine .o rfl rfl rfl rfl ?_
  refine WL.nil ?_
  refine Kseq.go (W.seq (W.seq ?_))
  rw [hfx]
  have hcl := hlI.bd
  have hdl := hlJ.bd
  have hcn : c.length ≤ r.signs.length := inc_zero_len hcS.inc
  have hs5 := hV.signN
  refine W.region ?_; refine .o rfl rfl rfl rfl ?_; refine .val (OpVal.neqF6 rfl rfl) rfl rfl rfl ?_
  iterate 2 refine .o rfl rfl rfl rfl ?_
  refine .val (OpVal.neqF6 rfl rfl) rfl rfl rfl ?_
  iterate 3 refine .o rfl rfl rfl rfl ?_
  refine .val (.len rfl hlJ) rfl rfl rfl ?_; refine .o rfl rfl rfl rfl ?_; refine .val (.len rfl hlI) rfl rfl rfl ?_; refine .val (.cast (.opv rfl) (congrArg Value.bool (decide_eq_false (by omega)))) rfl rfl rfl ?_
  iterate 3 refine .o rfl rfl rfl rfl ?_
  refine .val (.len rfl hlJ) rfl rfl rfl ?_; refine .o rfl rfl rfl rfl ?_; refine .val (.len rfl hlI) rfl rfl rfl ?_; refine .val (.add rfl rfl (by omega) (by omega)) rfl rfl rfl ?_; refine .val (.cast (.opv rfl) (congrArg Value.bool (decide_eq_false (by omega)))) rfl rfl rfl ?_; refine .o rfl rfl rfl rfl ?_; refine WL.nil ?_; refine Kseq.go ?_; refine W.condF rfl rfl ?_
  refine W.skip (Kseq.go (W.seq ?_))
  by_cases hd0 : d.length = 0
  · have hdn : d = [] := List.length_eq_zero_iff.1 hd0
    have hne : ask6 (moreS r t) ≠ [] := poss_ask.1 (by have := hdS.is; rwa [hdn] at this)
    refine W.draw 12 (by kernel_rfl) (by kernel_rfl) (by kernel_rfl) rfl ?_; refine .val [] (.opv rfl) rfl rfl rfl rfl ?_; refine .val [] (.len rfl hlJ) rfl rfl rfl rfl ?_; refine .val [] (.cast (.opv rfl) (congrArg Value.bool (decide_eq_false (by omega)))) rfl rfl rfl rfl ?_; refine .val [] (.opv rfl) rfl rfl rfl rfl ?_; refine .val [] (.loadPW rfl h7j (by repeat constructor) rfl) rfl rfl rfl rfl ?_; refine .val [] (.loadPW rfl h3j (by repeat constructor) rfl) rfl rfl rfl rfl ?_; refine .val [] (.opv rfl) rfl rfl rfl rfl ?_; refine .val [] (.conv rfl (i64_in (by omega) (by omega))) rfl rfl rfl rfl ?_; refine .val [] (.fieldAddrB rfl) rfl rfl rfl rfl ?_; refine .val [] (.cast (.loadP rfl h3j (by repeat constructor) rfl) (congrArg (Value.int .i64) hL)) rfl rfl rfl rfl ?_; refine .val [] (.cast (.add rfl rfl (by omega) (by omega)) (show _ = vi ((L + 1 : Nat) : Int) from rfl)) rfl rfl rfl rfl ?_
    refine .val [] (.cast (.rem rfl rfl (by omega) (by omega)) (show vi ((n : Int) % ((L + 1 : Nat) : Int)) = vi ((n % (L + 1) : Nat) : Int) from rfl)) rfl rfl rfl rfl ?_; refine DJ.nil ?_
    refine .val (.call rfl (fun m hm => closer6_any (hx.le (by repeat (first | exact hm.1 | replace hm := hm.2))) (hvj.le (by repeat (first | exact hm.1 | replace hm := hm.2))) hsx hs hVx hV (more_closer r t) hne (by show _ ≤ r.last; omega) (by omega))) rfl rfl rfl ?_
    iterate 2 refine .o rfl rfl rfl rfl ?_
    refine .val (.call rfl (fun m hm => awake6_any)) rfl rfl rfl ?_
    iterate 2 refine .o rfl rfl rfl rfl ?_
    refine WL.nil ?_; refine Kseq.go ?_
    refine W.ret ?_; refine ⟨.inl rfl, [_], mj, ⟨.tmp rfl, trivial⟩, (by repeat constructor), ?_⟩
    rfl
  · skip
    refine W.draw 12 (by kernel_rfl) (by kernel_rfl) (by kernel_rfl) rfl ?_; refine .val [] (.opv rfl) rfl rfl rfl rfl ?_; refine .val [] (.len rfl hlJ) rfl rfl rfl rfl ?_; refine .val [] (.cast (.opv rfl) (congrArg Value.bool (decide_eq_true (by omega)))) rfl rfl rfl rfl ?_; refine .val [] (.opv rfl) rfl rfl rfl rfl ?_; refine DJ.pass rfl rfl rfl rfl ?_; refine DJ.pass rfl rfl rfl rfl ?_; refine DJ.pass rfl rfl rfl rfl ?_; refine DJ.pass rfl rfl rfl rfl ?_; refine DJ.pass rfl rfl rfl rfl ?_; refine DJ.pass rfl rfl rfl rfl ?_; refine DJ.pass rfl rfl rfl rfl ?_; refine DJ.pass rfl rfl rfl rfl ?_; refine DJ.nil ?_; refine WL.pass rfl rfl rfl ?_
    iterate 2 refine .o rfl rfl rfl rfl ?_
    refine .val (.call rfl (fun m hm => awake6_any)) rfl rfl rfl ?_
    iterate 2 refine .o rfl rfl rfl rfl ?_
    refine WL.nil ?_; refine Kseq.go ?_
    refine W.ret ?_; refine ⟨.inl rfl, [_], mj, ⟨.tmp rfl, trivial⟩, (by repeat constructor), ?_⟩
    rfl
end Go.Proofs.YtdnbkjgbehakpaaGreat
