/- The statement TopBoiled: its contract. -/
import Derived.Test.YtdnbkjgbehakpaaGreatP43
import Derived.Test.YtdnbkjgbehakpaaGreatT147
namespace Go.Proofs.YtdnbkjgbehakpaaGreat
open Go Go.Eng Go.RowKit

/-- boiled -/
theorem boiledEx_any {h : Mem} : FnV Tryz.prog 21 #[] h (.bool true) := by
  refine FnR.val ?_
  refine FnR.of_W (n := 70) Tryz.func21 rfl rfl (Nat.le_of_ble_eq_true rfl) fun c hr hD hF => ?_
  refine W.seq ?_; refine W.region ?_; refine .o rfl ?_; refine WL.nil ?_
  refine Kseq.go (W.seq ?_)
  refine W.region ?_; refine .val (.build2 rfl rfl) rfl rfl rfl ?_; refine .val (.build3 rfl rfl) rfl rfl rfl ?_; refine .val (.build2 rfl rfl) rfl rfl rfl ?_; refine .val (.build3 rfl rfl) rfl rfl rfl ?_
  refine WL.abs (OpAbs.lit [_, _, _, _, _, _] rfl (Nat.le_of_ble_eq_true rfl) rfl rfl (by simp [Value.cells]) (Nat.le_of_ble_eq_true rfl) rfl (by first | (simp [Value.oneCell']; done) | exact List.all_eq_true.1 rfl)) rfl rfl rfl ?_
  rintro m11 _ ⟨hc11, a11, rfl⟩
  refine WL.abs (OpAbs.lit [_] rfl (Nat.le_of_ble_eq_true rfl) rfl rfl (by simp [Value.cells]) (Nat.le_of_ble_eq_true rfl) rfl (by first | (simp [Value.oneCell']; done) | exact List.all_eq_true.1 rfl)) rfl rfl rfl ?_
  rintro m12 _ ⟨hc12, a12, rfl⟩
  refine .val (.build2 rfl rfl) rfl rfl rfl ?_
  refine WL.abs (OpAbs.lit [_] rfl (Nat.le_of_ble_eq_true rfl) rfl rfl (by simp [Value.cells]) (Nat.le_of_ble_eq_true rfl) rfl (by first | (simp [Value.oneCell']; done) | exact List.all_eq_true.1 rfl)) rfl rfl rfl ?_
  rintro m14 _ ⟨hc14, a14, rfl⟩
  refine .val (.build2 rfl rfl) rfl rfl rfl ?_
  refine WL.abs (OpAbs.lit [_, _, _, _] rfl (Nat.le_of_ble_eq_true rfl) rfl rfl (by simp [Value.cells]) (Nat.le_of_ble_eq_true rfl) rfl (by first | (simp [Value.oneCell']; done) | exact List.all_eq_true.1 rfl)) rfl rfl rfl ?_
  rintro m16 _ ⟨hc16, a16, rfl⟩
  refine .val (.build3 rfl rfl) rfl rfl rfl ?_
  refine WL.alloc rfl rfl rfl (fun b1 => ?_)
  refine WL.store [_, _, _] rfl (.head _) rfl rfl rfl (Nat.le_of_ble_eq_true rfl) (by first | (simp [Value.cells, Value.oneCell']; done) | exact IsArr.ones hW (by omega) | exact IsArr.ones hP (by omega) | exact IsArr.ones hS (by omega) | exact IsArr.ones hH (by omega) | exact IsArr.ones hL (by omega) | exact IsArr.ones hB (by omega) | exact IsArr.ones hT (by omega) | exact IsArr.ones hm (by omega)) rfl ?_
  refine WL.nil ?_
  refine Kseq.go (W.seq ?_)
  refine W.region ?_; refine .val (.loadBW rfl (.head _) rfl) rfl rfl rfl ?_
  refine WL.abs (OpAbs.lit [_] rfl (Nat.le_of_ble_eq_true rfl) rfl rfl (by simp [Value.cells]) (Nat.le_of_ble_eq_true rfl) rfl (by first | (simp [Value.oneCell']; done) | exact List.all_eq_true.1 rfl)) rfl rfl rfl ?_
  rintro m19 _ ⟨hc19, a19, rfl⟩
  refine .val (.build #[vi 0, vi 1, vi 0, vi 0] rfl (by kernel_rfl)) rfl rfl rfl ?_
  refine WL.abs (OpAbs.lit [_, _, _, _] rfl (Nat.le_of_ble_eq_true rfl) rfl rfl (by simp [Value.cells]) (Nat.le_of_ble_eq_true rfl) rfl (by first | (simp [Value.oneCell']; done) | exact List.all_eq_true.1 rfl)) rfl rfl rfl ?_
  rintro m21 _ ⟨hc21, a21, rfl⟩
  refine .val (.build #[.slice (some ⟨a11, 0, none⟩) 2 2, .slice (some ⟨a16, 0, none⟩) 2 2, vi 0, .slice (some ⟨a19, 0, none⟩) 1 1, vi 0, vi 0, .slice (some ⟨a21, 0, none⟩) 1 1, .slice none 0 0, .slice none 0 0] rfl (by kernel_rfl)) rfl rfl rfl ?_
  refine WL.alloc rfl rfl rfl (fun b2 => ?_)
  (refine WL.store [_, _, _, _, _, _, _, _, _] rfl (.head _) rfl rfl rfl (Nat.le_of_ble_eq_true rfl) (by simp [Value.cells, Value.oneCell']) rfl ?_)
  refine WL.nil ?_
  refine Kseq.go (W.seq ?_)
  refine W.freezeBox (.head _) (fun b hb => (hF b hb).elim) fun mx hx2 => ?_
  refine W.freezeBox (.head _) (fun b hb => (hF b hb).elim) fun my hx1 => ?_
  refine W.join fun mj hj => ?_
  have h1j := hx1.le (hj my (by simp))
  have h2j := hx2.le (hj mx (by simp))
  let f : Nat → Value := fun i => [.slice (some ⟨a12, 0, none⟩) 1 1, .slice (some ⟨a14, 0, none⟩) 1 1].getD i undef
  have hW : IsWomen mj (.slice (some ⟨a11, 0, none⟩) 2 2) bTab.women := by
    refine ((hc11.2).congr fun i j hi hj => ?_).le (hj _ (by simp))
    have h0 : i < 2 := hi
    have h1 : i = 0 ∨ i = 1 := by omega
    have h2 : j = 0 ∨ j = 1 ∨ j = 2 := by omega
    rcases h1 with rfl | rfl <;> rcases h2 with rfl | rfl | rfl <;> rfl
  have hP : IsPieces mj (.slice (some ⟨a16, 0, none⟩) 2 2) f bTab.pieces := by
    refine ((hc16.2).congr fun i j hi hj => ?_).le (hj _ (by simp))
    have h0 : i < 2 := hi
    have h1 : i = 0 ∨ i = 1 := by omega
    have h2 : j = 0 ∨ j = 1 := by omega
    rcases h1 with rfl | rfl <;> rcases h2 with rfl | rfl <;> rfl
  have hM : IsMarks mj f bTab.pieces := by
    intro i hi
    have h0 : i < 2 := hi
    have h1 : i = 0 ∨ i = 1 := by omega
    rcases h1 with rfl | rfl
    · exact (ints_lit (xs := [1]) hc12).le (hj _ (by simp))
    · exact (ints_lit (xs := [2]) hc14).le (hj _ (by simp))
  have hK : IsInts mj (.slice (some ⟨a19, 0, none⟩) 1 1) bHouse.sick := (ints_lit (xs := [0]) hc19).le (hj _ (by simp))
  have hT : IsTouches mj (.slice (some ⟨a21, 0, none⟩) 1 1) bHouse.touches := by
    refine IsTouches.le (m := m21) ?_ (hj _ (by simp))
    refine (hc21.2).congr fun i j hi hj => ?_
    have h0 : i < 1 := hi
    have h1 : i = 0 := by omega
    have h2 : j = 0 ∨ j = 1 ∨ j = 2 ∨ j = 3 := by omega
    rcases h1 with rfl <;> rcases h2 with rfl | rfl | rfl | rfl <;> rfl
  have hTab : IsTable mj (.agg #[.slice (some ⟨a11, 0, none⟩) 2 2, .slice (some ⟨a16, 0, none⟩) 2 2, vi 0]) bTab := ⟨_, _, f, rfl, hW, hP, hM⟩
  have hX : IsHouse mj (.agg #[.slice (some ⟨a11, 0, none⟩) 2 2, .slice (some ⟨a16, 0, none⟩) 2 2, vi 0, .slice (some ⟨a19, 0, none⟩) 1 1, vi 0, vi 0, .slice (some ⟨a21, 0, none⟩) 1 1, .slice none 0 0, .slice none 0 0]) bHouse := ⟨_, _, _, _, _, _, f, rfl, ⟨hW, hP, hM, hK, hT, IsBoils.nil _, IsSigns.nil _⟩⟩
  clear hW hP hM hK hT hx1 hx2
  refine W.weaken [(1, .pointer (some ⟨b1, 0, none⟩)), (2, .pointer (some ⟨b2, 0, none⟩))] [mj] [] (by repeat (first | exact trivial | refine ⟨rfl, ?_⟩)) (by simp) (List.nil_sublist _) ?_; refine W.region ?_; refine .val (.loadPW rfl h1j (by repeat constructor) rfl) rfl rfl rfl ?_; refine WL.abs (OpAbs.call rfl (fun m hm => whoseT_any (hTab.le (by repeat first | exact hm.1 | replace hm := hm.2)) bTab_sm)) rfl rfl rfl ?_
  rintro m25 _ ⟨lw, rfl, hlw⟩
  rw [b_who.1, if_pos rfl, b_who.2] at hlw
  rw [b_who.1]
  iterate 5 refine .o rfl ?_
  refine WL.nil ?_
  refine Kseq.go (W.seq ?_)
  refine W.region ?_; refine .val (.loadPW rfl h2j (by repeat constructor) rfl) rfl rfl rfl ?_; refine WL.abs (OpAbs.call rfl (fun m hm => boil6_any 0 (hX.le (by repeat first | exact hm.1 | replace hm := hm.2)) bHouse_sm)) rfl rfl rfl ?_
  rintro m30 _ ⟨lb, rfl, _, hb⟩
  have hB := hb b_boil.1 _ b_boil.2
  rw [b_boil.1]
  iterate 5 refine .o rfl ?_
  refine WL.nil ?_
  refine Kseq.go (W.seq ?_)
  obtain ⟨vs, hvs, hvA⟩ := hlw
  have h0 := hvs.2 0 (by simp)
  have hvl : vs.length = 2 := hvs.1
  refine W.region ?_; refine .o rfl ?_; refine .val (OpVal.eqT6 rfl rfl) rfl rfl rfl ?_
  iterate 2 refine .o rfl ?_
  refine .val (.cast (.len rfl hvA) (show _ = vi 2 from rfl)) rfl rfl rfl ?_; refine .val (OpVal.eqT6 rfl rfl) rfl rfl rfl ?_
  iterate 3 refine .o rfl ?_
  refine .val (.indexAddrN rfl rfl hvA (by simp)) rfl rfl rfl ?_; refine .val (.cast (.loadE rfl hvA (by repeat constructor) (by simp) (by omega)) (show _ = vs.getD 0 undef from rfl)) rfl rfl rfl ?_; refine .val (.cast (.len rfl h0) (show _ = vi 1 from rfl)) rfl rfl rfl ?_; refine .val (OpVal.eqT6 rfl rfl) rfl rfl rfl ?_
  iterate 3 refine .o rfl ?_
  refine .val (.indexAddrN rfl rfl hvA (by simp)) rfl rfl rfl ?_; refine .val (.cast (.loadE rfl hvA (by repeat constructor) (by simp) (by omega)) (show _ = vs.getD 0 undef from rfl)) rfl rfl rfl ?_; refine .val (.indexAddrN rfl rfl h0 (by simp)) rfl rfl rfl ?_; refine .val (.cast (.loadE rfl h0 (by repeat constructor) (by simp) (by omega)) (show _ = vi 0 from rfl)) rfl rfl rfl ?_; refine .val (OpVal.eqT6 rfl rfl) rfl rfl rfl ?_
  iterate 3 refine .o rfl ?_
  refine .val (OpVal.eqT6 rfl rfl) rfl rfl rfl ?_
  iterate 3 refine .o rfl ?_
  refine .val (.cast (.len rfl hB) (show _ = vi 1 from rfl)) rfl rfl rfl ?_; refine .val (OpVal.eqT6 rfl rfl) rfl rfl rfl ?_
  iterate 3 refine .o rfl ?_
  refine .val (.indexAddrN rfl rfl hB (by simp)) rfl rfl rfl ?_; refine .val (.cast (.loadE rfl hB (by repeat constructor) (by simp) (by omega)) (show _ = vi 0 from rfl)) rfl rfl rfl ?_; refine .val (OpVal.eqT6 rfl rfl) rfl rfl rfl ?_
  iterate 2 refine .o rfl ?_
  refine WL.nil ?_; refine Kseq.go ?_
  refine W.ret ?_; refine ⟨.inl rfl, [_], mj, ⟨.tmp rfl, trivial⟩, (by repeat constructor), ?_⟩
  rfl
theorem pcs_oneT {fs : List Value} {ps : List Piece} (h : ∀ u ∈ fs, u.oneCell' = true) : ∀ u ∈ pcs fs ps, ∀ x ∈ u.cells.toList, x.oneCell' = true := by
  intro u hu
  obtain ⟨j, hj, rfl⟩ := List.mem_iff_getElem.1 hu
  simp [pcs, pv2, Value.cells, Value.oneCell']
  exact h _ (List.getElem_mem _)
/-- TopBoiled -/
theorem topBoiled_any {h : Mem} {v : Value} {r : House} {n n2 : Nat} (hv : IsHouse h v r) (hn : n < 256) (hn2 : n2 < 256) : FnV Tryz.prog 3 #[v, .int .u8 n, .int .u8 n2] h (.bool true) := by
  have hv' := hv
  obtain ⟨wv, pv, kv, tv, bv, sv, f, rfl, hA⟩ := hv
  refine FnR.val ?_
  refine FnR.of_W (n := 207) Tryz.func3 rfl rfl (Nat.le_of_ble_eq_true rfl) fun c hr hD hF => ?_
  refine W.seq ?_; refine W.region ?_
  refine WL.box rfl rfl rfl rfl (fun b3 => ?_)
  refine .o rfl ?_; refine WL.nil ?_
  refine Kseq.go (W.seq (W.seq ?_))
  refine W.freezeBox (.head _) (fun b hb => (hF b hb).elim) fun m3 h3 => ?_
  cases hT : thin6 r with
  | false =>
    refine W.region ?_; refine .val (.loadPW rfl h3 (by repeat constructor) rfl) rfl rfl rfl ?_; refine .val (.cast (.call rfl (fun m hm => thin6_any (hv'.le (by repeat first | exact hm.1 | replace hm := hm.2)))) (congrArg Value.bool hT)) rfl rfl rfl ?_
    iterate 2 refine .o rfl ?_
    refine WL.pass rfl rfl rfl ?_; refine WL.pass rfl rfl rfl ?_; refine WL.pass rfl rfl rfl ?_; refine .o rfl ?_; refine WL.nil ?_; refine Kseq.go ?_; refine W.condT rfl rfl ?_; refine W.seq ?_; refine W.region ?_; refine .val (.call rfl (fun m hm => boiledEx_any)) rfl rfl rfl ?_; refine .o rfl ?_; refine WL.nil ?_; refine Kseq.go ?_
    refine W.ret ?_; refine Kseq.ret ?_; refine ⟨.inl rfl, [_], h, ⟨.tmp rfl, trivial⟩, (by repeat constructor), ?_⟩
    rfl
  | true =>
  have hs := thin6_sm hT
  by_cases hf0 : fault6 r = 0
  · have hV := fault6_zero.1 hf0
    refine W.region ?_; refine .val (.loadPW rfl h3 (by repeat constructor) rfl) rfl rfl rfl ?_; refine .val (.cast (.call rfl (fun m hm => thin6_any (hv'.le (by repeat first | exact hm.1 | replace hm := hm.2)))) (congrArg Value.bool hT)) rfl rfl rfl ?_
    iterate 2 refine .o rfl ?_
    refine .val (.loadPW rfl h3 (by repeat constructor) rfl) rfl rfl rfl ?_; refine .val (.call rfl (fun m hm => fault6R_any (hv'.le (by repeat first | exact hm.1 | replace hm := hm.2)) hs)) rfl rfl rfl ?_; refine .val (.cast (.opv rfl) (show _ = Value.bool false from congrArg (fun b => Value.bool (!b)) (decide_eq_true hf0))) rfl rfl rfl ?_; refine .o rfl ?_; refine WL.nil ?_; refine Kseq.go ?_; refine W.condF rfl rfl ?_
    refine W.skip (Kseq.go (W.seq ?_))
    refine W.region ?_; refine .val (.loadPW rfl h3 (by repeat constructor) rfl) rfl rfl rfl ?_
    refine WL.alloc rfl rfl rfl (fun b7 => ?_)
    (refine WL.store [wv, pv, vi r.table.wrong, kv, vi r.others, vi r.last, tv, bv, sv] rfl (.head _) rfl rfl rfl (Nat.le_of_ble_eq_true rfl) (by simp [Value.cells]; exact ⟨IsArr.one hA.W, IsArr.one hA.P, rfl, IsArr.one hA.K, rfl, rfl, IsArr.one hA.T, IsArr.one hA.B, IsArr.one hA.S⟩) rfl ?_)
    refine WL.nil ?_
    refine Kseq.go (W.seq ?_)
    refine W.region ?_; refine .val (.fieldAddrB rfl) rfl rfl rfl ?_
    refine WL.store [_, _, _, _, _, _, _, _, _] rfl (.head _) rfl rfl rfl (Nat.le_of_ble_eq_true rfl) (by first | (simp [Value.cells, Value.oneCell']; done) | exact IsArr.ones hW (by omega) | exact IsArr.ones hP (by omega) | exact IsArr.ones hS (by omega) | exact IsArr.ones hH (by omega) | exact IsArr.ones hL (by omega) | exact IsArr.ones hB (by omega) | exact IsArr.ones hT (by omega) | exact IsArr.ones hm (by omega)) rfl ?_
    refine WL.nil ?_
    refine Kseq.go (W.seq ?_)
    refine W.freezeBox (.head _) (fun b hb => (hF b hb).elim) fun m7 h7 => ?_
    refine W.join fun mj hj => ?_
    have hAj := hA.le (hj h (by simp))
    have hX : IsHouse mj (.agg #[wv, pv, vi r.table.wrong, kv, vi r.others, vi r.last, tv, bv, .slice none 0 0]) (withSigns r []) := ⟨wv, pv, kv, tv, bv, _, f, rfl, ⟨hAj.W, hAj.P, hAj.M, hAj.K, hAj.T, hAj.B, IsSigns.nil _⟩⟩
    have hvj := hv'.le (hj h (by simp))
    have h3j := h3.le (hj m3 (by simp))
    have h7j := h7.le (hj m7 (by simp))
    clear h3 h7
    have hVx : ValidH (withSigns r []) := withSigns_valid hV (by simp) (fun i hi => absurd hi (Nat.not_lt_zero _))
    have hsx : SmH (withSigns r []) := ⟨hs.table, hs.sick, hs.touches, hs.boiled, Nat.zero_le _⟩
    have hnx := nosign_ask hV
    have hEx : ask6E (withSigns r []) true = 0 := ask6E_ok hVx hnx
    have hE0 : askE r.table = 0 := askE_zero.2 ⟨hV.table, hV.some⟩
    have hla := hV.last
    obtain ⟨L, hL⟩ : ∃ L : Nat, r.last = (L : Int) := ⟨r.last.toNat, by omega⟩
    have hk : n % (L + 1) < L + 1 := Nat.mod_lt _ (by omega)
    have hih : isHour (withSigns r []) ((n % (L + 1) : Nat) : Int) = true := isHour_iff.2 ⟨Int.natCast_nonneg _, by show _ ≤ r.last; omega⟩
    have hEh : ask6E (withSigns r []) (isHour (withSigns r []) ((n % (L + 1) : Nat) : Int)) = 0 := by rw [hih]; exact hEx
    obtain ⟨c, hce, _⟩ := boil6_least hVx (hour := n % (L + 1)) (by show _ ≤ r.last; omega)
    have hTab := hAj.table
    refine W.weaken [(1, .int .u8 (n : Int)), (2, .int .u8 (n2 : Int)), (3, .pointer (some ⟨b3, 0, none⟩)), (7, .pointer (some ⟨b7, 0, none⟩))] [mj] [] (by repeat (first | exact trivial | refine ⟨rfl, ?_⟩)) (by simp) (List.nil_sublist _) ?_; refine W.region ?_; refine .o rfl ?_; refine .val (.conv rfl (i64_in (by omega) (by omega))) rfl rfl rfl ?_; refine .val (.fieldAddrB rfl) rfl rfl rfl ?_; refine .val (.cast (.loadP rfl h3j (by repeat constructor) rfl) (congrArg (Value.int .i64) hL)) rfl rfl rfl ?_; refine .val (.cast (.add rfl rfl (by omega) (by omega)) (show _ = vi ((L + 1 : Nat) : Int) from rfl)) rfl rfl rfl ?_; refine .val (.cast (.rem rfl rfl (by omega) (by omega)) (show _ = vi ((n % (L + 1) : Nat) : Int) from rfl)) rfl rfl rfl ?_; refine .o rfl ?_; refine WL.nil ?_
    refine Kseq.go (W.seq ?_)
    generalize n % (L + 1) = hr at *
    refine W.region ?_; refine .val (.loadPW rfl h7j (by repeat constructor) rfl) rfl rfl rfl ?_; refine WL.abs (OpAbs.call rfl (fun m hm => houseL_any (hX.le (by repeat first | exact hm.1 | replace hm := hm.2)) hsx)) rfl rfl rfl ?_
    rintro m44 v44 h44
    refine WL.abs (OpAbs.call rfl (fun m hm => whose6_any (h44.le (by repeat first | exact hm.1 | replace hm := hm.2)) hsx)) rfl rfl rfl ?_
    rintro m45 _ ⟨lv1, rfl, hl1⟩
    rw [hEx, if_pos rfl] at hl1
    rw [hEx]
    iterate 5 refine .o rfl ?_
    refine WL.nil ?_
    refine Kseq.go (W.seq ?_)
    refine W.region ?_; refine .val (.loadPW rfl h7j (by repeat constructor) rfl) rfl rfl rfl ?_; refine WL.abs (OpAbs.call rfl (fun m hm => houseL_any (hX.le (by repeat first | exact hm.1 | replace hm := hm.2)) hsx)) rfl rfl rfl ?_
    rintro m50 v50 h50
    refine WL.abs (OpAbs.call rfl (fun m hm => carry6_any (h50.le (by repeat first | exact hm.1 | replace hm := hm.2)) hsx)) rfl rfl rfl ?_
    rintro m51 _ ⟨lv2, rfl, hl2⟩
    rw [hEx, if_pos rfl] at hl2
    rw [hEx]
    iterate 5 refine .o rfl ?_
    refine WL.nil ?_
    refine Kseq.go (W.seq ?_)
    refine W.region ?_; refine .val (.loadPW rfl h7j (by repeat constructor) rfl) rfl rfl rfl ?_; refine WL.abs (OpAbs.call rfl (fun m hm => houseL_any (hX.le (by repeat first | exact hm.1 | replace hm := hm.2)) hsx)) rfl rfl rfl ?_
    rintro m56 v56 h56
    refine .o rfl ?_; refine WL.abs (OpAbs.call rfl (fun m hm => boil6_any _ (h56.le (by repeat first | exact hm.1 | replace hm := hm.2)) hsx)) rfl rfl rfl ?_
    rintro m58 _ ⟨lv3, rfl, _, hbl⟩
    have hl3 := hbl hEh c hce
    rw [hEh]
    iterate 5 refine .o rfl ?_
    refine WL.nil ?_
    refine Kseq.go (W.seq ?_)
    refine W.region ?_; refine .val (.fieldAddrB rfl) rfl rfl rfl ?_; refine .val (.loadPA (vs := [wv, pv, vi r.table.wrong]) rfl h3j (by repeat constructor) rfl rfl) rfl rfl rfl ?_; refine WL.abs (OpAbs.call rfl (fun m hm => table_any (hTab.le (by repeat first | exact hm.1 | replace hm := hm.2)) hs.table)) rfl rfl rfl ?_
    rintro m64 v64 h64
    refine WL.abs (OpAbs.call rfl (fun m hm => whoseT_any (h64.le (by repeat first | exact hm.1 | replace hm := hm.2)) hs.table)) rfl rfl rfl ?_
    rintro m65 _ ⟨lw, rfl, hlw⟩
    rw [hE0, if_pos rfl] at hlw
    rw [hE0]
    iterate 5 refine .o rfl ?_
    refine WL.nil ?_
    refine Kseq.go (W.seq (W.seq ?_))
    clear hbl
    have hthw := hV.thW
    have hth := hV.th
    have hcl : (carry6 (withSigns r [])).length = r.th := carry6_len _
    have hwl : (whoTo r.table r.table.pieces.length).length = r.table.pieces.length := by simp [whoTo]
    have hPj := hAj.P
    refine W.join fun mk hk2 => ?_
    have g1 := IsInts.le hl1 (hk2 _ (by simp))
    have g2 := IsInts.le hl2 (hk2 _ (by simp))
    have g3 := IsInts.le hl3 (hk2 _ (by simp))
    have gw := hlw.le (hk2 _ (by simp))
    have hAk := hAj.le (hk2 mj (by simp))
    have hvk := hvj.le (hk2 mj (by simp))
    have hXk := hX.le (hk2 mj (by simp))
    have h3k := h3j.le (hk2 mj (by simp))
    have h7k := h7j.le (hk2 mj (by simp))
    clear hl1 hl2 hl3 hlw hAj hvj hX h3j h7j
    obtain ⟨vs, hvs, hvA⟩ := gw
    have hPk := hAk.P
    have hKk := hAk.K
    have hWk := hAk.W
    refine W.region ?_; refine .o rfl ?_; refine .val (OpVal.neqF6 rfl rfl) rfl rfl rfl ?_
    iterate 2 refine .o rfl ?_
    refine .val (OpVal.neqF6 rfl rfl) rfl rfl rfl ?_
    iterate 3 refine .o rfl ?_
    refine .val (OpVal.neqF6 rfl rfl) rfl rfl rfl ?_
    iterate 3 refine .o rfl ?_
    refine .val (OpVal.neqF6 rfl rfl) rfl rfl rfl ?_
    iterate 3 refine .o rfl ?_
    refine .val (.len rfl g2) rfl rfl rfl ?_; refine .val (.loadPW rfl h3k (by repeat constructor) rfl) rfl rfl rfl ?_; refine .val (.cast (.call rfl (fun m hm => thingsR_any (hvk.le (by repeat first | exact hm.1 | replace hm := hm.2)))) (congrArg (Value.int .i64) hthw)) rfl rfl rfl ?_; refine .val (.cast (.opv rfl) (show _ = Value.bool false from congrArg (fun b => Value.bool (!b)) (decide_eq_true (by omega)))) rfl rfl rfl ?_
    iterate 3 refine .o rfl ?_
    refine .val (.len rfl hvA) rfl rfl rfl ?_; refine .val (.fieldAddrB rfl) rfl rfl rfl ?_; refine .val (.fieldAddrB rfl) rfl rfl rfl ?_; refine .val (.loadP rfl h3k (by repeat constructor) rfl) rfl rfl rfl ?_; refine .val (.len rfl hPk) rfl rfl rfl ?_; refine .val (.cast (.opv rfl) (show _ = Value.bool false from congrArg (fun b => Value.bool (!b)) (decide_eq_true (by omega)))) rfl rfl rfl ?_; refine .o rfl ?_; refine WL.nil ?_; refine Kseq.go ?_; refine W.condF rfl rfl ?_
    refine W.skip (Kseq.go (W.seq (W.seq ?_)))
    refine W.weaken [(2, .int .u8 (n2 : Int)), (3, .pointer (some ⟨b3, 0, none⟩)), (7, .pointer (some ⟨b7, 0, none⟩)), (8, vi (hr : Int)), (9, lv1), (11, lv2), (13, lv3), (15, lw)] [mk] [] (by repeat (first | exact trivial | refine ⟨rfl, ?_⟩)) (by simp) (List.nil_sublist _) ?_
    let g : Nat → Nat → Bool := fun i j => (!decide ((carry6 (withSigns r [])).getD j 0 = 2)) && decide ((whose6 (withSigns r [])).getD i 0 ∈ whoP r.table j)
    have hgx : ∀ i, i < (whose6 (withSigns r [])).length → ex r.table.pieces.length (g i) = true ∧ decide ((whose6 (withSigns r [])).getD i 0 ∈ r.sick) = false := fun i hi => by
      obtain ⟨q1, p, q2, q3, q4⟩ := harmed_who hnx (mem_getD hi)
      have q5 : (whose6 (withSigns r [])).getD i 0 ∈ whoP r.table p := q4
      exact ⟨ex_iff.2 ⟨p, q2, by show ((!decide _) && decide _) = true; rw [decide_eq_false q3, decide_eq_true q5]; rfl⟩, decide_eq_false q1⟩
    have hgb := g1.bd
    refine W.region ?_; refine .o rfl ?_; refine WL.nil ?_
    refine Kseq.go (W.block ?_)
    refine W.loop (σ := Nat) (fun i => [(2, .int .u8 (n2 : Int)), (3, .pointer (some ⟨b3, 0, none⟩)), (7, .pointer (some ⟨b7, 0, none⟩)), (8, vi (hr : Int)), (9, lv1), (11, lv2), (13, lv3), (15, lw), (17, vi (i : Int))]) (fun _ => [mk]) (fun _ => []) (fun i => i ≤ (whose6 (withSigns r [])).length) (fun i => (whose6 (withSigns r [])).length - i) 0 ⟨rfl, rfl, rfl, rfl, rfl, rfl, rfl, rfl, rfl, trivial⟩ (by simp) (List.nil_sublist _) (Nat.zero_le _) ?_
    intro i hi
    refine W.seq (W.seq ?_)
    refine W.region ?_
    iterate 2 refine .o rfl ?_
    refine .val (.len rfl g1) rfl rfl rfl ?_; refine .o rfl ?_; refine WL.nil ?_; refine Kseq.go ?_
    refine W.condD rfl rfl (fun hlt => ?_) (fun hge => ?_)
    · have hil : i < (whose6 (withSigns r [])).length := by omega
      obtain ⟨hgx1, hgx2⟩ := hgx i hil
      refine W.skip (Kseq.go (W.seq (W.block (W.seq ?_))))
      refine W.region ?_; refine .o rfl ?_; refine WL.nil ?_
      refine Kseq.go (W.seq (W.seq ?_))
      refine W.region ?_; refine .o rfl ?_; refine WL.nil ?_
      refine Kseq.go (W.block ?_)
      refine W.loopC (σ := Nat) (fun k => [(2, .int .u8 (n2 : Int)), (3, .pointer (some ⟨b3, 0, none⟩)), (7, .pointer (some ⟨b7, 0, none⟩)), (8, vi (hr : Int)), (9, lv1), (11, lv2), (13, lv3), (15, lw), (17, vi (i : Int)), (18, .bool (ex k (g i))), (19, vi (k : Int))]) (fun k => k ≤ r.table.pieces.length) (fun k => r.table.pieces.length - k) 0 ⟨rfl, rfl, rfl, rfl, rfl, rfl, rfl, rfl, rfl, rfl, rfl, trivial⟩ (Nat.zero_le _) ?_
      intro k hkk2
      refine W.seq (W.seq ?_)
      refine W.region ?_
      iterate 2 refine .o rfl ?_
      refine .val (.len rfl hvA) rfl rfl rfl ?_; refine .o rfl ?_; refine WL.nil ?_; refine Kseq.go ?_
      refine W.condD rfl rfl (fun hlt2 => ?_) (fun hge2 => ?_)
      · have hkl : k < r.table.pieces.length := by omega
        have hkt : k < r.th := Nat.lt_of_lt_of_le hkl hth.2.1
        have hes : ex (k + 1) (g i) = (ex k (g i) || g i k) := ex_succ ..
        have hwi := hvs.2 k (by omega)
        rw [show (whoTo r.table r.table.pieces.length).getD k [] = whoP r.table k by unfold whoTo; simp [List.getD_eq_getElem?_getD, hkl]] at hwi
        obtain ⟨x0, hx0⟩ : ∃ x, ex k (g i) = x := ⟨_, rfl⟩
        rw [hx0] at hes ⊢
        cases x0 with
        | true =>
          refine W.skip (Kseq.go (W.seq (W.block ?_)))
          refine W.draw 16 (by kernel_rfl) (by kernel_rfl) (by kernel_rfl) rfl ?_; refine .val [] (.opv rfl) rfl rfl rfl rfl ?_; refine .val [] (.opv rfl) rfl rfl rfl rfl ?_; refine DJ.pass rfl rfl rfl rfl ?_; refine DJ.pass rfl rfl rfl rfl ?_; refine DJ.pass rfl rfl rfl rfl ?_; refine DJ.pass rfl rfl rfl rfl ?_; refine DJ.pass rfl rfl rfl rfl ?_; refine DJ.pass rfl rfl rfl rfl ?_; refine DJ.pass rfl rfl rfl rfl ?_; refine DJ.pass rfl rfl rfl rfl ?_; refine DJ.pass rfl rfl rfl rfl ?_; refine DJ.pass rfl rfl rfl rfl ?_; refine DJ.pass rfl rfl rfl rfl ?_; refine DJ.pass rfl rfl rfl rfl ?_; refine DJ.pass rfl rfl rfl rfl ?_; refine DJ.pass rfl rfl rfl rfl ?_; refine DJ.nil ?_; refine WL.pass rfl rfl rfl ?_; refine WL.pass rfl rfl rfl ?_
          iterate 2 refine .o rfl ?_
          refine WL.nil ?_
          refine Kblock.normal (Kseq.go ?_)
          refine W.region ?_; refine .o rfl ?_; refine .val (.incr rfl (by omega)) rfl rfl rfl ?_; refine .o rfl ?_; refine WL.nil ?_
          exact Kloop.nextC (k + 1) (by omega) (by omega) ⟨rfl, rfl, rfl, rfl, rfl, rfl, rfl, rfl, rfl, congrArg (fun b => some (Value.bool b)) hes.symm, rfl, trivial⟩ (by simp) (.refl _)
        | false =>
          by_cases hc2 : (carry6 (withSigns r [])).getD k 0 = 2
          · have hgf : g i k = false := by show ((!decide _) && decide _) = false; rw [decide_eq_true hc2]; rfl
            refine W.skip (Kseq.go (W.seq (W.block ?_)))
            refine W.draw 16 (by kernel_rfl) (by kernel_rfl) (by kernel_rfl) rfl ?_; refine .val [] (.opv rfl) rfl rfl rfl rfl ?_; refine .val [] (.opv rfl) rfl rfl rfl rfl ?_; refine .val [] (.opv rfl) rfl rfl rfl rfl ?_; refine .val [] (.opv rfl) rfl rfl rfl rfl ?_; refine .val [] (.indexAddrN rfl rfl g2 (by omega)) rfl rfl rfl rfl ?_; refine .val [] (.loadE rfl g2 (by repeat constructor) (by omega) (by omega)) rfl rfl rfl rfl ?_; refine .val [] (.cast (.opv rfl) (show _ = Value.bool false from congrArg (fun b => Value.bool (!b)) (decide_eq_true hc2))) rfl rfl rfl rfl ?_; refine .val [] (.opv rfl) rfl rfl rfl rfl ?_; refine DJ.pass rfl rfl rfl rfl ?_; refine DJ.pass rfl rfl rfl rfl ?_; refine DJ.pass rfl rfl rfl rfl ?_; refine DJ.pass rfl rfl rfl rfl ?_; refine DJ.pass rfl rfl rfl rfl ?_; refine DJ.pass rfl rfl rfl rfl ?_; refine DJ.pass rfl rfl rfl rfl ?_; refine DJ.pass rfl rfl rfl rfl ?_
            refine DJ.nil ?_; refine WL.pass rfl rfl rfl ?_
            iterate 3 refine .o rfl ?_
            refine WL.nil ?_
            refine Kblock.normal (Kseq.go ?_)
            refine W.region ?_; refine .o rfl ?_; refine .val (.incr rfl (by omega)) rfl rfl rfl ?_; refine .o rfl ?_; refine WL.nil ?_
            exact Kloop.nextC (k + 1) (by omega) (by omega) ⟨rfl, rfl, rfl, rfl, rfl, rfl, rfl, rfl, rfl, congrArg (fun b => some (Value.bool b)) (by rw [hes, hgf]; rfl), rfl, trivial⟩ (by simp) (.refl _)
          · have hgf : g i k = decide ((whose6 (withSigns r [])).getD i 0 ∈ whoP r.table k) := by show ((!decide _) && decide _) = _; rw [decide_eq_false hc2]; rfl
            refine W.skip (Kseq.go (W.seq (W.block ?_)))
            refine W.draw 16 (by kernel_rfl) (by kernel_rfl) (by kernel_rfl) rfl ?_; refine .val [] (.opv rfl) rfl rfl rfl rfl ?_; refine .val [] (.opv rfl) rfl rfl rfl rfl ?_; refine .val [] (.opv rfl) rfl rfl rfl rfl ?_; refine .val [] (.opv rfl) rfl rfl rfl rfl ?_; refine .val [] (.indexAddrN rfl rfl g2 (by omega)) rfl rfl rfl rfl ?_; refine .val [] (.loadE rfl g2 (by repeat constructor) (by omega) (by omega)) rfl rfl rfl rfl ?_; refine .val [] (.cast (.opv rfl) (show _ = Value.bool true from congrArg (fun b => Value.bool (!b)) (decide_eq_false hc2))) rfl rfl rfl rfl ?_; refine .val [] (.opv rfl) rfl rfl rfl rfl ?_; refine .val [] (.opv rfl) rfl rfl rfl rfl ?_; refine .val [] (.opv rfl) rfl rfl rfl rfl ?_; refine .val [] (.indexAddrN rfl rfl hvA (by omega)) rfl rfl rfl rfl ?_; refine .val [] (.cast (.loadE rfl hvA (by repeat constructor) (by omega) (by omega)) (show _ = vs.getD k undef from rfl)) rfl rfl rfl rfl ?_
            refine .val [] (.opv rfl) rfl rfl rfl rfl ?_; refine .val [] (.opv rfl) rfl rfl rfl rfl ?_; refine .val [] (.indexAddrN rfl rfl g1 hil) rfl rfl rfl rfl ?_; refine .val [] (.loadE rfl g1 (by repeat constructor) hil (by omega)) rfl rfl rfl rfl ?_; refine DJ.nil ?_; refine .val (.call rfl (fun m hm => has_any _ (hwi.le (by repeat first | exact hm.1 | replace hm := hm.2)))) rfl rfl rfl ?_
            iterate 3 refine .o rfl ?_
            refine WL.nil ?_
            refine Kblock.normal (Kseq.go ?_)
            refine W.region ?_; refine .o rfl ?_; refine .val (.incr rfl (by omega)) rfl rfl rfl ?_; refine .o rfl ?_; refine WL.nil ?_
            exact Kloop.nextC (k + 1) (by omega) (by omega) ⟨rfl, rfl, rfl, rfl, rfl, rfl, rfl, rfl, rfl, congrArg (fun b => some (Value.bool b)) (by rw [hes, hgf]; rfl), rfl, trivial⟩ (by simp) (.refl _)
      · refine W.exit (Kseq.exit (Kloop.exit (Kblock.here (Kseq.go (W.seq ?_)))))
        have hkk : k = r.table.pieces.length := by omega
        subst hkk
        rw [hgx1]
        refine W.draw 9 (by kernel_rfl) (by kernel_rfl) (by kernel_rfl) rfl ?_; refine .val [] (.opv rfl) rfl rfl rfl rfl ?_; refine .val [] (.opv rfl) rfl rfl rfl rfl ?_; refine .val [] (.opv rfl) rfl rfl rfl rfl ?_; refine .val [] (.fieldAddrB rfl) rfl rfl rfl rfl ?_; refine .val [] (.loadP rfl h3k (by repeat constructor) rfl) rfl rfl rfl rfl ?_; refine .val [] (.opv rfl) rfl rfl rfl rfl ?_; refine .val [] (.opv rfl) rfl rfl rfl rfl ?_; refine .val [] (.indexAddrN rfl rfl g1 hil) rfl rfl rfl rfl ?_; refine .val [] (.loadE rfl g1 (by repeat constructor) hil (by omega)) rfl rfl rfl rfl ?_; refine DJ.nil ?_; refine .val (.cast (.call rfl (fun m hm => has_any _ (hKk.le (by repeat first | exact hm.1 | replace hm := hm.2)))) (congrArg Value.bool hgx2)) rfl rfl rfl ?_; refine .o rfl ?_; refine WL.nil ?_; refine Kseq.go ?_; refine W.condF rfl rfl ?_
        refine W.skip (Kblock.normal (Kseq.go ?_))
        refine W.region ?_; refine .o rfl ?_; refine .val (.incr rfl (by omega)) rfl rfl rfl ?_; refine .o rfl ?_; refine WL.nil ?_
        exact Kloop.next (i + 1) (by omega) (by omega) ⟨rfl, rfl, rfl, rfl, rfl, rfl, rfl, rfl, rfl, trivial⟩ (by simp) (by repeat first | exact .refl _ | refine .cons _ ?_)
    · refine W.exit (Kseq.exit (Kloop.exit (Kblock.here (Kseq.go (W.seq ?_)))))
      clear hgx
      refine W.region ?_; refine .val (.fieldAddrB rfl) rfl rfl rfl ?_; refine .val (.fieldAddrB rfl) rfl rfl rfl ?_; refine .val (.loadP rfl h3k (by repeat constructor) rfl) rfl rfl rfl ?_; refine .val (.len rfl hPk) rfl rfl rfl ?_; refine .o rfl ?_; refine WL.nil ?_
      refine Kseq.go (W.seq (W.seq ?_))
      by_cases hp0 : r.table.pieces.length = 0
      · skip
        refine W.region ?_; refine .o rfl ?_; refine .val (.cast (.opv rfl) (congrArg Value.bool (decide_eq_true (by omega)))) rfl rfl rfl ?_; refine WL.nil ?_; refine Kseq.go ?_; refine W.condT rfl rfl ?_; refine W.seq ?_; refine W.region ?_; refine .val (.call rfl (fun m hm => boiledEx_any)) rfl rfl rfl ?_; refine .o rfl ?_; refine WL.nil ?_; refine Kseq.go ?_
        refine W.ret ?_; refine Kseq.ret ?_; refine ⟨.inl rfl, [_], mk, ⟨.tmp rfl, trivial⟩, (by repeat constructor), ?_⟩
        rfl
      refine W.region ?_; refine .o rfl ?_; refine .val (.cast (.opv rfl) (congrArg Value.bool (decide_eq_false (by omega)))) rfl rfl rfl ?_; refine WL.nil ?_; refine Kseq.go ?_; refine W.condF rfl rfl ?_
      have hnp := hV.table.pieces
      have hpl : n2 % r.table.pieces.length < r.table.pieces.length := Nat.mod_lt _ (by omega)
      refine W.skip (Kseq.go (W.seq ?_))
      refine W.region ?_; refine .o rfl ?_; refine .val (.conv rfl (i64_in (by omega) (by omega))) rfl rfl rfl ?_; refine .o rfl ?_; refine .val (.cast (.rem rfl rfl (by omega) (by omega)) (show _ = vi ((n2 % r.table.pieces.length : Nat) : Int) from rfl)) rfl rfl rfl ?_; refine .o rfl ?_; refine WL.nil ?_
      refine Kseq.go (W.seq (W.seq ?_))
      generalize n2 % r.table.pieces.length = p at *
      obtain ⟨w, hw1, hw2, hw3, hw4⟩ := who_mark hpl hV.some
      have hwi := hvs.2 p (by omega)
      rw [show (whoTo r.table r.table.pieces.length).getD p [] = whoP r.table p by unfold whoTo; simp [List.getD_eq_getElem?_getD, hpl]] at hwi
      refine W.region ?_
      iterate 2 refine .o rfl ?_
      refine .val (.indexAddrN rfl rfl hvA (by omega)) rfl rfl rfl ?_; refine .val (.cast (.loadE rfl hvA (by repeat constructor) (by omega) (by omega)) (show _ = vs.getD p undef from rfl)) rfl rfl rfl ?_; refine .val (.len rfl hwi) rfl rfl rfl ?_; refine .val (.cast (.opv rfl) (congrArg Value.bool (decide_eq_false (by omega)))) rfl rfl rfl ?_; refine WL.nil ?_; refine Kseq.go ?_; refine W.condF rfl rfl ?_
      refine W.skip (Kseq.go (W.seq ?_))
      refine W.region ?_; refine .val (.loadPW rfl h7k (by repeat constructor) rfl) rfl rfl rfl ?_
      refine WL.alloc rfl rfl rfl (fun b22 => ?_)
      (refine WL.store [wv, pv, vi r.table.wrong, kv, vi r.others, vi r.last, tv, bv, .slice none 0 0] rfl (.head _) rfl rfl rfl (Nat.le_of_ble_eq_true rfl) (by simp [Value.cells]; exact ⟨IsArr.one hAk.W, IsArr.one hAk.P, rfl, IsArr.one hAk.K, rfl, rfl, IsArr.one hAk.T, IsArr.one hAk.B, rfl⟩) rfl ?_)
      refine WL.nil ?_
      refine Kseq.go (W.seq ?_)
      obtain ⟨pa, pc, rfl⟩ := IsArr.form hPk
      have hPc := hPk.toCells
      have hfl := fsOf_len f r.table.pieces
      have hal := fsOf_all hAk.M
      have hpcl := pcs_len hfl
      have est := fun (u : Value) (hu : u.cells = #[u]) (ms : List Int) => setM_store hfl hpl u hu ms
      have hL2 := setM_len r.table.pieces p
      refine W.region ?_
      (refine WL.lit (vs := []) [] rfl (Nat.le_of_ble_eq_true rfl) rfl rfl (by simp) (Nat.le_of_ble_eq_true rfl) rfl rfl rfl rfl (fun b158 => ?_))
      refine .val (.fieldAddrB rfl) rfl rfl rfl ?_; refine .val (.fieldAddrB rfl) rfl rfl rfl ?_; refine .val (.loadP rfl h3k (by repeat constructor) rfl) rfl rfl rfl ?_
      (refine WL.append (e := 59) (k := 2) (bytes := 32) (xs := []) (ys := flatv (pcs (fsOf f r.table.pieces) r.table.pieces)) (N := 0) (m2 := r.table.pieces.length) (μ' := fun v' => [kr 59 2 v' (pcs (fsOf f r.table.pieces) r.table.pieces), .blk b22 _ 31]) rfl (fun v' => by simp only [kr, hpcl, Nat.zero_add, List.nil_append]; exact .head _) rfl hPc (by repeat constructor) rfl (by omega) (by unfold maxLen; omega) (by omega) rfl rfl rfl ?_; intro a162 c162)
      refine .val (.fieldAddrB rfl) rfl rfl rfl ?_; refine .val (.fieldAddrB rfl) rfl rfl rfl ?_
      refine WL.store [_, _, _, _, _, _, _, _, _] rfl (.tail _ (.head _)) rfl rfl rfl (Nat.le_of_ble_eq_true rfl) (by first | (simp [Value.cells, Value.oneCell']; done) | exact IsArr.ones hW (by omega) | exact IsArr.ones hP (by omega) | exact IsArr.ones hS (by omega) | exact IsArr.ones hH (by omega) | exact IsArr.ones hL (by omega) | exact IsArr.ones hB (by omega) | exact IsArr.ones hT (by omega) | exact IsArr.ones hm (by omega)) rfl ?_
      refine WL.nil ?_
      refine Kseq.go (W.seq ?_)
      generalize hfs : fsOf f r.table.pieces = fs at *
      refine W.draw 17 (by kernel_rfl) (by kernel_rfl) (by kernel_rfl) rfl ?_; refine .val [] (.fieldAddrB rfl) rfl rfl rfl rfl ?_; refine .val [] (.fieldAddrB rfl) rfl rfl rfl rfl ?_; refine .val [] (.loadB rfl (.tail _ (.head _)) rfl) rfl rfl rfl rfl ?_; refine .val [] (.opv rfl) rfl rfl rfl rfl ?_; refine .val [] (.fieldAddrB rfl) rfl rfl rfl rfl ?_; refine .val [] (.fieldAddrB rfl) rfl rfl rfl rfl ?_; refine .val [] (.loadP rfl h3k (by repeat constructor) rfl) rfl rfl rfl rfl ?_; refine .val [] (.opv rfl) rfl rfl rfl rfl ?_; refine .val [] (.opv rfl) rfl rfl rfl rfl ?_; refine .val [] (.indexAddrN rfl rfl hvA (by omega)) rfl rfl rfl rfl ?_; refine .val [] (.cast (.loadE rfl hvA (by repeat constructor) (by omega) (by omega)) (show _ = vs.getD p undef from rfl)) rfl rfl rfl rfl ?_; refine .val [] (.indexAddrN rfl rfl hwi (by omega)) rfl rfl rfl rfl ?_; refine .val [] (.cast (.loadE rfl hwi (by repeat constructor) (by omega) (by omega)) (congrArg vi hw2)) rfl rfl rfl rfl ?_
      refine .val [] (.indexAddrN rfl rfl hWk hw1) rfl rfl rfl rfl ?_; refine .val [] (.fieldAddrN rfl hWk hw1) rfl rfl rfl rfl ?_; refine .val [] (.cast (.loadE rfl hWk (by repeat constructor) hw1 (by omega)) (show _ = vi (r.table.women.getD w default).mark from rfl)) rfl rfl rfl rfl ?_; refine DJ.abs (A := fun m q => IsInts m q [(r.table.women.getD w default).mark]) [] (OpAbs.mono (OpAbs.litI rfl) (fun m' v' h' => ints_lit (xs := [(r.table.women.getD w default).mark]) h')) rfl rfl rfl rfl ?_; refine DJ.nil ?_
      rintro m181 v181 h181
      obtain ⟨ma, mc, rfl⟩ := IsArr.form h181
      refine .val (.indexAddrR rfl rfl (.head _) (by rw [hpcl]; exact hpl)) rfl rfl rfl ?_
      refine .val (.fieldAddrR rfl (.head _) (by rw [hpcl]; exact hpl)) rfl rfl rfl ?_
      (refine WL.storeR (T := 59) (k := 2) (xs := flatv (pcs fs r.table.pieces)) (μ' := [kr 59 2 (.slice a162 (0 + r.table.pieces.length) c162) (pcs (fs.set p (.slice ma 1 mc)) (setM r.table.pieces p [(r.table.women.getD w default).mark])), .blk b22 _ 31]) rfl (by unfold kr; rw [← est (.slice ma 1 mc) rfl [(r.table.women.getD w default).mark], hpcl, pcs_len (by rw [List.length_set, hfl, hL2]), hL2]; exact .head _) rfl rfl rfl hpl (Nat.le_of_ble_eq_true rfl) (by simp [Value.cells, Value.oneCell']) ?_)
      refine WL.nil ?_
      refine Kseq.go (W.seq (W.seq ?_))
      refine W.freezeK (.head _) (fun b hb => (hF b hb).elim) (by omega) (pcs_size _ _) (pcs_oneT fun u hu => by
        rcases List.mem_or_eq_of_mem_set hu with hu | rfl
        · exact hal.one u hu
        · exact IsArr.one h181) fun m5 hm5 => ?_
      have hp5 := pieces_of (by rw [List.length_set, hfl, hL2]) hm5
      clear hm5
      refine W.freezeBox (.head _) (fun b hb => (hF b hb).elim) fun m22 h22 => ?_
      refine W.join fun ml hl => ?_
      subst hfs
      have hAl := hAk.le (hl mk (by simp))
      have hMl := read_marks (p := p) (hl mk (by simp)) hAk.M (IsInts.le h181 (hl m181 (by simp)))
      have hPl := hp5.le (hl m5 (by simp))
      have h22l := h22.le (hl m22 (by simp))
      have g3l := IsInts.le g3 (hl mk (by simp))
      have hY : IsHouse ml (.agg #[wv, .slice a162 (0 + r.table.pieces.length) c162, vi r.table.wrong, kv, vi r.others, vi r.last, tv, bv, .slice none 0 0]) (withTable (withSigns r []) ⟨r.table.women, setM r.table.pieces p [(r.table.women.getD w default).mark], r.table.wrong⟩) := ⟨wv, _, kv, tv, bv, _, _, rfl, ⟨hAl.W, hPl, hMl, hAl.K, hAl.T, hAl.B, IsSigns.nil _⟩⟩
      have hsY : SmH (withTable (withSigns r []) ⟨r.table.women, setM r.table.pieces p [(r.table.women.getD w default).mark], r.table.wrong⟩) := ⟨setM_sm hs.table, hs.sick, hs.touches, hs.boiled, Nat.zero_le _⟩
      have hFe : Fewer r.table ⟨r.table.women, setM r.table.pieces p [(r.table.women.getD w default).mark], r.table.wrong⟩ := setM_fewer hpl (fun y hy => by rw [List.mem_singleton] at hy; subst hy; exact hw4)
      have hC : Closer (withTable (withSigns r []) ⟨r.table.women, setM r.table.pieces p [(r.table.women.getD w default).mark], r.table.wrong⟩) (withSigns r []) := fewer_closer hFe
      have hself : withSigns (withTable (withSigns r []) ⟨r.table.women, setM r.table.pieces p [(r.table.women.getD w default).mark], r.table.wrong⟩) [] = withTable (withSigns r []) ⟨r.table.women, setM r.table.pieces p [(r.table.women.getD w default).mark], r.table.wrong⟩ := rfl
      have hyl : (withTable (withSigns r []) ⟨r.table.women, setM r.table.pieces p [(r.table.women.getD w default).mark], r.table.wrong⟩).last = r.last := rfl
      generalize withTable (withSigns r []) ⟨r.table.women, setM r.table.pieces p [(r.table.women.getD w default).mark], r.table.wrong⟩ = y at *
      clear hp5 hFe est hPc hal h22
      refine W.weaken [(8, vi (hr : Int)), (13, lv3), (22, .pointer (some ⟨b22, 0, none⟩))] [ml] [] (by repeat (first | exact trivial | refine ⟨rfl, ?_⟩)) (by simp) (List.nil_sublist _) ?_
      by_cases hfy : fault6 y = 0
      · skip
        refine W.region ?_; refine .val (.loadPW rfl h22l (by repeat constructor) rfl) rfl rfl rfl ?_; refine .val (.call rfl (fun m hm => fault6R_any (hY.le (by repeat first | exact hm.1 | replace hm := hm.2)) hsY)) rfl rfl rfl ?_; refine .val (.cast (.opv rfl) (show _ = Value.bool false from congrArg (fun b => Value.bool (!b)) (decide_eq_true hfy))) rfl rfl rfl ?_; refine WL.nil ?_; refine Kseq.go ?_; refine W.condF rfl rfl ?_
        have hVy := fault6_zero.1 hfy
        have hny := nosign_ask hVy
        rw [hself] at hny
        have hEy : ask6E y (isHour y (hr : Int)) = 0 := by
          rw [show isHour y (hr : Int) = true from isHour_iff.2 ⟨Int.natCast_nonneg _, by omega⟩]
          exact ask6E_ok hVy hny
        obtain ⟨q, hqe, _⟩ := boil6_least hVy (hour := hr) (by omega)
        have hle := boil_fewer hVx hVy hC (hour := hr) (by show _ ≤ r.last; omega) (by omega) hce hqe
        refine W.skip (Kseq.go (W.seq ?_))
        refine W.region ?_; refine .val (.loadPW rfl h22l (by repeat constructor) rfl) rfl rfl rfl ?_; refine WL.abs (OpAbs.call rfl (fun m hm => houseL_any (hY.le (by repeat first | exact hm.1 | replace hm := hm.2)) hsY)) rfl rfl rfl ?_
        rintro m190 v190 h190
        refine .o rfl ?_; refine WL.abs (OpAbs.call rfl (fun m hm => boil6_any _ (h190.le (by repeat first | exact hm.1 | replace hm := hm.2)) hsY)) rfl rfl rfl ?_
        rintro m192 _ ⟨lv4, rfl, _, hb4⟩
        have g4 := hb4 hEy q hqe
        rw [hEy]
        iterate 5 refine .o rfl ?_
        refine WL.nil ?_
        refine Kseq.go (W.seq ?_)
        have hb3 := g3l.bd
        have hb4' := g4.bd
        refine W.region ?_; refine .o rfl ?_; refine .val (OpVal.eqT6 rfl rfl) rfl rfl rfl ?_
        iterate 2 refine .o rfl ?_
        refine .val (.len rfl g4) rfl rfl rfl ?_; refine .o rfl ?_; refine .val (.len rfl g3l) rfl rfl rfl ?_; refine .val (.cast (.opv rfl) (congrArg Value.bool (decide_eq_true (by omega)))) rfl rfl rfl ?_
        iterate 2 refine .o rfl ?_
        refine .val (.call rfl (fun m hm => boiledEx_any)) rfl rfl rfl ?_
        iterate 2 refine .o rfl ?_
        refine WL.nil ?_; refine Kseq.go ?_
        refine W.ret ?_; refine ⟨.inl rfl, [_], ml, ⟨.tmp rfl, trivial⟩, (by repeat constructor), ?_⟩
        rfl
      · skip
        refine W.region ?_; refine .val (.loadPW rfl h22l (by repeat constructor) rfl) rfl rfl rfl ?_; refine .val (.call rfl (fun m hm => fault6R_any (hY.le (by repeat first | exact hm.1 | replace hm := hm.2)) hsY)) rfl rfl rfl ?_; refine .val (.cast (.opv rfl) (show _ = Value.bool true from congrArg (fun b => Value.bool (!b)) (decide_eq_false hfy))) rfl rfl rfl ?_; refine WL.nil ?_; refine Kseq.go ?_; refine W.condT rfl rfl ?_; refine W.seq ?_; refine W.region ?_; refine .val (.call rfl (fun m hm => boiledEx_any)) rfl rfl rfl ?_; refine .o rfl ?_; refine WL.nil ?_; refine Kseq.go ?_
        refine W.ret ?_; refine Kseq.ret ?_; refine ⟨.inl rfl, [_], ml, ⟨.tmp rfl, trivial⟩, (by repeat constructor), ?_⟩
        rfl
  · skip
    refine W.region ?_; refine .val (.loadPW rfl h3 (by repeat constructor) rfl) rfl rfl rfl ?_; refine .val (.cast (.call rfl (fun m hm => thin6_any (hv'.le (by repeat first | exact hm.1 | replace hm := hm.2)))) (congrArg Value.bool hT)) rfl rfl rfl ?_
    iterate 2 refine .o rfl ?_
    refine .val (.loadPW rfl h3 (by repeat constructor) rfl) rfl rfl rfl ?_; refine .val (.call rfl (fun m hm => fault6R_any (hv'.le (by repeat first | exact hm.1 | replace hm := hm.2)) hs)) rfl rfl rfl ?_; refine .val (.cast (.opv rfl) (show _ = Value.bool true from congrArg (fun b => Value.bool (!b)) (decide_eq_false hf0))) rfl rfl rfl ?_; refine .o rfl ?_; refine WL.nil ?_; refine Kseq.go ?_; refine W.condT rfl rfl ?_; refine W.seq ?_; refine W.region ?_; refine .val (.call rfl (fun m hm => boiledEx_any)) rfl rfl rfl ?_; refine .o rfl ?_; refine WL.nil ?_; refine Kseq.go ?_
    refine W.ret ?_; refine Kseq.ret ?_; refine ⟨.inl rfl, [_], h, ⟨.tmp rfl, trivial⟩, (by repeat constructor), ?_⟩
    rfl
end Go.Proofs.YtdnbkjgbehakpaaGreat
