/- The program's functions of chapter 6: play. -/
import Derived.Test.YtdnbkjgbehakpaaGreatT112
import Derived.Test.YtdnbkjgbehakpaaGreatP33
namespace Go.Proofs.YtdnbkjgbehakpaaGreat
open Go Go.Eng Go.RowKit

/-- What carries a sickness, as the program has it. -/
def carC (s : Nat) : Array Value := ((List.range 10).map fun i => Value.bool (s.testBit i)).toArray
abbrev carV (s : Nat) : Value := .agg (carC s)
theorem carC_zero : carC 0 = #[.bool false, .bool false, .bool false, .bool false, .bool false, .bool false, .bool false, .bool false, .bool false, .bool false] := by
  have e : (fun i : Nat => Value.bool (Nat.testBit 0 i)) = fun _ => Value.bool false := funext fun i => by rw [Nat.zero_testBit]
  unfold carC; rw [e]; rfl
theorem carC_size (s : Nat) : (carC s).size = 10 := by simp [carC]
theorem carC_one (s : Nat) : ∀ u ∈ (carC s).toList, u.oneCell' = true := by
  intro u hu
  simp only [carC, List.mem_map] at hu
  obtain ⟨x, _, rfl⟩ := hu
  rfl
theorem carC_get {s i : Nat} (h : i < 10) : (carC s)[0 + i]? = some (.bool (s.testBit i)) := by simp [carC, h]
theorem carC_set {s s' i : Nat} {b : Bool} (hi : i < 10) (h : ∀ j, j < 10 → s'.testBit j = if j = i then b else s.testBit j) : (carC s).toList.take (0 + i) ++ ((Value.bool b).cells.toList ++ (carC s).toList.drop (0 + i + 1)) = (List.range 10).map fun j => Value.bool (s'.testBit j) := by
  have e : (carC s).toList.take (0 + i) ++ ((Value.bool b).cells.toList ++ (carC s).toList.drop (0 + i + 1)) = (((List.range 10).map fun j => Value.bool (s.testBit j)).set i (.bool b)) := by
    rw [List.set_eq_take_append_cons_drop, if_pos (by simpa using hi), Nat.zero_add]; rfl
  rw [e]
  apply List.ext_getElem (by simp)
  intro j h1 h2
  have hj : j < 10 := by simpa using h2
  rw [List.getElem_set]
  simp only [List.getElem_map, List.getElem_range]
  rw [h j hj]
  by_cases hji : i = j
  · rw [if_pos hji, if_pos hji.symm]
  · rw [if_neg hji, if_neg (fun e => hji e.symm)]
def or1 (s A : Nat) : Nat := s ||| 2 ^ A
def or2 (s A B : Nat) : Nat := s ||| (2 ^ A ||| 2 ^ B)
theorem or_bit {s A B j : Nat} : (or2 s A B).testBit j = if j = B then true else (or1 s A).testBit j := by
  unfold or1 or2
  rw [Nat.testBit_or, Nat.testBit_or, Nat.testBit_or, Nat.testBit_two_pow, Nat.testBit_two_pow]
  by_cases h : j = B
  · rw [if_pos h, decide_eq_true h.symm, Bool.or_true, Bool.or_true]
  · rw [if_neg h, decide_eq_false (p := B = j) (fun e => h e.symm), Bool.or_false]
theorem or_bit1 {s A j : Nat} : (or1 s A).testBit j = if j = A then true else s.testBit j := by
  unfold or1
  rw [Nat.testBit_or, Nat.testBit_two_pow]
  by_cases h : j = A
  · rw [if_pos h, decide_eq_true h.symm, Bool.or_true]
  · rw [if_neg h, decide_eq_false (p := A = j) (fun e => h e.symm), Bool.or_false]
theorem ValidH.thW {r : House} (hV : ValidH r) : r.thingsW = (r.th : Int) := by
  have h1 := hV.th.1
  rw [FitH.eq ⟨by have := hV.others; have h2 := hV.th.1; omega, by have := hV.others; omega⟩]; exact h1.symm
theorem ValidH.at {r : House} (hV : ValidH r) {k : Nat} (hk : k < r.tn) : ∃ A B : Nat, (r.touches.getD k default).a = A ∧ (r.touches.getD k default).b = B ∧ A < 10 ∧ B < 10 := by
  have h1 := touchOk_iff.1 (hV.touch k hk)
  have h2 := hV.others
  exact ⟨(r.touches.getD k default).a.toNat, (r.touches.getD k default).b.toNat, by omega, by omega, by omega, by omega⟩
/-- play -/
theorem play_any {h : Mem} {v : Value} {r : House} {q : Course} {b : Nat} {bs : List Boil} (hv : IsHouse h v r) (hV : ValidH r) (hc : FitC r q) (hm : IsBm h b bs) :
    FnV Tryz.prog 102 #[v, sceneV q, .map (some b)] h (carV (carN r.sick r.touches r.th q bs (r.last + 1).toNat)) := by
  have hv' := hv
  have hco := hc.owners
  have hch := hc.hours
  have h7 : r.np ≤ 7 := hV.np7
  have h6 : r.tn ≤ 6 := hV.touchN
  have h10 := hV.th
  have hla := hV.last
  have hsz := sceneC_size (c := q) (by omega) (by omega)
  have hth := hV.thW
  have hlt2 : ∀ k, carN r.sick r.touches r.th q bs k < 2 ^ 64 := fun k => Nat.lt_of_lt_of_le (carN_lt (by omega) hV.touchLt (by omega) k) (Nat.pow_le_pow_right (by omega) (by omega))
  obtain ⟨wv, pv, kv, tv, bv, sv, f, rfl, hA⟩ := hv
  have hT := hA.T
  obtain ⟨L, hL⟩ : ∃ L : Nat, r.last + 1 = (L : Int) := ⟨(r.last + 1).toNat, by omega⟩
  have hL' : (r.last + 1).toNat = L := by omega
  rw [hL']
  refine FnR.val ?_
  refine FnR.of_W (n := 78) Tryz.func102 rfl rfl (Nat.le_of_ble_eq_true rfl) fun c hr hD hF => ?_
  refine W.seq ?_
  refine W.region ?_
  refine WL.box rfl rfl rfl rfl (fun b3 => ?_)
  refine WL.box rfl rfl rfl rfl (fun b4 => ?_)
  refine WL.alloc rfl rfl rfl (fun b6 => ?_)
  refine WL.nil ?_
  refine Kseq.go (W.seq (W.seq ?_))
  skip
  refine W.region ?_
  refine WL.val (OpVal.loadBW rfl (.tail _ (.tail _ (.head _))) rfl) rfl rfl rfl ?_
  refine WL.val (OpVal.call rfl (fun m hm => pieces6_any (hv'.le (by repeat (first | exact hm.1 | replace hm := hm.2))))) rfl rfl rfl ?_
  refine WL.val (OpVal.opv rfl) rfl rfl rfl ?_
  refine WL.nil ?_
  refine Kseq.go (W.block ?_)
  refine W.loop (σ := Nat) (fun k => [(2, .map (some b)), (3, .pointer (some ⟨b3, 0, none⟩)), (4, .pointer (some ⟨b4, 0, none⟩)), (6, .pointer (some ⟨b6, 0, none⟩)), (13, .int .i64 (r.np : Int)), (14, .int .i64 (k : Int))]) (fun _ => [h])
    (fun k => [.blk b6 (carC (bset k fun i => decide (q.owners.getD i 0 ∈ r.sick))) 168, .blk b4 (sceneC q) 164, .blk b3 (hcs wv pv kv tv bv sv r) 46]) (fun k => k ≤ r.np) (fun k => r.np - k) 0 ⟨rfl, rfl, rfl, rfl, rfl, rfl, trivial⟩ (by simp) (by rw [show (bset 0 fun i => decide (q.owners.getD i 0 ∈ r.sick)) = 0 from rfl, carC_zero]; exact .refl _) (Nat.zero_le _) ?_
  rintro k hk
  try dsimp only at hk ⊢
  refine W.seq ?_
  refine W.region ?_
  refine WL.val (OpVal.opv rfl) rfl rfl rfl ?_
  refine WL.nil ?_
  refine Kseq.go (W.seq ?_)
  refine W.condD rfl rfl (fun hlt => ?_) (fun hge => ?_)
  · have hkl : k < r.np := by omega
    refine W.skip (Kseq.go (W.seq (W.block (W.seq ?_))))
    refine W.region ?_
    refine WL.val (OpVal.opv rfl) rfl rfl rfl ?_
    refine WL.val (OpVal.opv rfl) rfl rfl rfl ?_
    refine WL.nil ?_
    refine Kseq.go ?_
    skip
    refine W.region ?_
    refine WL.val (OpVal.opv rfl) rfl rfl rfl ?_
    refine WL.val (OpVal.loadBW rfl (.tail _ (.tail _ (.head _))) rfl) rfl rfl rfl ?_
    refine WL.val (OpVal.loadBW rfl (.tail _ (.head _)) hsz) rfl rfl rfl ?_
    refine WL.val (OpVal.opv rfl) rfl rfl rfl ?_
    refine WL.val (OpVal.call rfl (fun m hm => sick_any (hv'.le (by repeat (first | exact hm.1 | replace hm := hm.2))) hc h7 h6 hkl)) rfl rfl rfl ?_
    refine WL.val (OpVal.indexAddrB rfl rfl (by omega)) rfl rfl rfl ?_
    (refine WL.store (size := 1) ((List.range 10).map fun j => Value.bool ((bset (k + 1) fun i => decide (q.owners.getD i 0 ∈ r.sick)).testBit j)) rfl (.head _) rfl rfl rfl (by rw [carC_size]; omega) (by simp [Value.cells, Value.oneCell']) (carC_set (by omega) fun j _ => by (rw [bset_bit, bset_bit]; by_cases e : j = k; (rw [if_pos e, e]; simp); (rw [if_neg e]; congr 1; rw [decide_eq_decide]; omega))) ?_)
    refine WL.nil ?_
    refine Kblock.normal (Kseq.go ?_)
    skip
    refine W.region ?_
    refine WL.val (OpVal.incr rfl (by omega)) rfl rfl rfl ?_
    refine WL.val (OpVal.opv rfl) rfl rfl rfl ?_
    refine WL.nil ?_
    skip
    exact Kloop.next (k + 1) (by omega) (by omega) ⟨rfl, rfl, rfl, rfl, rfl, rfl, trivial⟩ (by simp) (by repeat (first | exact List.Sublist.refl _ | refine List.Sublist.cons _ ?_ | refine List.Sublist.cons_cons _ ?_))
  refine W.exit (Kseq.exit (Kloop.exit (Kblock.here (Kseq.go (W.seq (W.seq ?_))))))
  have hkk : k = r.np := by omega
  subst hkk
  skip
  refine W.region ?_
  refine WL.val (OpVal.fieldAddrB rfl) rfl rfl rfl ?_
  refine WL.val (OpVal.loadB rfl (.tail _ (.tail _ (.head _))) rfl) rfl rfl rfl ?_
  refine WL.val (OpVal.add rfl rfl (by omega) (by omega)) rfl rfl rfl ?_
  refine WL.val (OpVal.opv rfl) rfl rfl rfl ?_
  refine WL.nil ?_
  refine Kseq.go (W.block ?_)
  refine W.loop (σ := Nat) (fun k => [(2, .map (some b)), (3, .pointer (some ⟨b3, 0, none⟩)), (4, .pointer (some ⟨b4, 0, none⟩)), (6, .pointer (some ⟨b6, 0, none⟩)), (26, .int .i64 (r.last + 1)), (27, .int .i64 (k : Int))]) (fun _ => [h])
    (fun k => [.blk b6 (carC (carN r.sick r.touches r.th q bs k)) 168, .blk b4 (sceneC q) 164, .blk b3 (hcs wv pv kv tv bv sv r) 46]) (fun k => k ≤ L) (fun k => L - k) 0 ⟨rfl, rfl, rfl, rfl, rfl, rfl, trivial⟩ (by simp) (by rw [← hco]; exact .refl _) (Nat.zero_le _) ?_
  rintro k hk
  try dsimp only at hk ⊢
  refine W.seq ?_
  refine W.region ?_
  refine WL.val (OpVal.opv rfl) rfl rfl rfl ?_
  refine WL.nil ?_
  refine Kseq.go (W.seq ?_)
  refine W.condD rfl rfl (fun hlt => ?_) (fun hge => ?_)
  · have hkl : k < L := by omega
    refine W.skip (Kseq.go (W.seq (W.block (W.seq ?_))))
    refine W.region ?_
    refine WL.val (OpVal.opv rfl) rfl rfl rfl ?_
    refine WL.val (OpVal.opv rfl) rfl rfl rfl ?_
    refine WL.nil ?_
    refine Kseq.go (W.seq (W.seq ?_))
    skip
    refine W.region ?_
    refine WL.val (OpVal.loadBW rfl (.tail _ (.tail _ (.head _))) rfl) rfl rfl rfl ?_
    refine WL.val (OpVal.cast (OpVal.call rfl (fun m hm => things6_any (hv'.le (by repeat (first | exact hm.1 | replace hm := hm.2))))) (congrArg (Value.int .i64) hth)) rfl rfl rfl ?_
    refine WL.val (OpVal.opv rfl) rfl rfl rfl ?_
    refine WL.nil ?_
    refine Kseq.go (W.block ?_)
    have hs := hlt2 k
    obtain ⟨s0, hs0⟩ : ∃ s, carN r.sick r.touches r.th q bs k = s := ⟨_, rfl⟩
    rw [hs0] at hs ⊢
    refine W.loop (σ := Nat) (fun i => [(2, .map (some b)), (3, .pointer (some ⟨b3, 0, none⟩)), (4, .pointer (some ⟨b4, 0, none⟩)), (6, .pointer (some ⟨b6, 0, none⟩)), (8, .int .i64 (k : Int)), (26, .int .i64 (r.last + 1)), (27, .int .i64 (k : Int)), (31, .int .i64 (r.th : Int)), (32, .int .i64 (i : Int))]) (fun _ => [h])
      (fun i => [.blk b6 (carC (boilN bs k s0 i)) 168, .blk b4 (sceneC q) 164, .blk b3 (hcs wv pv kv tv bv sv r) 46]) (fun i => i ≤ r.th) (fun i => r.th - i) 0 ⟨rfl, rfl, rfl, rfl, rfl, rfl, rfl, rfl, rfl, trivial⟩ (by simp) (.refl _) (Nat.zero_le _) ?_
    rintro i hi
    try dsimp only at hi ⊢
    refine W.seq ?_
    refine W.region ?_
    refine WL.val (OpVal.opv rfl) rfl rfl rfl ?_
    refine WL.nil ?_
    refine Kseq.go (W.seq ?_)
    refine W.condD rfl rfl (fun hlt => ?_) (fun hge => ?_)
    · have hil : i < r.th := by omega
      refine W.skip (Kseq.go (W.seq (W.block (W.seq ?_))))
      refine W.region ?_
      refine WL.val (OpVal.opv rfl) rfl rfl rfl ?_
      refine WL.val (OpVal.opv rfl) rfl rfl rfl ?_
      refine WL.nil ?_
      refine Kseq.go (W.seq ?_)
      skip
      refine W.region ?_
      refine WL.val (OpVal.opv rfl) rfl rfl rfl ?_
      refine WL.val (OpVal.opv rfl) rfl rfl rfl ?_
      refine WL.val (OpVal.opv rfl) rfl rfl rfl ?_
      refine WL.val (OpVal.cast (OpVal.build2 rfl rfl) (show _ = vq [(i : Int), (k : Int)] from rfl)) rfl rfl rfl ?_
      refine WL.val (OpVal.cast (OpVal.lookupP (k := [(i : Int), (k : Int)]) rfl rfl hm (by repeat (first | exact .head _ | refine .tail _ ?_)) rfl) (show _ = Value.bool (isBoiled bs (i : Int) (k : Int)) from rfl)) rfl rfl rfl ?_
      refine WL.nil ?_
      refine Kseq.go ?_
      refine W.cond rfl rfl (fun hb => ?_) (fun hb => ?_)
      · skip
        refine W.region ?_
        refine WL.val (OpVal.opv rfl) rfl rfl rfl ?_
        refine WL.val (OpVal.indexAddrB rfl rfl (by omega)) rfl rfl rfl ?_
        (refine WL.store (size := 1) ((List.range 10).map fun j => Value.bool ((boilN bs k s0 (i + 1)).testBit j)) rfl (.head _) rfl rfl rfl (by rw [carC_size]; omega) (by simp [Value.cells, Value.oneCell']) (carC_set (by omega) fun j _ => by (rw [(boilN_spec hs (i + 1) (by omega)).2, (boilN_spec hs i (by omega)).2]; by_cases e : j = i; (rw [if_pos e, e, hb]; simp); (rw [if_neg e]; congr 2; rw [decide_eq_decide.2 (show j < i + 1 ↔ j < i by omega)]))) ?_)
        refine WL.nil ?_
        refine Kblock.normal (Kseq.go ?_)
        skip
        refine W.region ?_
        refine WL.val (OpVal.incr rfl (by omega)) rfl rfl rfl ?_
        refine WL.val (OpVal.opv rfl) rfl rfl rfl ?_
        refine WL.nil ?_
        skip
        exact Kloop.next (i + 1) (by omega) (by omega) ⟨rfl, rfl, rfl, rfl, rfl, rfl, rfl, rfl, rfl, trivial⟩ (by simp) (by repeat (first | exact List.Sublist.refl _ | refine List.Sublist.cons _ ?_ | refine List.Sublist.cons_cons _ ?_))
      · refine W.skip (Kblock.normal (Kseq.go ?_))
        have eb : boilN bs k s0 (i + 1) = boilN bs k s0 i := by simp only [boilN, hb]; rfl
        skip
        refine W.region ?_
        refine WL.val (OpVal.incr rfl (by omega)) rfl rfl rfl ?_
        refine WL.val (OpVal.opv rfl) rfl rfl rfl ?_
        refine WL.nil ?_
        skip
        exact Kloop.next (i + 1) (by omega) (by omega) ⟨rfl, rfl, rfl, rfl, rfl, rfl, rfl, rfl, rfl, trivial⟩ (by simp) (by rw [eb]; exact (by repeat (first | exact List.Sublist.refl _ | refine List.Sublist.cons _ ?_ | refine List.Sublist.cons_cons _ ?_)))
    refine W.exit (Kseq.exit (Kloop.exit (Kblock.here (Kseq.go (W.seq ?_)))))
    have hii : i = r.th := by omega
    subst hii
    obtain ⟨s1, hs1⟩ : ∃ s, boilN bs k s0 r.th = s := ⟨_, rfl⟩
    rw [hs1]
    skip
    refine W.region ?_
    refine WL.val (OpVal.fieldAddrB rfl) rfl rfl rfl ?_
    refine WL.val (OpVal.loadB rfl (.tail _ (.tail _ (.head _))) rfl) rfl rfl rfl ?_
    refine WL.val (OpVal.len rfl hT) rfl rfl rfl ?_
    refine WL.val (OpVal.opv rfl) rfl rfl rfl ?_
    refine WL.nil ?_
    refine Kseq.go (W.block ?_)
    refine W.loop (σ := Nat) (fun i => [(2, .map (some b)), (3, .pointer (some ⟨b3, 0, none⟩)), (4, .pointer (some ⟨b4, 0, none⟩)), (6, .pointer (some ⟨b6, 0, none⟩)), (8, .int .i64 (k : Int)), (26, .int .i64 (r.last + 1)), (27, .int .i64 (k : Int)), (44, tv), (45, .int .i64 (r.tn : Int)), (46, .int .i64 (i : Int))]) (fun _ => [h])
      (fun i => [.blk b6 (carC (touchN r.touches q k s1 i)) 168, .blk b4 (sceneC q) 164, .blk b3 (hcs wv pv kv tv bv sv r) 46]) (fun i => i ≤ r.tn) (fun i => r.tn - i) 0 ⟨rfl, rfl, rfl, rfl, rfl, rfl, rfl, rfl, rfl, rfl, trivial⟩ (by simp) (.refl _) (Nat.zero_le _) ?_
    rintro i hi
    try dsimp only at hi ⊢
    refine W.seq ?_
    refine W.region ?_
    refine WL.val (OpVal.opv rfl) rfl rfl rfl ?_
    refine WL.nil ?_
    refine Kseq.go (W.seq ?_)
    refine W.condD rfl rfl (fun hlt => ?_) (fun hge => ?_)
    · have hil : i < r.tn := by omega
      have hil' : i < r.touches.length := hil
      obtain ⟨A, B, eA, eB, hA10, hB10⟩ := hV.at hil
      obtain ⟨s2, hs2⟩ : ∃ s, touchN r.touches q k s1 i = s := ⟨_, rfl⟩
      rw [hs2]
      have hstep : touchN r.touches q k s1 (i + 1) = if touchB r.touches q k s2 i = true then or2 s2 A B else s2 := by simp only [touchN]; rw [hs2, eA, eB]; rfl
      have htb : touchB r.touches q k s2 i = (decide (q.hours.getD i 0 = (k : Int)) && (s2.testBit A || s2.testBit B)) := by unfold touchB; rw [eA, eB]; rfl
      refine W.skip (Kseq.go (W.seq (W.block (W.seq ?_))))
      refine W.region ?_
      refine WL.val (OpVal.opv rfl) rfl rfl rfl ?_
      refine WL.val (OpVal.indexAddrN rfl rfl hT hil') rfl rfl rfl ?_
      refine WL.val (OpVal.cast (OpVal.loadEA rfl hT (by repeat (first | exact .head _ | refine .tail _ ?_)) hil') (show _ = Value.agg #[vi (A : Int), vi (B : Int), vi (r.touches.getD i default).lo, vi (r.touches.getD i default).hi] from by rw [← eA, ← eB]; rfl)) rfl rfl rfl ?_
      refine WL.alloc rfl rfl rfl (fun b11 => ?_)
      refine WL.val (OpVal.opv rfl) rfl rfl rfl ?_
      refine WL.store [_, _, _, _] rfl (.head _) rfl rfl rfl (Nat.le_of_ble_eq_true rfl) (by first | (simp [Value.cells, Value.oneCell']; done) | exact IsArr.ones hW (by omega) | exact IsArr.ones hP (by omega) | exact IsArr.ones hS (by omega) | exact IsArr.ones hH (by omega) | exact IsArr.ones hL (by omega) | exact IsArr.ones hB (by omega) | exact IsArr.ones hT (by omega) | exact IsArr.ones hm (by omega)) rfl ?_
      refine WL.nil ?_
      refine Kseq.go (W.seq ?_)
      skip
      refine W.toS [(2, .map (some b)), (3, .pointer (some ⟨b3, 0, none⟩)), (4, .pointer (some ⟨b4, 0, none⟩)), (6, .pointer (some ⟨b6, 0, none⟩)), (8, .int .i64 (k : Int)), (11, .pointer (some ⟨b11, 0, none⟩)), (26, .int .i64 (r.last + 1)), (27, .int .i64 (k : Int)), (44, tv), (45, .int .i64 (r.tn : Int)), (46, .int .i64 (i : Int)), (68, .bool (touchB r.touches q k s2 i))] ?_ ?_
      · skip
        refine W.region ?_
        refine WL.val (OpVal.opv rfl) rfl rfl rfl ?_
        refine WL.val (OpVal.fieldAddrB rfl) rfl rfl rfl ?_
        refine WL.val (OpVal.indexAddrB rfl rfl (by omega)) rfl rfl rfl ?_
        refine WL.val (OpVal.loadB rfl (.tail _ (.tail _ (.head _))) (sceneC_hour (by omega) (show i < q.hours.length by rw [hch]; exact hil))) rfl rfl rfl ?_
        refine WL.val (OpVal.opv rfl) rfl rfl rfl ?_
        refine WL.val (OpVal.opv rfl) rfl rfl rfl ?_
        refine WL.val (OpVal.opv rfl) rfl rfl rfl ?_
        refine WL.split rfl rfl (fun g57 => ?_) (fun g57 => ?_)
        · refine WL.val (OpVal.fieldAddrB rfl) rfl rfl rfl ?_
          refine WL.val (OpVal.loadB rfl (.head _) rfl) rfl rfl rfl ?_
          refine WL.val (OpVal.indexAddrB rfl rfl (by omega)) rfl rfl rfl ?_
          refine WL.val (OpVal.loadB rfl (.tail _ (.head _)) (carC_get hA10)) rfl rfl rfl ?_
          refine WL.val (OpVal.opv rfl) rfl rfl rfl ?_
          refine WL.splitN rfl rfl (fun g62 => ?_) (fun g62 => ?_)
          · refine WL.pass rfl rfl rfl ?_
            refine WL.pass rfl rfl rfl ?_
            refine WL.pass rfl rfl rfl ?_
            refine WL.pass rfl rfl rfl ?_
            refine WL.val (OpVal.opv rfl) rfl rfl rfl ?_
            refine WL.val (OpVal.opv rfl) rfl rfl rfl ?_
            refine WL.nil ?_
            skip
            exact Keff.intro ⟨rfl, rfl, rfl, rfl, rfl, rfl, rfl, rfl, rfl, rfl, rfl, congrArg (fun b => some (Value.bool b)) (by rw [htb, show s2.testBit A = (1 &&& s2 >>> A != 0) from rfl]; first | (rw [decide_eq_true g57, bne_iff_ne.2 g62]; rfl) | (rw [decide_eq_true g57, g62]; rfl) | (rw [decide_eq_false g57]; rfl)), trivial⟩ (by simp) (by repeat (first | exact List.Sublist.refl _ | refine List.Sublist.cons _ ?_ | refine List.Sublist.cons_cons _ ?_))
          · refine WL.val (OpVal.fieldAddrB rfl) rfl rfl rfl ?_
            refine WL.val (OpVal.loadB rfl (.head _) rfl) rfl rfl rfl ?_
            refine WL.val (OpVal.indexAddrB rfl rfl (by omega)) rfl rfl rfl ?_
            refine WL.val (OpVal.loadB rfl (.tail _ (.head _)) (carC_get hB10)) rfl rfl rfl ?_
            refine WL.val (OpVal.opv rfl) rfl rfl rfl ?_
            refine WL.val (OpVal.opv rfl) rfl rfl rfl ?_
            refine WL.nil ?_
            skip
            exact Keff.intro ⟨rfl, rfl, rfl, rfl, rfl, rfl, rfl, rfl, rfl, rfl, rfl, congrArg (fun b => some (Value.bool b)) (by rw [htb, show s2.testBit A = (1 &&& s2 >>> A != 0) from rfl]; first | (rw [decide_eq_true g57, bne_iff_ne.2 g62]; rfl) | (rw [decide_eq_true g57, g62]; rfl) | (rw [decide_eq_false g57]; rfl)), trivial⟩ (by simp) (by repeat (first | exact List.Sublist.refl _ | refine List.Sublist.cons _ ?_ | refine List.Sublist.cons_cons _ ?_))
        · refine WL.pass rfl rfl rfl ?_
          refine WL.pass rfl rfl rfl ?_
          refine WL.pass rfl rfl rfl ?_
          refine WL.pass rfl rfl rfl ?_
          refine WL.pass rfl rfl rfl ?_
          refine WL.pass rfl rfl rfl ?_
          refine WL.pass rfl rfl rfl ?_
          refine WL.pass rfl rfl rfl ?_
          refine WL.pass rfl rfl rfl ?_
          refine WL.pass rfl rfl rfl ?_
          refine WL.val (OpVal.opv rfl) rfl rfl rfl ?_
          refine WL.nil ?_
          skip
          exact Keff.intro ⟨rfl, rfl, rfl, rfl, rfl, rfl, rfl, rfl, rfl, rfl, rfl, congrArg (fun b => some (Value.bool b)) (by rw [htb, show s2.testBit A = (1 &&& s2 >>> A != 0) from rfl]; first | (rw [decide_eq_true g57, bne_iff_ne.2 g62]; rfl) | (rw [decide_eq_true g57, g62]; rfl) | (rw [decide_eq_false g57]; rfl)), trivial⟩ (by simp) (by repeat (first | exact List.Sublist.refl _ | refine List.Sublist.cons _ ?_ | refine List.Sublist.cons_cons _ ?_))
      refine Kseq.go ?_
      refine W.cond rfl rfl (fun hb => ?_) (fun hb => ?_)
      · rw [if_pos hb] at hstep
        skip
        refine W.draw2s 6 5 [.blk b11 #[vi (A : Int), vi (B : Int), vi (r.touches.getD i default).lo, vi (r.touches.getD i default).hi] 129, .blk b6 (carC (or1 s2 A)) 168, .blk b4 (sceneC q) 164, .blk b3 (hcs wv pv kv tv bv sv r) 46] (by kernel_rfl) (by kernel_rfl) (by kernel_rfl) rfl ?_
        refine DJ2.val [] (.inr (OpVal.fieldAddrB rfl)) (.inl rfl) rfl (fun _ => rfl) rfl rfl rfl (fun _ => rfl) rfl ?_
        refine DJ2.val [] (.inr (OpVal.loadB rfl (.head _) rfl)) (.inl rfl) rfl (fun _ => rfl) rfl rfl rfl (fun _ => rfl) rfl ?_
        refine DJ2.val [] (.inr (OpVal.fieldAddrB rfl)) (.inr (fun g => OpVal.fieldAddrB rfl)) rfl (fun _ => rfl) rfl rfl rfl (fun _ => rfl) rfl ?_
        refine DJ2.val [] (.inr (OpVal.loadB rfl (.head _) rfl)) (.inr (fun g => OpVal.loadB rfl (.head _) rfl)) rfl (fun _ => rfl) rfl rfl rfl (fun _ => rfl) rfl ?_
        refine DJ2.val [] (.inr (OpVal.indexAddrB rfl rfl (by omega))) (.inl rfl) rfl (fun _ => rfl) rfl rfl rfl (fun _ => rfl) rfl ?_
        refine DJ2.eff [(73, _)] ⟨rfl, trivial⟩ rfl rfl rfl (fun M2 hM2 => ?_) ?_
        · (refine WL.store (size := 1) ((List.range 10).map fun j => Value.bool ((or1 s2 A).testBit j)) rfl (.tail _ (.head _)) rfl rfl rfl (by rw [carC_size]; omega) (by simp [Value.cells, Value.oneCell']) (carC_set (by omega) fun j _ => or_bit1) ?_; exact WL.nil ⟨(), Keff.intro (by repeat (first | exact trivial | refine ⟨rfl, ?_⟩)) (fun _ h => h) (.refl _)⟩)
        refine DJ2.nil (fun g => ?_)
        refine WL.val (OpVal.indexAddrB rfl rfl (by omega)) rfl rfl rfl ?_
        (refine WL.store (size := 1) ((List.range 10).map fun j => Value.bool ((or2 s2 A B).testBit j)) rfl (.tail _ (.head _)) rfl rfl rfl (by rw [carC_size]; omega) (by simp [Value.cells, Value.oneCell']) (carC_set (by omega) fun j _ => or_bit) ?_)
        refine WL.nil ?_
        refine Kblock.normal (Kseq.go ?_)
        skip
        refine W.region ?_
        refine WL.val (OpVal.incr rfl (by omega)) rfl rfl rfl ?_
        refine WL.val (OpVal.opv rfl) rfl rfl rfl ?_
        refine WL.nil ?_
        skip
        exact Kloop.next (i + 1) (by omega) (by omega) ⟨rfl, rfl, rfl, rfl, rfl, rfl, rfl, rfl, rfl, rfl, trivial⟩ (by simp) (by rw [hstep]; exact (by repeat (first | exact List.Sublist.refl _ | refine List.Sublist.cons _ ?_ | refine List.Sublist.cons_cons _ ?_)))
      · rw [if_neg (by simpa using hb)] at hstep
        refine W.skip (Kblock.normal (Kseq.go ?_))
        skip
        refine W.region ?_
        refine WL.val (OpVal.incr rfl (by omega)) rfl rfl rfl ?_
        refine WL.val (OpVal.opv rfl) rfl rfl rfl ?_
        refine WL.nil ?_
        skip
        exact Kloop.next (i + 1) (by omega) (by omega) ⟨rfl, rfl, rfl, rfl, rfl, rfl, rfl, rfl, rfl, rfl, trivial⟩ (by simp) (by rw [hstep]; exact (by repeat (first | exact List.Sublist.refl _ | refine List.Sublist.cons _ ?_ | refine List.Sublist.cons_cons _ ?_)))
    refine W.exit (Kseq.exit (Kloop.exit (Kblock.here (Kblock.normal (Kseq.go ?_)))))
    have hii : i = r.tn := by omega
    subst hii
    have hnext : carN r.sick r.touches r.th q bs (k + 1) = touchN r.touches q k s1 r.tn := by simp only [carN]; rw [hs0, hs1]; rfl
    skip
    refine W.region ?_
    refine WL.val (OpVal.incr rfl (by omega)) rfl rfl rfl ?_
    refine WL.val (OpVal.opv rfl) rfl rfl rfl ?_
    refine WL.nil ?_
    skip
    exact Kloop.next (k + 1) (by omega) (by omega) ⟨rfl, rfl, rfl, rfl, rfl, rfl, trivial⟩ (by simp) (by rw [hnext]; exact (by repeat (first | exact List.Sublist.refl _ | refine List.Sublist.cons _ ?_ | refine List.Sublist.cons_cons _ ?_)))
  refine W.exit (Kseq.exit (Kloop.exit (Kblock.here (Kseq.go (W.seq ?_)))))
  have hkk : k = L := by omega
  subst hkk
  skip
  refine W.region ?_
  refine WL.val (OpVal.loadBW rfl (.head _) (carC_size _)) rfl rfl rfl ?_
  (refine WL.storeAll rfl (.head _) rfl rfl (carC_size _) (carC_size _) (carC_one _) ?_)
  refine WL.nil ?_
  refine Kseq.go ?_
  refine W.ret ?_; skip
  refine ⟨.inl rfl, [_], h, ⟨.agg inferInstance inferInstance rfl (.head _) (carC_size _), trivial⟩, (by repeat (first | exact .head _ | refine .tail _ ?_)), ?_⟩
  rfl
end Go.Proofs.YtdnbkjgbehakpaaGreat
