/- The program's functions of chapter 6: play. -/
import Derived.Test.YtdnbkjgbehakpaaT110
import Derived.Test.YtdnbkjgbehakpaaP33
namespace Go.Proofs.Ytdnbkjgbehakpaa
open Go Go.Eng Go.RowKit

/-- What carries a sickness, as the program has it. -/
def carC (s : Nat) : Array Value := ((List.range 10).map fun i => Value.bool (s.testBit i)).toArray
abbrev carV (s : Nat) : Value := .agg (carC s)
theorem carC_zero : carC 0 = #[.bool false, .bool false, .bool false, .bool false, .bool false, .bool false, .bool false, .bool false, .bool false, .bool false] := by
  have e : (fun i : Nat => Value.bool (Nat.testBit 0 i)) = fun _ => Value.bool false := funext fun i => by rw [Nat.zero_testBit]
  unfold carC; rw [e]; rfl
theorem carC_size (s : Nat) : (carC s).size = 10 := by simp [carC]
theorem carC_one (s : Nat) : ∀ u ∈ (carC s).toList, u.oneCell' = true := by
  intro u hu
  simp only [carC, List.mem_map] at hu
  obtain ⟨x, _, rfl⟩ := hu
  rfl
theorem carC_get {s i : Nat} (h : i < 10) : (carC s)[0 + i]? = some (.bool (s.testBit i)) := by simp [carC, h]
theorem carC_set {s s' i : Nat} {b : Bool} (hi : i < 10) (h : ∀ j, j < 10 → s'.testBit j = if j = i then b else s.testBit j) : (carC s).toList.take (0 + i) ++ ((Value.bool b).cells.toList ++ (carC s).toList.drop (0 + i + 1)) = (List.range 10).map fun j => Value.bool (s'.testBit j) := by
  have e : (carC s).toList.take (0 + i) ++ ((Value.bool b).cells.toList ++ (carC s).toList.drop (0 + i + 1)) = (((List.range 10).map fun j => Value.bool (s.testBit j)).set i (.bool b)) := by
    rw [List.set_eq_take_append_cons_drop, if_pos (by simpa using hi), Nat.zero_add]; rfl
  rw [e]
  apply List.ext_getElem (by simp)
  intro j h1 h2
  have hj : j < 10 := by simpa using h2
  rw [List.getElem_set]
  simp only [List.getElem_map, List.getElem_range]
  rw [h j hj]
  by_cases hji : i = j
  · rw [if_pos hji, if_pos hji.symm]
  · rw [if_neg hji, if_neg (fun e => hji e.symm)]
def or1 (s A : Nat) : Nat := s ||| 2 ^ A
def or2 (s A B : Nat) : Nat := s ||| (2 ^ A ||| 2 ^ B)
theorem or_bit {s A B j : Nat} : (or2 s A B).testBit j = if j = B then true else (or1 s A).testBit j := by
  unfold or1 or2
  rw [Nat.testBit_or, Nat.testBit_or, Nat.testBit_or, Nat.testBit_two_pow, Nat.testBit_two_pow]
  by_cases h : j = B
  · rw [if_pos h, decide_eq_true h.symm, Bool.or_true, Bool.or_true]
  · rw [if_neg h, decide_eq_false (p := B = j) (fun e => h e.symm), Bool.or_false]
theorem or_bit1 {s A j : Nat} : (or1 s A).testBit j = if j = A then true else s.testBit j := by
  unfold or1
  rw [Nat.testBit_or, Nat.testBit_two_pow]
  by_cases h : j = A
  · rw [if_pos h, decide_eq_true h.symm, Bool.or_true]
  · rw [if_neg h, decide_eq_false (p := A = j) (fun e => h e.symm), Bool.or_false]
theorem ValidH.thW {r : House} (hV : ValidH r) : r.thingsW = (r.th : Int) := by
  have h1 := hV.th.1
  rw [FitH.eq ⟨by have := hV.others; have h2 := hV.th.1; omega, by have := hV.others; omega⟩]; exact h1.symm
theorem ValidH.at {r : House} (hV : ValidH r) {k : Nat} (hk : k < r.tn) : ∃ A B : Nat, (r.touches.getD k default).a = A ∧ (r.touches.getD k default).b = B ∧ A < 10 ∧ B < 10 := by
  have h1 := touchOk_iff.1 (hV.touch k hk)
  have h2 := hV.others
  exact ⟨(r.touches.getD k default).a.toNat, (r.touches.getD k default).b.toNat, by omega, by omega, by omega, by omega⟩
/-- play -/
theorem play_any {h : Mem} {v : Value} {r : House} {q : Course} {b : Nat} {bs : List Boil} (hv : IsHouse h v r) (hV : ValidH r) (hc : FitC r q) (hm : IsBm h b bs) :
    FnV Try.prog 20 #[v, sceneV q, .map (some b)] h (carV (carN r.sick r.touches r.th q bs (r.last + 1).toNat)) := by
  have hv' := hv
  have hco := hc.owners
  have hch := hc.hours
  have h7 : r.np ≤ 7 := hV.np7
  have h6 : r.tn ≤ 6 := hV.touchN
  have h10 := hV.th
  have hla := hV.last
  have hsz := sceneC_size (c := q) (by omega) (by omega)
  have hth := hV.thW
  have hlt2 : ∀ k, carN r.sick r.touches r.th q bs k < 2 ^ 64 := fun k => Nat.lt_of_lt_of_le (carN_lt (by omega) hV.touchLt (by omega) k) (Nat.pow_le_pow_right (by omega) (by omega))
  obtain ⟨wv, pv, kv, tv, bv, sv, f, rfl, hA⟩ := hv
  have hT := hA.T
  obtain ⟨L, hL⟩ : ∃ L : Nat, r.last + 1 = (L : Int) := ⟨(r.last + 1).toNat, by omega⟩
  have hL' : (r.last + 1).toNat = L := by omega
  rw [hL']
  refine FnR.val ?_
  refine FnR.of_W (n := 78) Try.func20 rfl rfl (Nat.le_of_ble_eq_true rfl) fun c hr hD hF => ?_
  refine W.seq ?_; refine W.region ?_
  refine WL.box rfl rfl rfl rfl (fun b3 => ?_)
  refine WL.box rfl rfl rfl rfl (fun b4 => ?_)
  refine WL.alloc rfl rfl rfl (fun b6 => ?_)
  refine WL.nil ?_
  refine Kseq.go (W.seq (W.seq ?_))
  refine W.region ?_; refine .val (.loadBW rfl (.tail _ (.tail _ (.head _))) rfl) rfl rfl rfl ?_; refine .val (.call rfl (fun m hm => pieces6_any (hv'.le (by repeat first | exact hm.1 | replace hm := hm.2)))) rfl rfl rfl ?_; refine .o rfl ?_; refine WL.nil ?_
  refine Kseq.go (W.block ?_)
  refine W.loop (σ := Nat) (fun k => [(2, .map (some b)), (3, .pointer (some ⟨b3, 0, none⟩)), (4, .pointer (some ⟨b4, 0, none⟩)), (6, .pointer (some ⟨b6, 0, none⟩)), (13, .int .i64 (r.np : Int)), (14, .int .i64 (k : Int))]) (fun _ => [h])
    (fun k => [.blk b6 (carC (bset k fun i => decide (q.owners.getD i 0 ∈ r.sick))) 67, .blk b4 (sceneC q) 63, .blk b3 (hcs wv pv kv tv bv sv r) 34]) (fun k => k ≤ r.np) (fun k => r.np - k) 0 ⟨rfl, rfl, rfl, rfl, rfl, rfl, trivial⟩ (by simp) (by rw [show (bset 0 fun i => decide (q.owners.getD i 0 ∈ r.sick)) = 0 from rfl, carC_zero]; exact .refl _) (Nat.zero_le _) ?_
  rintro k hk
  try dsimp only at hk ⊢
  refine W.seq ?_; refine W.region ?_; refine .o rfl ?_; refine WL.nil ?_
  refine Kseq.go (W.seq ?_)
  refine W.condD rfl rfl (fun hlt => ?_) (fun hge => ?_)
  · have hkl : k < r.np := by omega
    refine W.skip (Kseq.go (W.seq (W.block (W.seq ?_))))
    refine W.region ?_
    iterate 2 refine .o rfl ?_
    refine WL.nil ?_; refine Kseq.go ?_; refine W.region ?_; refine .o rfl ?_; refine .val (.loadBW rfl (.tail _ (.tail _ (.head _))) rfl) rfl rfl rfl ?_; refine .val (.loadBW rfl (.tail _ (.head _)) hsz) rfl rfl rfl ?_; refine .o rfl ?_; refine .val (.call rfl (fun m hm => sick_any (hv'.le (by repeat first | exact hm.1 | replace hm := hm.2)) hc h7 h6 hkl)) rfl rfl rfl ?_; refine .val (.indexAddrB rfl rfl (by omega)) rfl rfl rfl ?_
    (refine WL.store (size := 1) ((List.range 10).map fun j => Value.bool ((bset (k + 1) fun i => decide (q.owners.getD i 0 ∈ r.sick)).testBit j)) rfl (.head _) rfl rfl rfl (by rw [carC_size]; omega) (by simp [Value.cells, Value.oneCell']) (carC_set (by omega) fun j _ => by (rw [bset_bit, bset_bit]; by_cases e : j = k; (rw [if_pos e, e]; simp); (rw [if_neg e]; congr 1; rw [decide_eq_decide]; omega))) ?_)
    refine WL.nil ?_
    refine Kblock.normal (Kseq.go ?_)
    refine W.region ?_; refine .val (.incr rfl (by omega)) rfl rfl rfl ?_; refine .o rfl ?_; refine WL.nil ?_
    exact Kloop.next (k + 1) (by omega) (by omega) ⟨rfl, rfl, rfl, rfl, rfl, rfl, trivial⟩ (by simp) (by repeat first | exact .refl _ | refine .cons _ ?_)
  refine W.exit (Kseq.exit (Kloop.exit (Kblock.here (Kseq.go (W.seq (W.seq ?_))))))
  have hkk : k = r.np := by omega
  subst hkk
  refine W.region ?_; refine .val (.fieldAddrB rfl) rfl rfl rfl ?_; refine .val (.loadB rfl (.tail _ (.tail _ (.head _))) rfl) rfl rfl rfl ?_; refine .val (.add rfl rfl (by omega) (by omega)) rfl rfl rfl ?_; refine .o rfl ?_; refine WL.nil ?_
  refine Kseq.go (W.block ?_)
  refine W.loop (σ := Nat) (fun k => [(2, .map (some b)), (3, .pointer (some ⟨b3, 0, none⟩)), (4, .pointer (some ⟨b4, 0, none⟩)), (6, .pointer (some ⟨b6, 0, none⟩)), (26, .int .i64 (r.last + 1)), (27, .int .i64 (k : Int))]) (fun _ => [h])
    (fun k => [.blk b6 (carC (carN r.sick r.touches r.th q bs k)) 67, .blk b4 (sceneC q) 63, .blk b3 (hcs wv pv kv tv bv sv r) 34]) (fun k => k ≤ L) (fun k => L - k) 0 ⟨rfl, rfl, rfl, rfl, rfl, rfl, trivial⟩ (by simp) (by rw [← hco]; exact .refl _) (Nat.zero_le _) ?_
  rintro k hk
  try dsimp only at hk ⊢
  refine W.seq ?_; refine W.region ?_; refine .o rfl ?_; refine WL.nil ?_
  refine Kseq.go (W.seq ?_)
  refine W.condD rfl rfl (fun hlt => ?_) (fun hge => ?_)
  · have hkl : k < L := by omega
    refine W.skip (Kseq.go (W.seq (W.block (W.seq ?_))))
    refine W.region ?_
    iterate 2 refine .o rfl ?_
    refine WL.nil ?_
    refine Kseq.go (W.seq (W.seq ?_))
    refine W.region ?_; refine .val (.loadBW rfl (.tail _ (.tail _ (.head _))) rfl) rfl rfl rfl ?_; refine .val (.cast (.call rfl (fun m hm => things6_any (hv'.le (by repeat first | exact hm.1 | replace hm := hm.2)))) (congrArg (Value.int .i64) hth)) rfl rfl rfl ?_; refine .o rfl ?_; refine WL.nil ?_
    refine Kseq.go (W.block ?_)
    have hs := hlt2 k
    obtain ⟨s0, hs0⟩ : ∃ s, carN r.sick r.touches r.th q bs k = s := ⟨_, rfl⟩
    rw [hs0] at hs ⊢
    refine W.loop (σ := Nat) (fun i => [(2, .map (some b)), (3, .pointer (some ⟨b3, 0, none⟩)), (4, .pointer (some ⟨b4, 0, none⟩)), (6, .pointer (some ⟨b6, 0, none⟩)), (8, .int .i64 (k : Int)), (26, .int .i64 (r.last + 1)), (27, .int .i64 (k : Int)), (31, .int .i64 (r.th : Int)), (32, .int .i64 (i : Int))]) (fun _ => [h])
      (fun i => [.blk b6 (carC (boilN bs k s0 i)) 67, .blk b4 (sceneC q) 63, .blk b3 (hcs wv pv kv tv bv sv r) 34]) (fun i => i ≤ r.th) (fun i => r.th - i) 0 ⟨rfl, rfl, rfl, rfl, rfl, rfl, rfl, rfl, rfl, trivial⟩ (by simp) (.refl _) (Nat.zero_le _) ?_
    rintro i hi
    try dsimp only at hi ⊢
    refine W.seq ?_; refine W.region ?_; refine .o rfl ?_; refine WL.nil ?_
    refine Kseq.go (W.seq ?_)
    refine W.condD rfl rfl (fun hlt => ?_) (fun hge => ?_)
    · have hil : i < r.th := by omega
      refine W.skip (Kseq.go (W.seq (W.block (W.seq ?_))))
      refine W.region ?_
      iterate 2 refine .o rfl ?_
      refine WL.nil ?_
      refine Kseq.go (W.seq ?_)
      refine W.region ?_
      iterate 3 refine .o rfl ?_
      refine .val (.cast (.build2 rfl rfl) (show _ = vq [(i : Int), (k : Int)] from rfl)) rfl rfl rfl ?_; refine .val (.cast (.lookupP (k := [(i : Int), (k : Int)]) rfl rfl hm (by repeat constructor) rfl) (show _ = Value.bool (isBoiled bs (i : Int) (k : Int)) from rfl)) rfl rfl rfl ?_; refine WL.nil ?_; refine Kseq.go ?_
      refine W.cond rfl rfl (fun hb => ?_) (fun hb => ?_)
      · skip
        refine W.region ?_; refine .o rfl ?_; refine .val (.indexAddrB rfl rfl (by omega)) rfl rfl rfl ?_
        (refine WL.store (size := 1) ((List.range 10).map fun j => Value.bool ((boilN bs k s0 (i + 1)).testBit j)) rfl (.head _) rfl rfl rfl (by rw [carC_size]; omega) (by simp [Value.cells, Value.oneCell']) (carC_set (by omega) fun j _ => by (rw [(boilN_spec hs (i + 1) (by omega)).2, (boilN_spec hs i (by omega)).2]; by_cases e : j = i; (rw [if_pos e, e, hb]; simp); (rw [if_neg e]; congr 2; rw [decide_eq_decide.2 (show j < i + 1 ↔ j < i by omega)]))) ?_)
        refine WL.nil ?_
        refine Kblock.normal (Kseq.go ?_)
        refine W.region ?_; refine .val (.incr rfl (by omega)) rfl rfl rfl ?_; refine .o rfl ?_; refine WL.nil ?_
        exact Kloop.next (i + 1) (by omega) (by omega) ⟨rfl, rfl, rfl, rfl, rfl, rfl, rfl, rfl, rfl, trivial⟩ (by simp) (by repeat first | exact .refl _ | refine .cons _ ?_)
      · refine W.skip (Kblock.normal (Kseq.go ?_))
        have eb : boilN bs k s0 (i + 1) = boilN bs k s0 i := by simp only [boilN, hb]; rfl
        refine W.region ?_; refine .val (.incr rfl (by omega)) rfl rfl rfl ?_; refine .o rfl ?_; refine WL.nil ?_
        exact Kloop.next (i + 1) (by omega) (by omega) ⟨rfl, rfl, rfl, rfl, rfl, rfl, rfl, rfl, rfl, trivial⟩ (by simp) (by rw [eb]; exact (by repeat first | exact .refl _ | refine .cons _ ?_))
    refine W.exit (Kseq.exit (Kloop.exit (Kblock.here (Kseq.go (W.seq ?_)))))
    have hii : i = r.th := by omega
    subst hii
    obtain ⟨s1, hs1⟩ : ∃ s, boilN bs k s0 r.th = s := ⟨_, rfl⟩
    rw [hs1]
    refine W.region ?_; refine .val (.fieldAddrB rfl) rfl rfl rfl ?_; refine .val (.loadB rfl (.tail _ (.tail _ (.head _))) rfl) rfl rfl rfl ?_; refine .val (.len rfl hT) rfl rfl rfl ?_; refine .o rfl ?_; refine WL.nil ?_
    refine Kseq.go (W.block ?_)
    refine W.loop (σ := Nat) (fun i => [(2, .map (some b)), (3, .pointer (some ⟨b3, 0, none⟩)), (4, .pointer (some ⟨b4, 0, none⟩)), (6, .pointer (some ⟨b6, 0, none⟩)), (8, .int .i64 (k : Int)), (26, .int .i64 (r.last + 1)), (27, .int .i64 (k : Int)), (44, tv), (45, .int .i64 (r.tn : Int)), (46, .int .i64 (i : Int))]) (fun _ => [h])
      (fun i => [.blk b6 (carC (touchN r.touches q k s1 i)) 67, .blk b4 (sceneC q) 63, .blk b3 (hcs wv pv kv tv bv sv r) 34]) (fun i => i ≤ r.tn) (fun i => r.tn - i) 0 ⟨rfl, rfl, rfl, rfl, rfl, rfl, rfl, rfl, rfl, rfl, trivial⟩ (by simp) (.refl _) (Nat.zero_le _) ?_
    rintro i hi
    try dsimp only at hi ⊢
    refine W.seq ?_; refine W.region ?_; refine .o rfl ?_; refine WL.nil ?_
    refine Kseq.go (W.seq ?_)
    refine W.condD rfl rfl (fun hlt => ?_) (fun hge => ?_)
    · have hil : i < r.tn := by omega
      have hil' : i < r.touches.length := hil
      obtain ⟨A, B, eA, eB, hA10, hB10⟩ := hV.at hil
      obtain ⟨s2, hs2⟩ : ∃ s, touchN r.touches q k s1 i = s := ⟨_, rfl⟩
      rw [hs2]
      have hstep : touchN r.touches q k s1 (i + 1) = if touchB r.touches q k s2 i = true then or2 s2 A B else s2 := by simp only [touchN]; rw [hs2, eA, eB]; rfl
      have htb : touchB r.touches q k s2 i = (decide (q.hours.getD i 0 = (k : Int)) && (s2.testBit A || s2.testBit B)) := by unfold touchB; rw [eA, eB]; rfl
      refine W.skip (Kseq.go (W.seq (W.block (W.seq ?_))))
      refine W.region ?_; refine .o rfl ?_; refine .val (.indexAddrN rfl rfl hT hil') rfl rfl rfl ?_
      refine .val (.cast (.loadEA rfl hT (by repeat constructor) hil') (show _ = Value.agg #[vi (A : Int), vi (B : Int), vi (r.touches.getD i default).lo, vi (r.touches.getD i default).hi] from by rw [← eA, ← eB]; rfl)) rfl rfl rfl ?_
      refine WL.alloc rfl rfl rfl (fun b11 => ?_)
      refine .o rfl ?_
      refine WL.store [_, _, _, _] rfl (.head _) rfl rfl rfl (Nat.le_of_ble_eq_true rfl) (by first | (simp [Value.cells, Value.oneCell']; done) | exact IsArr.ones hW (by omega) | exact IsArr.ones hP (by omega) | exact IsArr.ones hS (by omega) | exact IsArr.ones hH (by omega) | exact IsArr.ones hL (by omega) | exact IsArr.ones hB (by omega) | exact IsArr.ones hT (by omega) | exact IsArr.ones hm (by omega)) rfl ?_
      refine WL.nil ?_
      refine Kseq.go (W.seq ?_)
      refine W.toS [(2, .map (some b)), (3, .pointer (some ⟨b3, 0, none⟩)), (4, .pointer (some ⟨b4, 0, none⟩)), (6, .pointer (some ⟨b6, 0, none⟩)), (8, .int .i64 (k : Int)), (11, .pointer (some ⟨b11, 0, none⟩)), (26, .int .i64 (r.last + 1)), (27, .int .i64 (k : Int)), (44, tv), (45, .int .i64 (r.tn : Int)), (46, .int .i64 (i : Int)), (68, .bool (touchB r.touches q k s2 i))] ?_ ?_
      · skip
        refine W.region ?_; refine .o rfl ?_; refine .val (.fieldAddrB rfl) rfl rfl rfl ?_; refine .val (.indexAddrB rfl rfl (by omega)) rfl rfl rfl ?_
        refine .val (.loadB rfl (.tail _ (.tail _ (.head _))) (sceneC_hour (by omega) (show i < q.hours.length by rw [hch]; exact hil))) rfl rfl rfl ?_
        iterate 3 refine .o rfl ?_
        refine WL.split rfl rfl (fun g57 => ?_) (fun g57 => ?_)
        · refine .val (.fieldAddrB rfl) rfl rfl rfl ?_
          refine .val (.loadB rfl (.head _) rfl) rfl rfl rfl ?_; refine .val (.indexAddrB rfl rfl (by omega)) rfl rfl rfl ?_; refine .val (.loadB rfl (.tail _ (.head _)) (carC_get hA10)) rfl rfl rfl ?_; refine .o rfl ?_
          refine WL.splitN rfl rfl (fun g62 => ?_) (fun g62 => ?_)
          · refine WL.pass rfl rfl rfl ?_
            refine WL.pass rfl rfl rfl ?_; refine WL.pass rfl rfl rfl ?_; refine WL.pass rfl rfl rfl ?_
            iterate 2 refine .o rfl ?_
            refine WL.nil ?_
            exact Keff.intro ⟨rfl, rfl, rfl, rfl, rfl, rfl, rfl, rfl, rfl, rfl, rfl, congrArg (fun b => some (Value.bool b)) (by rw [htb, show s2.testBit A = (1 &&& s2 >>> A != 0) from rfl]; first | (rw [decide_eq_true g57, bne_iff_ne.2 g62]; rfl) | (rw [decide_eq_true g57, g62]; rfl) | (rw [decide_eq_false g57]; rfl)), trivial⟩ (by simp) (by repeat first | exact .refl _ | refine .cons _ ?_)
          · refine .val (.fieldAddrB rfl) rfl rfl rfl ?_
            refine .val (.loadB rfl (.head _) rfl) rfl rfl rfl ?_; refine .val (.indexAddrB rfl rfl (by omega)) rfl rfl rfl ?_; refine .val (.loadB rfl (.tail _ (.head _)) (carC_get hB10)) rfl rfl rfl ?_
            iterate 2 refine .o rfl ?_
            refine WL.nil ?_
            exact Keff.intro ⟨rfl, rfl, rfl, rfl, rfl, rfl, rfl, rfl, rfl, rfl, rfl, congrArg (fun b => some (Value.bool b)) (by rw [htb, show s2.testBit A = (1 &&& s2 >>> A != 0) from rfl]; first | (rw [decide_eq_true g57, bne_iff_ne.2 g62]; rfl) | (rw [decide_eq_true g57, g62]; rfl) | (rw [decide_eq_false g57]; rfl)), trivial⟩ (by simp) (by repeat first | exact .refl _ | refine .cons _ ?_)
        · refine WL.pass rfl rfl rfl ?_
          refine WL.pass rfl rfl rfl ?_; refine WL.pass rfl rfl rfl ?_; refine WL.pass rfl rfl rfl ?_; refine WL.pass rfl rfl rfl ?_; refine WL.pass rfl rfl rfl ?_; refine WL.pass rfl rfl rfl ?_; refine WL.pass rfl rfl rfl ?_; refine WL.pass rfl rfl rfl ?_; refine WL.pass rfl rfl rfl ?_; refine .o rfl ?_; refine WL.nil ?_
          exact Keff.intro ⟨rfl, rfl, rfl, rfl, rfl, rfl, rfl, rfl, rfl, rfl, rfl, congrArg (fun b => some (Value.bool b)) (by rw [htb, show s2.testBit A = (1 &&& s2 >>> A != 0) from rfl]; first | (rw [decide_eq_true g57, bne_iff_ne.2 g62]; rfl) | (rw [decide_eq_true g57, g62]; rfl) | (rw [decide_eq_false g57]; rfl)), trivial⟩ (by simp) (by repeat first | exact .refl _ | refine .cons _ ?_)
      refine Kseq.go ?_
      refine W.cond rfl rfl (fun hb => ?_) (fun hb => ?_)
      · rw [if_pos hb] at hstep
        refine W.draw2s 6 5 [.blk b11 #[vi (A : Int), vi (B : Int), vi (r.touches.getD i default).lo, vi (r.touches.getD i default).hi] 52, .blk b6 (carC (or1 s2 A)) 67, .blk b4 (sceneC q) 63, .blk b3 (hcs wv pv kv tv bv sv r) 34] (by kernel_rfl) (by kernel_rfl) (by kernel_rfl) rfl ?_; refine DJ2.val [] (.inr (OpVal.fieldAddrB rfl)) (.inl rfl) rfl (fun _ => rfl) rfl rfl rfl (fun _ => rfl) rfl ?_; refine DJ2.val [] (.inr (OpVal.loadB rfl (.head _) rfl)) (.inl rfl) rfl (fun _ => rfl) rfl rfl rfl (fun _ => rfl) rfl ?_; refine DJ2.val [] (.inr (OpVal.fieldAddrB rfl)) (.inr (fun g => OpVal.fieldAddrB rfl)) rfl (fun _ => rfl) rfl rfl rfl (fun _ => rfl) rfl ?_; refine DJ2.val [] (.inr (OpVal.loadB rfl (.head _) rfl)) (.inr (fun g => OpVal.loadB rfl (.head _) rfl)) rfl (fun _ => rfl) rfl rfl rfl (fun _ => rfl) rfl ?_; refine DJ2.val [] (.inr (OpVal.indexAddrB rfl rfl (by omega))) (.inl rfl) rfl (fun _ => rfl) rfl rfl rfl (fun _ => rfl) rfl ?_
        refine DJ2.eff [(73, _)] ⟨rfl, trivial⟩ rfl rfl rfl (fun M2 hM2 => ?_) ?_
        · (refine WL.store (size := 1) ((List.range 10).map fun j => Value.bool ((or1 s2 A).testBit j)) rfl (.tail _ (.head _)) rfl rfl rfl (by rw [carC_size]; omega) (by simp [Value.cells, Value.oneCell']) (carC_set (by omega) fun j _ => or_bit1) ?_; exact WL.nil ⟨(), Keff.intro (by repeat (first | exact trivial | refine ⟨rfl, ?_⟩)) (fun _ h => h) (.refl _)⟩)
        refine DJ2.nil (fun g => ?_)
        refine .val (.indexAddrB rfl rfl (by omega)) rfl rfl rfl ?_
        (refine WL.store (size := 1) ((List.range 10).map fun j => Value.bool ((or2 s2 A B).testBit j)) rfl (.tail _ (.head _)) rfl rfl rfl (by rw [carC_size]; omega) (by simp [Value.cells, Value.oneCell']) (carC_set (by omega) fun j _ => or_bit) ?_)
        refine WL.nil ?_
        refine Kblock.normal (Kseq.go ?_)
        refine W.region ?_; refine .val (.incr rfl (by omega)) rfl rfl rfl ?_; refine .o rfl ?_; refine WL.nil ?_
        exact Kloop.next (i + 1) (by omega) (by omega) ⟨rfl, rfl, rfl, rfl, rfl, rfl, rfl, rfl, rfl, rfl, trivial⟩ (by simp) (by rw [hstep]; exact (by repeat first | exact .refl _ | refine .cons _ ?_))
      · rw [if_neg (by simpa using hb)] at hstep
        refine W.skip (Kblock.normal (Kseq.go ?_))
        refine W.region ?_; refine .val (.incr rfl (by omega)) rfl rfl rfl ?_; refine .o rfl ?_; refine WL.nil ?_
        exact Kloop.next (i + 1) (by omega) (by omega) ⟨rfl, rfl, rfl, rfl, rfl, rfl, rfl, rfl, rfl, rfl, trivial⟩ (by simp) (by rw [hstep]; exact (by repeat first | exact .refl _ | refine .cons _ ?_))
    refine W.exit (Kseq.exit (Kloop.exit (Kblock.here (Kblock.normal (Kseq.go ?_)))))
    have hii : i = r.tn := by omega
    subst hii
    have hnext : carN r.sick r.touches r.th q bs (k + 1) = touchN r.touches q k s1 r.tn := by simp only [carN]; rw [hs0, hs1]; rfl
    refine W.region ?_; refine .val (.incr rfl (by omega)) rfl rfl rfl ?_; refine .o rfl ?_; refine WL.nil ?_
    exact Kloop.next (k + 1) (by omega) (by omega) ⟨rfl, rfl, rfl, rfl, rfl, rfl, trivial⟩ (by simp) (by rw [hnext]; exact (by repeat first | exact .refl _ | refine .cons _ ?_))
  refine W.exit (Kseq.exit (Kloop.exit (Kblock.here (Kseq.go (W.seq ?_)))))
  have hkk : k = L := by omega
  subst hkk
  refine W.region ?_; refine .val (.loadBW rfl (.head _) (carC_size _)) rfl rfl rfl ?_
  (refine WL.storeAll rfl (.head _) rfl rfl (carC_size _) (carC_size _) (carC_one _) ?_)
  refine WL.nil ?_; refine Kseq.go ?_
  refine W.ret ?_; skip
  refine ⟨.inl rfl, [_], h, ⟨.agg inferInstance inferInstance rfl (.head _) (carC_size _), trivial⟩, (by repeat constructor), ?_⟩
  rfl
end Go.Proofs.Ytdnbkjgbehakpaa

/- The program's functions of chapter 6: right, many, CheckHouse. -/
namespace Go.Proofs.Ytdnbkjgbehakpaa
open Go Go.Eng Go.RowKit

theorem ValidH.signAt {r : House} (hV : ValidH r) {k : Nat} (hk : k < r.signs.length) : ∃ A : Nat, (r.signs.getD k default).thing = A ∧ A < 10 := by
  have h1 := hV.sign k hk
  have h2 := hV.others
  unfold signOk isThing at h1
  have h3 := of_decide_eq_true h1
  exact ⟨(r.signs.getD k default).thing.toNat, by omega, by omega⟩
/-- right -/
theorem right6_any {h : Mem} {v ov : Value} {r : House} {s : Nat} {out : List Int} (hv : IsHouse h v r) (hV : ValidH r) (ho : IsInts h ov out) :
    FnV Try.prog 36 #[v, carV s, ov] h (.bool (rightBut6 r.signs s out)) := by
  have h5 := hV.signN
  obtain ⟨wv, pv, kv, tv, bv, sv, f, rfl, hA⟩ := hv
  have hS := hA.S
  refine FnR.val ?_
  refine FnR.of_W (n := 31) Try.func36 rfl rfl (Nat.le_of_ble_eq_true rfl) fun c hr hD hF => ?_
  refine W.seq ?_; refine W.region ?_
  refine WL.box rfl rfl rfl rfl (fun b3 => ?_)
  refine WL.box rfl rfl rfl rfl (fun b4 => ?_)
  refine .o rfl ?_; refine WL.nil ?_
  refine Kseq.go (W.seq (W.seq ?_))
  refine W.region ?_; refine .val (.fieldAddrB rfl) rfl rfl rfl ?_; refine .val (.loadB rfl (.tail _ (.head _)) rfl) rfl rfl rfl ?_; refine .val (.len rfl hS) rfl rfl rfl ?_; refine .o rfl ?_; refine WL.nil ?_
  refine Kseq.go (W.block ?_)
  refine W.loop (σ := Nat) (fun k => [(2, ov), (4, .pointer (some ⟨b4, 0, none⟩)), (10, sv), (11, .int .i64 (r.signs.length : Int)), (12, .int .i64 (k : Int))]) (fun _ => [h])
    (fun _ => [.blk b4 (carC s) 67]) (fun k => k ≤ r.signs.length ∧ ∀ i, i < k → (!decide ((i : Int) ∈ out) && !signS r.signs s i) = false) (fun k => r.signs.length - k) 0 ⟨rfl, rfl, rfl, rfl, rfl, trivial⟩ (by simp) (.cons_cons _ (List.nil_sublist _)) ⟨Nat.zero_le _, fun i hi => absurd hi (Nat.not_lt_zero _)⟩ ?_
  rintro k ⟨hk, hall⟩
  refine W.seq ?_; refine W.region ?_; refine .o rfl ?_; refine WL.nil ?_
  refine Kseq.go (W.seq ?_)
  refine W.condD rfl rfl (fun hlt => ?_) (fun hge => ?_)
  · have hkl : k < r.signs.length := by omega
    obtain ⟨A, eA, hA10⟩ := hV.signAt hkl
    have hsg : signS r.signs s k = decide (s.testBit A = (r.signs.getD k default).carries) := by unfold signS; rw [eA]; rfl
    refine W.skip (Kseq.go (W.seq (W.block (W.seq ?_))))
    refine W.region ?_; refine .o rfl ?_; refine .val (.indexAddrN rfl rfl hS hkl) rfl rfl rfl ?_
    refine .val (.cast (.loadEA rfl hS (by repeat constructor) hkl) (show _ = Value.agg #[vi (A : Int), .bool (r.signs.getD k default).carries] from by rw [← eA]; rfl)) rfl rfl rfl ?_
    refine WL.alloc rfl rfl rfl (fun b8 => ?_)
    refine .o rfl ?_
    refine WL.store [_, _] rfl (.head _) rfl rfl rfl (Nat.le_of_ble_eq_true rfl) (by first | (simp [Value.cells, Value.oneCell']; done) | exact IsArr.ones hW (by omega) | exact IsArr.ones hP (by omega) | exact IsArr.ones hS (by omega) | exact IsArr.ones hH (by omega) | exact IsArr.ones hL (by omega) | exact IsArr.ones hB (by omega) | exact IsArr.ones hT (by omega) | exact IsArr.ones hm (by omega)) rfl ?_
    refine WL.nil ?_
    refine Kseq.go (W.seq ?_)
    refine W.toS [(2, ov), (4, .pointer (some ⟨b4, 0, none⟩)), (10, sv), (11, .int .i64 (r.signs.length : Int)), (12, .int .i64 (k : Int)), (29, .bool (!decide ((k : Int) ∈ out) && !signS r.signs s k))] ?_ ?_
    · generalize hgb : s.testBit A = tb at hsg
      have hcg := (carC_get (s := s) hA10).trans (congrArg (fun b => some (Value.bool b)) hgb)
      refine W.draw 11 (by kernel_rfl) (by kernel_rfl) (by kernel_rfl) rfl ?_; refine .val [] (.opv rfl) rfl rfl rfl rfl ?_; refine .val [] (.opv rfl) rfl rfl rfl rfl ?_; refine .val [] (.call rfl (fun m hm => contains_any _ (ho.le (by repeat first | exact hm.1 | replace hm := hm.2)))) rfl rfl rfl rfl ?_; refine .val [] (.opv rfl) rfl rfl rfl rfl ?_; refine .val [] (.opv rfl) rfl rfl rfl rfl ?_
      refine DJ.splitN rfl rfl (fun g21 => ?_) (fun g21 => ?_)
      · refine .val [] (.fieldAddrB rfl) rfl rfl rfl rfl ?_
        refine .val [] (.loadB rfl (.head _) rfl) rfl rfl rfl rfl ?_; refine .val [] (.indexAddrB rfl rfl (by omega)) rfl rfl rfl rfl ?_; refine .val [] (.loadB rfl (.tail _ (.head _)) hcg) rfl rfl rfl rfl ?_; refine .val [] (.fieldAddrB rfl) rfl rfl rfl rfl ?_; refine .val [] (.loadB rfl (.head _) rfl) rfl rfl rfl rfl ?_; refine DJ.nil ?_; refine .val (OpVal.neqB6 rfl rfl) rfl rfl rfl ?_; refine .o rfl ?_; refine WL.nil ?_
        exact Keff.intro ⟨rfl, rfl, rfl, rfl, rfl, congrArg (fun b => some (Value.bool b)) (by rw [hsg]; exact (by first | (simp [-List.getD_eq_getElem?_getD]; done) | (simp_all [-List.getD_eq_getElem?_getD]; done) | (simp [-List.getD_eq_getElem?_getD]; omega) | (rw [Bool.eq_iff_iff]; simp [-List.getD_eq_getElem?_getD]; omega) | (simp [-List.getD_eq_getElem?_getD] at *; omega))), trivial⟩ (by simp) (by repeat first | exact .refl _ | refine .cons _ ?_)
      · refine DJ.pass rfl rfl rfl rfl ?_
        refine DJ.pass rfl rfl rfl rfl ?_; refine DJ.pass rfl rfl rfl rfl ?_; refine DJ.pass rfl rfl rfl rfl ?_; refine DJ.pass rfl rfl rfl rfl ?_; refine DJ.pass rfl rfl rfl rfl ?_; refine DJ.nil ?_; refine WL.pass rfl rfl rfl ?_; refine .o rfl ?_; refine WL.nil ?_
        exact Keff.intro ⟨rfl, rfl, rfl, rfl, rfl, congrArg (fun b => some (Value.bool b)) (by rw [hsg]; exact (by first | (simp [-List.getD_eq_getElem?_getD]; done) | (simp_all [-List.getD_eq_getElem?_getD]; done) | (simp [-List.getD_eq_getElem?_getD]; omega) | (rw [Bool.eq_iff_iff]; simp [-List.getD_eq_getElem?_getD]; omega) | (simp [-List.getD_eq_getElem?_getD] at *; omega))), trivial⟩ (by simp) (by repeat first | exact .refl _ | refine .cons _ ?_)
    refine Kseq.go ?_
    refine W.cond rfl rfl (fun hb => ?_) (fun hb => ?_)
    · refine W.seq ?_
      refine W.region ?_; refine .o rfl ?_; refine WL.nil ?_; refine Kseq.go ?_
      refine W.ret ?_; refine Kblock.ret (Kseq.ret (Kloop.ret (Kblock.ret (Kseq.ret ?_)))); refine ⟨.inl rfl, [_], h, ⟨.tmp rfl, trivial⟩, (by repeat constructor), ?_⟩
      refine congrArg Value.bool ?_
      unfold rightBut6
      rw [ex_iff.2 ⟨k, hkl, hb⟩]; rfl
    · refine W.skip (Kblock.normal (Kseq.go ?_))
      refine W.region ?_; refine .val (.incr rfl (by omega)) rfl rfl rfl ?_; refine .o rfl ?_; refine WL.nil ?_
      refine Kloop.next (k + 1) ⟨hkl, fun i hi => ?_⟩ (by omega) ⟨rfl, rfl, rfl, rfl, rfl, trivial⟩ (by simp) (by repeat first | exact .refl _ | refine .cons _ ?_)
      rcases Nat.lt_succ_iff_lt_or_eq.1 hi with h2 | rfl
      · exact hall i h2
      · exact hb
  · have : k = r.signs.length := by omega
    subst this
    refine W.exit (Kseq.exit (Kloop.exit (Kblock.here (Kseq.go (W.seq ?_)))))
    refine W.region ?_; refine .o rfl ?_; refine WL.nil ?_; refine Kseq.go ?_
    refine W.ret ?_; refine ⟨.inl rfl, [_], h, ⟨.tmp rfl, trivial⟩, (by repeat constructor), ?_⟩
    refine congrArg Value.bool ?_
    unfold rightBut6
    rw [ex_no.2 hall]; rfl

/-! ### How many courses there are -/
/-- The number that the program counts. -/
def manyQ (r : House) (k : Nat) : Int := min 2001 (many r.table * timesTo r k)
theorem manyP_zero (t : Table) : manyP t 0 = 1 := by simp [manyP, manyTo]; decide
theorem manyQ_zero (r : House) : manyQ r 0 = manyP r.table r.np := by simp [manyQ, timesTo, manyP, many, House.np]
theorem manyQ_succ {r : House} {k : Nat} (h0 : 1 ≤ (r.touches.getD k default).hi - (r.touches.getD k default).lo + 1) (ht : 1 ≤ timesTo r k) : manyQ r (k + 1) = min (manyQ r k * ((r.touches.getD k default).hi - (r.touches.getD k default).lo + 1)) 2001 := by
  unfold manyQ
  rw [timesTo_succ]
  generalize (r.touches.getD k default).hi - (r.touches.getD k default).lo + 1 = s at *
  have hM := manyTo_pos r.table r.table.pieces.length
  have hM' : 0 ≤ many r.table := hM.1
  generalize many r.table = M at *
  generalize timesTo r k = T at *
  have hTs : T * s ≥ 1 * 1 := Int.mul_le_mul ht h0 (by omega) (by omega)
  rcases Int.lt_or_le 0 M with h1 | h1
  · have e1 : min 2001 (M * min 3000 (T * s)) = min 2001 (M * (T * s)) := by
      rcases Int.le_total (T * s) 3000 with h2 | h2
      · rw [Int.min_eq_right h2]
      · rw [Int.min_eq_left h2]
        have h3 : 1 * 3000 ≤ M * 3000 := Int.mul_le_mul_of_nonneg_right (by omega) (by omega)
        have h4 : M * 3000 ≤ M * (T * s) := Int.mul_le_mul_of_nonneg_left h2 (by omega)
        omega
    rw [e1]
    rcases Int.le_total (M * T) 2001 with h2 | h2
    · rw [Int.min_eq_right h2, Int.mul_assoc, Int.min_comm]
    · rw [Int.min_eq_left h2]
      have h3 : 2001 * 1 ≤ 2001 * s := Int.mul_le_mul_of_nonneg_left h0 (by omega)
      have h4 : M * T * 1 ≤ M * T * s := Int.mul_le_mul_of_nonneg_left h0 (by omega)
      rw [← Int.mul_assoc]
      omega
  · have : M = 0 := by omega
    subst this
    rw [Int.zero_mul, Int.zero_mul, show min (2001 : Int) 0 = 0 from by decide, Int.zero_mul]; decide
theorem timesTo_pos {r : House} (hz : ∀ i, i < r.tn → (r.touches.getD i default).lo ≤ (r.touches.getD i default).hi) : ∀ k, k ≤ r.tn → 1 ≤ timesTo r k ∧ timesTo r k ≤ 3000
  | 0, _ => by simp [timesTo]
  | k + 1, hk => by
    have ih := timesTo_pos hz k (by omega)
    have h1 := hz k (by omega)
    rw [timesTo_succ]
    have : 1 * 1 ≤ timesTo r k * ((r.touches.getD k default).hi - (r.touches.getD k default).lo + 1) := Int.mul_le_mul ih.1 (by omega) (by omega) (by omega)
    omega
/-- Whose mark is on a piece? -/
abbrev womP (r : House) (k : Nat) (j : Nat) : Bool := decide ((r.table.women.getD j default).mark ∈ (r.table.pieces.getD k default).marks)
theorem womenOf_len (r : House) (k : Nat) : womenOf r.table k = sel r.table.women.length (womP r k) := rfl
/-- many -/
theorem many6_any {h : Mem} {v : Value} {r : House} (hv : IsHouse h v r) (hs : SmH r) (hz : ∀ i, i < r.tn → 0 ≤ (r.touches.getD i default).lo ∧ (r.touches.getD i default).lo ≤ (r.touches.getD i default).hi ∧ (r.touches.getD i default).hi ≤ 5) :
    FnV Try.prog 47 #[v] h (vi (manyQ r r.tn)) := by
  have hst := hs.table
  have hs1 := hst.1
  have hs2 := hst.2.1
  have htn : r.tn ≤ 20 := hs.touches
  obtain ⟨wv, pv, kv, tv, bv, sv, f, rfl, hA⟩ := hv
  have hW := hA.W
  have hP := hA.P
  have hM := hA.M
  have hT := hA.T
  refine FnR.val ?_
  refine FnR.of_W (n := 62) Try.func47 rfl rfl (Nat.le_of_ble_eq_true rfl) fun c hr hD hF => ?_
  refine W.seq ?_; refine W.region ?_
  refine WL.box rfl rfl rfl rfl (fun b1 => ?_)
  refine .o rfl ?_; refine WL.nil ?_
  refine Kseq.go (W.seq ?_)
  refine W.region ?_; refine .o rfl ?_; refine WL.nil ?_
  refine Kseq.go (W.seq (W.seq ?_))
  refine W.region ?_; refine .val (.fieldAddrB rfl) rfl rfl rfl ?_; refine .val (.fieldAddrB rfl) rfl rfl rfl ?_; refine .val (.loadB rfl (.head _) rfl) rfl rfl rfl ?_; refine .val (.len rfl hP) rfl rfl rfl ?_; refine .o rfl ?_; refine WL.nil ?_
  refine Kseq.go (W.block ?_)
  refine W.loop (σ := Nat) (fun k => [(1, .pointer (some ⟨b1, 0, none⟩)), (3, .int .i64 (manyP r.table k)), (13, pv), (14, .int .i64 (r.np : Int)), (15, .int .i64 (k : Int))]) (fun _ => [h])
    (fun _ => [.blk b1 (hcs wv pv kv tv bv sv r) 34]) (fun k => k ≤ r.np) (fun k => r.np - k) 0 ⟨rfl, congrArg (fun x : Int => some (Value.int .i64 x)) (manyP_zero r.table).symm, rfl, rfl, rfl, trivial⟩ (by simp) (by repeat first | exact .refl _ | refine .cons _ ?_) (Nat.zero_le _) ?_
  rintro k hk
  try dsimp only at hk ⊢
  refine W.seq ?_; refine W.region ?_; refine .o rfl ?_; refine WL.nil ?_
  refine Kseq.go (W.seq ?_)
  refine W.condD rfl rfl (fun hlt => ?_) (fun hge => ?_)
  · have hkl : k < r.table.pieces.length := by unfold House.np at *; omega
    have hMk := hM k hkl
    refine W.skip (Kseq.go (W.seq (W.block (W.seq ?_))))
    refine W.region ?_; refine .val (.indexAddrN rfl rfl hP hkl) rfl rfl rfl ?_; refine .val (.cast (.loadEA rfl hP (by repeat constructor) hkl) (show _ = Value.agg #[f k, vi (r.table.pieces.getD k default).bundle] from rfl)) rfl rfl rfl ?_
    refine WL.alloc rfl rfl rfl (fun b5 => ?_)
    (refine WL.store [_, _] rfl (.head _) rfl rfl rfl (Nat.le_of_ble_eq_true rfl) (by simp [Value.cells]; exact ⟨hMk.one, rfl⟩) rfl ?_)
    refine WL.nil ?_
    refine Kseq.go (W.seq ?_)
    refine W.region ?_; refine .o rfl ?_; refine WL.nil ?_
    refine Kseq.go (W.seq (W.seq ?_))
    refine W.region ?_; refine .val (.fieldAddrB rfl) rfl rfl rfl ?_; refine .val (.fieldAddrB rfl) rfl rfl rfl ?_; refine .val (.loadB rfl (.tail _ (.head _)) rfl) rfl rfl rfl ?_; refine .val (.len rfl hW) rfl rfl rfl ?_; refine .o rfl ?_; refine WL.nil ?_
    refine Kseq.go (W.block ?_)
    refine W.loop (σ := Nat) (fun j => [(1, .pointer (some ⟨b1, 0, none⟩)), (3, .int .i64 (manyP r.table k)), (5, .pointer (some ⟨b5, 0, none⟩)), (6, .int .i64 ((sel j (womP r k)).length : Int)), (13, pv), (14, .int .i64 (r.np : Int)), (15, .int .i64 (k : Int)), (21, wv), (22, .int .i64 (r.table.women.length : Int)), (23, .int .i64 (j : Int))]) (fun _ => [h])
      (fun _ => [.blk b5 #[f k, vi (r.table.pieces.getD k default).bundle] 72, .blk b1 (hcs wv pv kv tv bv sv r) 34]) (fun j => j ≤ r.table.women.length) (fun j => r.table.women.length - j) 0 ⟨rfl, rfl, rfl, rfl, rfl, rfl, rfl, rfl, rfl, rfl, trivial⟩ (by simp) (by repeat first | exact .refl _ | refine .cons _ ?_) (Nat.zero_le _) ?_
    rintro j hj
    try dsimp only at hj ⊢
    have hsl := sel_len j (womP r k)
    refine W.seq ?_; refine W.region ?_; refine .o rfl ?_; refine WL.nil ?_
    refine Kseq.go (W.seq ?_)
    refine W.condD rfl rfl (fun hlt2 => ?_) (fun hge2 => ?_)
    · have hjl : j < r.table.women.length := by omega
      refine W.skip (Kseq.go (W.seq (W.block (W.seq ?_))))
      refine W.region ?_; refine .val (.indexAddrN rfl rfl hW hjl) rfl rfl rfl ?_; refine .val (.cast (.loadEA rfl hW (by repeat constructor) hjl) (show _ = wv3 (r.table.women.getD j default) from rfl)) rfl rfl rfl ?_
      refine WL.alloc rfl rfl rfl (fun b8 => ?_)
      refine WL.store [_, _, _] rfl (.head _) rfl rfl rfl (Nat.le_of_ble_eq_true rfl) (by first | (simp [Value.cells, Value.oneCell']; done) | exact IsArr.ones hW (by omega) | exact IsArr.ones hP (by omega) | exact IsArr.ones hS (by omega) | exact IsArr.ones hH (by omega) | exact IsArr.ones hL (by omega) | exact IsArr.ones hB (by omega) | exact IsArr.ones hT (by omega) | exact IsArr.ones hm (by omega)) rfl ?_
      refine WL.nil ?_
      refine Kseq.go (W.seq ?_)
      refine W.region ?_; refine .val (.fieldAddrB rfl) rfl rfl rfl ?_; refine .val (.loadB rfl (.tail _ (.head _)) rfl) rfl rfl rfl ?_; refine .val (.fieldAddrB rfl) rfl rfl rfl ?_; refine .val (.loadB rfl (.head _) rfl) rfl rfl rfl ?_; refine .val (.call rfl (fun m hm => contains_any _ (hMk.le (by repeat first | exact hm.1 | replace hm := hm.2)))) rfl rfl rfl ?_; refine WL.nil ?_; refine Kseq.go ?_
      refine W.cond rfl rfl (fun hb => ?_) (fun hb => ?_)
      · have e : sel (j + 1) (womP r k) = sel j (womP r k) ++ [(j : Int)] := sel_yes hb
        refine W.region ?_; refine .o rfl ?_; refine .val (.incr rfl (by omega)) rfl rfl rfl ?_; refine .o rfl ?_; refine WL.nil ?_
        refine Kblock.normal (Kseq.go ?_)
        refine W.region ?_; refine .val (.incr rfl (by omega)) rfl rfl rfl ?_; refine .o rfl ?_; refine WL.nil ?_
        exact Kloop.next (j + 1) (by omega) (by omega) ⟨rfl, rfl, rfl, congrArg (fun x : Int => some (Value.int .i64 x)) (by rw [e, List.length_append]; rfl), rfl, rfl, rfl, rfl, rfl, rfl, trivial⟩ (by simp) (by repeat first | exact .refl _ | refine .cons _ ?_)
      · have e : sel (j + 1) (womP r k) = sel j (womP r k) := sel_no hb
        refine W.skip (Kblock.normal (Kseq.go ?_))
        refine W.region ?_; refine .val (.incr rfl (by omega)) rfl rfl rfl ?_; refine .o rfl ?_; refine WL.nil ?_
        exact Kloop.next (j + 1) (by omega) (by omega) ⟨rfl, rfl, rfl, congrArg (fun x : List Int => some (Value.int .i64 (x.length : Int))) e.symm, rfl, rfl, rfl, rfl, rfl, rfl, trivial⟩ (by simp) (by repeat first | exact .refl _ | refine .cons _ ?_)
    refine W.exit (Kseq.exit (Kloop.exit (Kblock.here (Kseq.go ?_))))
    have hjj : j = r.table.women.length := by omega
    subst hjj
    have hmp := manyTo_pos r.table k
    have hmp2 : 0 ≤ manyP r.table k ∧ manyP r.table k ≤ 2001 := by unfold manyP; omega
    have hmul : manyP r.table k * ((sel r.table.women.length (womP r k)).length : Int) ≤ 2001 * 50 := Int.mul_le_mul hmp2.2 (by omega) (by omega) (by omega)
    have hmul0 : 0 ≤ manyP r.table k * ((sel r.table.women.length (womP r k)).length : Int) := Int.mul_nonneg hmp2.1 (by omega)
    refine W.region ?_
    iterate 2 refine .o rfl ?_
    refine .val (.mul rfl rfl (by omega) (by omega)) rfl rfl rfl ?_
    refine WL.abs (OpAbs.lit [_, _] rfl (Nat.le_of_ble_eq_true rfl) rfl rfl (by simp [Value.cells]) (Nat.le_of_ble_eq_true rfl) rfl (by first | (simp [Value.oneCell']; done) | exact List.all_eq_true.1 rfl)) rfl rfl rfl ?_
    rintro m38 _ ⟨hc38, a38, rfl⟩
    refine .val (.call rfl (fun m hm => minimum6_any ((ints_lit (xs := [_, 2001]) hc38).le (by repeat first | exact hm.1 | replace hm := hm.2)))) rfl rfl rfl ?_; refine .o rfl ?_; refine WL.nil ?_
    refine Kblock.normal (Kseq.go ?_)
    refine W.region ?_; refine .val (.incr rfl (by omega)) rfl rfl rfl ?_; refine .o rfl ?_; refine WL.nil ?_
    exact Kloop.next (k + 1) (by omega) (by omega) ⟨rfl, congrArg (fun x : Int => some (Value.int .i64 x)) (by rw [manyP_succ, womenOf_len]), rfl, rfl, rfl, trivial⟩ (by simp) (by repeat first | exact .refl _ | refine .cons _ ?_)
  refine W.exit (Kseq.exit (Kloop.exit (Kblock.here (Kseq.go (W.seq (W.seq ?_))))))
  have hkk : k = r.np := by omega
  subst hkk
  refine W.region ?_; refine .val (.fieldAddrB rfl) rfl rfl rfl ?_; refine .val (.loadB rfl (.head _) rfl) rfl rfl rfl ?_; refine .val (.len rfl hT) rfl rfl rfl ?_; refine .o rfl ?_; refine WL.nil ?_
  refine Kseq.go (W.block ?_)
  refine W.loop (σ := Nat) (fun k => [(3, .int .i64 (manyQ r k)), (42, tv), (43, .int .i64 (r.tn : Int)), (44, .int .i64 (k : Int))]) (fun _ => [h])
    (fun _ => []) (fun k => k ≤ r.tn) (fun k => r.tn - k) 0 ⟨congrArg (fun x : Int => some (Value.int .i64 x)) (manyQ_zero r).symm, rfl, rfl, rfl, trivial⟩ (by simp) (by repeat first | exact .refl _ | refine .cons _ ?_) (Nat.zero_le _) ?_
  rintro k hk
  try dsimp only at hk ⊢
  have hq : 0 ≤ manyQ r k ∧ manyQ r k ≤ 2001 := by
    have h1 := (timesTo_pos (fun i hi => (hz i hi).2.1) k hk).1
    have h2 := (manyTo_pos r.table r.table.pieces.length).1
    have h3 : 0 ≤ many r.table * timesTo r k := Int.mul_nonneg h2 (by omega)
    unfold manyQ; omega
  refine W.seq ?_; refine W.region ?_; refine .o rfl ?_; refine WL.nil ?_
  refine Kseq.go (W.seq ?_)
  refine W.condD rfl rfl (fun hlt => ?_) (fun hge => ?_)
  · have hkl : k < r.tn := by omega
    have hkl' : k < r.touches.length := hkl
    have hzk := hz k hkl
    refine W.skip (Kseq.go (W.seq (W.block (W.seq ?_))))
    refine W.region ?_; refine .val (.indexAddrN rfl rfl hT hkl') rfl rfl rfl ?_; refine .val (.cast (.loadEA rfl hT (by repeat constructor) hkl') (show _ = tv4 (r.touches.getD k default) from rfl)) rfl rfl rfl ?_
    refine WL.alloc rfl rfl rfl (fun b10 => ?_)
    refine WL.store [_, _, _, _] rfl (.head _) rfl rfl rfl (Nat.le_of_ble_eq_true rfl) (by first | (simp [Value.cells, Value.oneCell']; done) | exact IsArr.ones hW (by omega) | exact IsArr.ones hP (by omega) | exact IsArr.ones hS (by omega) | exact IsArr.ones hH (by omega) | exact IsArr.ones hL (by omega) | exact IsArr.ones hB (by omega) | exact IsArr.ones hT (by omega) | exact IsArr.ones hm (by omega)) rfl ?_
    refine WL.nil ?_; refine Kseq.go ?_
    have hmul : manyQ r k * ((r.touches.getD k default).hi - (r.touches.getD k default).lo + 1) ≤ 2001 * 6 := Int.mul_le_mul hq.2 (by omega) (by omega) (by omega)
    have hmul0 : 0 ≤ manyQ r k * ((r.touches.getD k default).hi - (r.touches.getD k default).lo + 1) := Int.mul_nonneg hq.1 (by omega)
    refine W.region ?_; refine .o rfl ?_; refine .val (.fieldAddrB rfl) rfl rfl rfl ?_; refine .val (.fieldAddrB rfl) rfl rfl rfl ?_; refine .val (.loadB rfl (.head _) rfl) rfl rfl rfl ?_; refine .val (.fieldAddrB rfl) rfl rfl rfl ?_; refine .val (.fieldAddrB rfl) rfl rfl rfl ?_; refine .val (.loadB rfl (.head _) rfl) rfl rfl rfl ?_; refine .val (.sub rfl rfl (by omega) (by omega)) rfl rfl rfl ?_; refine .val (.add rfl rfl (by omega) (by omega)) rfl rfl rfl ?_; refine .val (.mul rfl rfl (by omega) (by omega)) rfl rfl rfl ?_
    refine WL.abs (OpAbs.lit [_, _] rfl (Nat.le_of_ble_eq_true rfl) rfl rfl (by simp [Value.cells]) (Nat.le_of_ble_eq_true rfl) rfl (by first | (simp [Value.oneCell']; done) | exact List.all_eq_true.1 rfl)) rfl rfl rfl ?_
    rintro m58 _ ⟨hc58, a58, rfl⟩
    refine .val (.call rfl (fun m hm => minimum6_any ((ints_lit (xs := [_, 2001]) hc58).le (by repeat first | exact hm.1 | replace hm := hm.2)))) rfl rfl rfl ?_; refine .o rfl ?_; refine WL.nil ?_
    refine Kblock.normal (Kseq.go ?_)
    refine W.region ?_; refine .val (.incr rfl (by omega)) rfl rfl rfl ?_; refine .o rfl ?_; refine WL.nil ?_
    exact Kloop.next (k + 1) (by omega) (by omega) ⟨congrArg (fun x : Int => some (Value.int .i64 x)) (manyQ_succ (by omega) (timesTo_pos (fun i hi => (hz i hi).2.1) k hk).1).symm, rfl, rfl, rfl, trivial⟩ (by simp) (by repeat first | exact .refl _ | refine .cons _ ?_)
  refine W.exit (Kseq.exit (Kloop.exit (Kblock.here (Kseq.go (W.seq ?_)))))
  have hkk : k = r.tn := by omega
  subst hkk
  refine W.region ?_
  iterate 2 refine .o rfl ?_
  refine WL.nil ?_; refine Kseq.go ?_
  refine W.ret ?_; refine ⟨.inl rfl, [_], h, ⟨.tmp rfl, trivial⟩, (by repeat constructor), ?_⟩
  rfl
end Go.Proofs.Ytdnbkjgbehakpaa

/- The program's functions of chapter 6: CheckHouse. -/
namespace Go.Proofs.Ytdnbkjgbehakpaa
open Go Go.Eng Go.RowKit

def lim6 (r : House) : Bool := decide (5 < r.last ∨ 10 < r.others ∨ 6 < r.touches.length ∨ 4 < r.boiled.length ∨ 5 < r.signs.length)
def arg6 (r : House) : Bool := decide (r.last < 0 ∨ r.others < 0 ∨ 10 < r.things ∨ risingB r.sick r.table.women.length = false)
def bad6 (r : House) : Bool := badOf r.touches (touchOk r) || badOf r.boiled (boilOk r) || badOf r.signs (signOk r)
theorem fault6_eq (r : House) : fault6 r = if lim6 r = true then 3 else if askE r.table ≠ 0 then askE r.table else if arg6 r = true then 1 else if bad6 r = true then 1 else if 2000 < min 3000 (many r.table * times r) then 3 else 0 := by
  unfold fault6 lim6 arg6 bad6
  simp only [decide_eq_true_eq, Bool.or_eq_true, or_assoc]
theorem manyQ_gt (r : House) : (decide (2000 < manyQ r r.tn)) = decide (2000 < min 3000 (many r.table * times r)) := by
  rw [decide_eq_decide]
  unfold manyQ times
  omega
theorem touchZ {r : House} (h : badOf r.touches (touchOk r) = false) (hl : r.last ≤ 5) : ∀ i, i < r.tn → 0 ≤ (r.touches.getD i default).lo ∧ (r.touches.getD i default).lo ≤ (r.touches.getD i default).hi ∧ (r.touches.getD i default).hi ≤ 5 := fun i hi => by
  have := touchOk_iff.1 (bad_iff.1 h i hi)
  omega
/-- CheckHouse -/
theorem checkHouse_any {h : Mem} {v : Value} {r : House} (hv : IsHouse h v r) (hs : SmH r) : FnV Try.prog 17 #[v] h (vi (fault6 r)) := by
  have hst := hs.table
  have hwn := hst.1
  have hv' := hv
  obtain ⟨wv, pv, kv, tv, bv, sv, f, rfl, hA⟩ := hv
  have hW := hA.W
  have hK := hA.K
  have hT := hA.T
  have hB := hA.B
  have hS := hA.S
  have hTab := hA.table
  have hl := hs.touches
  have hl2 := hs.boiled
  have hl3 := hs.signs
  refine FnR.val ?_
  refine FnR.of_W (n := 97) Try.func17 rfl rfl (Nat.le_of_ble_eq_true rfl) fun c hr hD hF => ?_
  refine W.seq ?_; refine W.region ?_
  refine WL.box rfl rfl rfl rfl (fun b1 => ?_)
  refine .o rfl ?_; refine WL.nil ?_
  refine Kseq.go (W.seq (W.seq ?_))
  refine W.toS [(1, .pointer (some ⟨b1, 0, none⟩)), (33, .bool (lim6 r))] ?_ ?_
  · skip
    refine W.region ?_; refine .val (.fieldAddrB rfl) rfl rfl rfl ?_; refine .val (.loadB rfl (.head _) rfl) rfl rfl rfl ?_
    iterate 2 refine .o rfl ?_
    refine WL.split rfl rfl (fun g11 => ?_) (fun g11 => ?_)
    · refine WL.pass rfl rfl rfl ?_
      refine WL.pass rfl rfl rfl ?_; refine WL.pass rfl rfl rfl ?_
      iterate 2 refine .o rfl ?_
      refine WL.pass rfl rfl rfl ?_; refine WL.pass rfl rfl rfl ?_; refine WL.pass rfl rfl rfl ?_; refine WL.pass rfl rfl rfl ?_
      iterate 2 refine .o rfl ?_
      refine WL.pass rfl rfl rfl ?_; refine WL.pass rfl rfl rfl ?_; refine WL.pass rfl rfl rfl ?_; refine WL.pass rfl rfl rfl ?_
      iterate 2 refine .o rfl ?_
      refine WL.pass rfl rfl rfl ?_; refine WL.pass rfl rfl rfl ?_; refine WL.pass rfl rfl rfl ?_; refine WL.pass rfl rfl rfl ?_; refine .o rfl ?_; refine WL.nil ?_
      exact Keff.intro ⟨rfl, congrArg (fun b => some (Value.bool b)) (by unfold lim6; exact (by first | (simp [-List.getD_eq_getElem?_getD]; done) | (simp_all [-List.getD_eq_getElem?_getD]; done) | (simp [-List.getD_eq_getElem?_getD]; omega) | (rw [Bool.eq_iff_iff]; simp [-List.getD_eq_getElem?_getD]; omega) | (simp [-List.getD_eq_getElem?_getD] at *; omega))), trivial⟩ (by simp) (by repeat first | exact .refl _ | refine .cons _ ?_)
    · refine .val (.fieldAddrB rfl) rfl rfl rfl ?_
      refine .val (.loadB rfl (.head _) rfl) rfl rfl rfl ?_
      iterate 3 refine .o rfl ?_
      refine WL.split rfl rfl (fun g16 => ?_) (fun g16 => ?_)
      · refine WL.pass rfl rfl rfl ?_
        refine WL.pass rfl rfl rfl ?_; refine WL.pass rfl rfl rfl ?_; refine WL.pass rfl rfl rfl ?_
        iterate 2 refine .o rfl ?_
        refine WL.pass rfl rfl rfl ?_; refine WL.pass rfl rfl rfl ?_; refine WL.pass rfl rfl rfl ?_; refine WL.pass rfl rfl rfl ?_
        iterate 2 refine .o rfl ?_
        refine WL.pass rfl rfl rfl ?_; refine WL.pass rfl rfl rfl ?_; refine WL.pass rfl rfl rfl ?_; refine WL.pass rfl rfl rfl ?_; refine .o rfl ?_; refine WL.nil ?_
        exact Keff.intro ⟨rfl, congrArg (fun b => some (Value.bool b)) (by unfold lim6; exact (by first | (simp [-List.getD_eq_getElem?_getD]; done) | (simp_all [-List.getD_eq_getElem?_getD]; done) | (simp [-List.getD_eq_getElem?_getD]; omega) | (rw [Bool.eq_iff_iff]; simp [-List.getD_eq_getElem?_getD]; omega) | (simp [-List.getD_eq_getElem?_getD] at *; omega))), trivial⟩ (by simp) (by repeat first | exact .refl _ | refine .cons _ ?_)
      · refine .val (.fieldAddrB rfl) rfl rfl rfl ?_
        refine .val (.loadB rfl (.head _) rfl) rfl rfl rfl ?_; refine .val (.len rfl hT) rfl rfl rfl ?_
        iterate 3 refine .o rfl ?_
        refine WL.split rfl rfl (fun g22 => ?_) (fun g22 => ?_)
        · refine WL.pass rfl rfl rfl ?_
          refine WL.pass rfl rfl rfl ?_; refine WL.pass rfl rfl rfl ?_; refine WL.pass rfl rfl rfl ?_
          iterate 2 refine .o rfl ?_
          refine WL.pass rfl rfl rfl ?_; refine WL.pass rfl rfl rfl ?_; refine WL.pass rfl rfl rfl ?_; refine WL.pass rfl rfl rfl ?_; refine .o rfl ?_; refine WL.nil ?_
          exact Keff.intro ⟨rfl, congrArg (fun b => some (Value.bool b)) (by unfold lim6; exact (by first | (simp [-List.getD_eq_getElem?_getD]; done) | (simp_all [-List.getD_eq_getElem?_getD]; done) | (simp [-List.getD_eq_getElem?_getD]; omega) | (rw [Bool.eq_iff_iff]; simp [-List.getD_eq_getElem?_getD]; omega) | (simp [-List.getD_eq_getElem?_getD] at *; omega))), trivial⟩ (by simp) (by repeat first | exact .refl _ | refine .cons _ ?_)
        · refine .val (.fieldAddrB rfl) rfl rfl rfl ?_
          refine .val (.loadB rfl (.head _) rfl) rfl rfl rfl ?_; refine .val (.len rfl hB) rfl rfl rfl ?_
          iterate 3 refine .o rfl ?_
          refine WL.split rfl rfl (fun g28 => ?_) (fun g28 => ?_)
          · refine WL.pass rfl rfl rfl ?_
            refine WL.pass rfl rfl rfl ?_; refine WL.pass rfl rfl rfl ?_; refine WL.pass rfl rfl rfl ?_; refine .o rfl ?_; refine WL.nil ?_
            exact Keff.intro ⟨rfl, congrArg (fun b => some (Value.bool b)) (by unfold lim6; exact (by first | (simp [-List.getD_eq_getElem?_getD]; done) | (simp_all [-List.getD_eq_getElem?_getD]; done) | (simp [-List.getD_eq_getElem?_getD]; omega) | (rw [Bool.eq_iff_iff]; simp [-List.getD_eq_getElem?_getD]; omega) | (simp [-List.getD_eq_getElem?_getD] at *; omega))), trivial⟩ (by simp) (by repeat first | exact .refl _ | refine .cons _ ?_)
          · refine .val (.fieldAddrB rfl) rfl rfl rfl ?_
            refine .val (.loadB rfl (.head _) rfl) rfl rfl rfl ?_; refine .val (.len rfl hS) rfl rfl rfl ?_
            iterate 2 refine .o rfl ?_
            refine WL.nil ?_
            exact Keff.intro ⟨rfl, congrArg (fun b => some (Value.bool b)) (by unfold lim6; exact (by first | (simp [-List.getD_eq_getElem?_getD]; done) | (simp_all [-List.getD_eq_getElem?_getD]; done) | (simp [-List.getD_eq_getElem?_getD]; omega) | (rw [Bool.eq_iff_iff]; simp [-List.getD_eq_getElem?_getD]; omega) | (simp [-List.getD_eq_getElem?_getD] at *; omega))), trivial⟩ (by simp) (by repeat first | exact .refl _ | refine .cons _ ?_)
  rw [fault6_eq]
  refine Kseq.go ?_
  refine W.cond rfl rfl (fun h1 => ?_) (fun h1 => ?_)
  · refine W.seq ?_
    refine W.region ?_; refine .o rfl ?_; refine WL.nil ?_; refine Kseq.go ?_
    refine W.ret ?_; refine Kseq.ret ?_; refine ⟨.inl rfl, [_], h, ⟨.tmp rfl, trivial⟩, (by repeat constructor), ?_⟩
    rw [if_pos h1]; rfl
  refine W.skip (Kseq.go (W.seq (W.seq ?_)))
  rw [if_neg (by simpa using h1)]
  have hlim := h1
  unfold lim6 at hlim
  rw [decide_eq_false_iff_not] at hlim
  refine W.region ?_; refine .val (.fieldAddrB rfl) rfl rfl rfl ?_; refine .val (.loadBA (vs := [wv, pv, vi r.table.wrong]) rfl (.head _) rfl rfl) rfl rfl rfl ?_
  (refine WL.abs (OpAbs.call rfl (fun m hm => whoseT_any (hTab.le (by repeat first | exact hm.1 | replace hm := hm.2)) hst)) rfl rfl rfl ?_; rintro m37 _ ⟨lv, rfl, _⟩)
  iterate 5 refine .o rfl ?_
  refine WL.nil ?_
  refine Kseq.go (W.seq ?_)
  refine W.region ?_
  iterate 2 refine .o rfl ?_
  refine WL.nil ?_; refine Kseq.go ?_
  refine W.cond rfl rfl (fun h2 => ?_) (fun h2 => ?_)
  · have he : askE r.table ≠ 0 := by simpa using h2
    rw [if_pos he]
    refine W.seq ?_; refine W.region ?_
    iterate 2 refine .o rfl ?_
    refine WL.nil ?_; refine Kseq.go ?_
    refine W.ret ?_; refine Kseq.ret ?_; refine ⟨.inl rfl, [_], h, ⟨.tmp rfl, trivial⟩, (by repeat constructor), ?_⟩
    rfl
  have he : askE r.table = 0 := by simpa using h2
  rw [if_neg (by simpa using he)]
  refine W.skip (Kseq.go (W.seq ?_))
  refine W.draw 8 (by kernel_rfl) (by kernel_rfl) (by kernel_rfl) rfl ?_; refine .val [] (.loadBW rfl (.head _) rfl) rfl rfl rfl rfl ?_; refine .val [] (.opv rfl) rfl rfl rfl rfl ?_; refine .val [] (.loadBW rfl (.head _) rfl) rfl rfl rfl rfl ?_; refine .val [] (.opv rfl) rfl rfl rfl rfl ?_; refine .val [] (.loadBW rfl (.head _) rfl) rfl rfl rfl rfl ?_; refine .val [] (.opv rfl) rfl rfl rfl rfl ?_; refine .val [] (.opv rfl) rfl rfl rfl rfl ?_; refine .val [] (.opv rfl) rfl rfl rfl rfl ?_; refine DJ.nil ?_; refine .o rfl ?_; refine WL.nil ?_
  refine Kseq.go (W.seq (W.block (W.seq ?_)))
  refine W.toS [(1, .pointer (some ⟨b1, 0, none⟩)), (5, .func (.func 41) #[.agg (hcs wv pv kv tv bv sv r)] #[]), (6, .func (.func 42) #[.agg (hcs wv pv kv tv bv sv r)] #[]), (7, .func (.func 43) #[.agg (hcs wv pv kv tv bv sv r)] #[]), (49, .bool (arg6 r))] ?_ ?_
  · have hris : risW r.sick (wr ((r.table.women.length : Int) - 1)) = risingB r.sick r.table.women.length := by
      rw [show wr ((r.table.women.length : Int) - 1) = (r.table.women.length : Int) - 1 from i64_in (by omega) (by omega)]
      exact risW_eq (by omega) (by omega)
    refine W.region ?_; refine .val (.fieldAddrB rfl) rfl rfl rfl ?_; refine .val (.loadB rfl (.head _) rfl) rfl rfl rfl ?_
    iterate 2 refine .o rfl ?_
    refine WL.split rfl rfl (fun g53 => ?_) (fun g53 => ?_)
    · refine WL.pass rfl rfl rfl ?_
      refine WL.pass rfl rfl rfl ?_; refine WL.pass rfl rfl rfl ?_
      iterate 2 refine .o rfl ?_
      refine WL.pass rfl rfl rfl ?_; refine WL.pass rfl rfl rfl ?_; refine WL.pass rfl rfl rfl ?_
      iterate 2 refine .o rfl ?_
      refine WL.pass rfl rfl rfl ?_; refine WL.pass rfl rfl rfl ?_; refine WL.pass rfl rfl rfl ?_; refine WL.pass rfl rfl rfl ?_; refine WL.pass rfl rfl rfl ?_; refine WL.pass rfl rfl rfl ?_; refine WL.pass rfl rfl rfl ?_; refine WL.pass rfl rfl rfl ?_
      iterate 2 refine .o rfl ?_
      refine WL.nil ?_
      exact Keff.intro ⟨rfl, rfl, rfl, rfl, congrArg (fun b => some (Value.bool b)) (by unfold arg6; first | exact (by first | (simp [-List.getD_eq_getElem?_getD]; done) | (simp_all [-List.getD_eq_getElem?_getD]; done) | (simp [-List.getD_eq_getElem?_getD]; omega) | (rw [Bool.eq_iff_iff]; simp [-List.getD_eq_getElem?_getD]; omega) | (simp [-List.getD_eq_getElem?_getD] at *; omega)) | (rw [Bool.eq_iff_iff]; simp only [Bool.not_eq_true', decide_eq_true_eq]; constructor; (intro h; exact .inr (.inr (.inr h))); (rintro (h | h | h | h) <;> first | omega | exact h))), trivial⟩ (by simp) (by repeat first | exact .refl _ | refine .cons _ ?_)
    · refine .val (.fieldAddrB rfl) rfl rfl rfl ?_
      refine .val (.loadB rfl (.head _) rfl) rfl rfl rfl ?_
      iterate 3 refine .o rfl ?_
      refine WL.split rfl rfl (fun g58 => ?_) (fun g58 => ?_)
      · refine WL.pass rfl rfl rfl ?_
        refine WL.pass rfl rfl rfl ?_; refine WL.pass rfl rfl rfl ?_
        iterate 2 refine .o rfl ?_
        refine WL.pass rfl rfl rfl ?_; refine WL.pass rfl rfl rfl ?_; refine WL.pass rfl rfl rfl ?_; refine WL.pass rfl rfl rfl ?_; refine WL.pass rfl rfl rfl ?_; refine WL.pass rfl rfl rfl ?_; refine WL.pass rfl rfl rfl ?_; refine WL.pass rfl rfl rfl ?_
        iterate 2 refine .o rfl ?_
        refine WL.nil ?_
        exact Keff.intro ⟨rfl, rfl, rfl, rfl, congrArg (fun b => some (Value.bool b)) (by unfold arg6; first | exact (by first | (simp [-List.getD_eq_getElem?_getD]; done) | (simp_all [-List.getD_eq_getElem?_getD]; done) | (simp [-List.getD_eq_getElem?_getD]; omega) | (rw [Bool.eq_iff_iff]; simp [-List.getD_eq_getElem?_getD]; omega) | (simp [-List.getD_eq_getElem?_getD] at *; omega)) | (rw [Bool.eq_iff_iff]; simp only [Bool.not_eq_true', decide_eq_true_eq]; constructor; (intro h; exact .inr (.inr (.inr h))); (rintro (h | h | h | h) <;> first | omega | exact h))), trivial⟩ (by simp) (by repeat first | exact .refl _ | refine .cons _ ?_)
      · refine .val (.loadBW rfl (.head _) rfl) rfl rfl rfl ?_
        refine .val (.cast (.call rfl (fun m hm => things6_any (hv'.le (by repeat first | exact hm.1 | replace hm := hm.2)))) (congrArg (Value.int .i64) (FitH.eq ⟨by unfold House.things; omega, by unfold House.things House.np; have := hst.2.1; omega⟩))) rfl rfl rfl ?_
        iterate 3 refine .o rfl ?_
        refine WL.split rfl rfl (fun g63 => ?_) (fun g63 => ?_)
        · refine WL.pass rfl rfl rfl ?_
          refine WL.pass rfl rfl rfl ?_; refine WL.pass rfl rfl rfl ?_; refine WL.pass rfl rfl rfl ?_; refine WL.pass rfl rfl rfl ?_; refine WL.pass rfl rfl rfl ?_; refine WL.pass rfl rfl rfl ?_; refine WL.pass rfl rfl rfl ?_
          iterate 2 refine .o rfl ?_
          refine WL.nil ?_
          exact Keff.intro ⟨rfl, rfl, rfl, rfl, congrArg (fun b => some (Value.bool b)) (by unfold arg6; first | exact (by first | (simp [-List.getD_eq_getElem?_getD]; done) | (simp_all [-List.getD_eq_getElem?_getD]; done) | (simp [-List.getD_eq_getElem?_getD]; omega) | (rw [Bool.eq_iff_iff]; simp [-List.getD_eq_getElem?_getD]; omega) | (simp [-List.getD_eq_getElem?_getD] at *; omega)) | (rw [Bool.eq_iff_iff]; simp only [Bool.not_eq_true', decide_eq_true_eq]; constructor; (intro h; exact .inr (.inr (.inr h))); (rintro (h | h | h | h) <;> first | omega | exact h))), trivial⟩ (by simp) (by repeat first | exact .refl _ | refine .cons _ ?_)
        · refine .val (.fieldAddrB rfl) rfl rfl rfl ?_
          refine .val (.loadB rfl (.head _) rfl) rfl rfl rfl ?_; refine .val (.fieldAddrB rfl) rfl rfl rfl ?_; refine .val (.fieldAddrB rfl) rfl rfl rfl ?_; refine .val (.loadB rfl (.head _) rfl) rfl rfl rfl ?_; refine .val (.len rfl hW) rfl rfl rfl ?_; refine .val (.cast (.call rfl (fun m hm => rising_any _ (hK.le (by repeat first | exact hm.1 | replace hm := hm.2)))) (congrArg Value.bool hris)) rfl rfl rfl ?_
          iterate 3 refine .o rfl ?_
          refine WL.nil ?_
          exact Keff.intro ⟨rfl, rfl, rfl, rfl, congrArg (fun b => some (Value.bool b)) (by unfold arg6; first | exact (by first | (simp [-List.getD_eq_getElem?_getD]; done) | (simp_all [-List.getD_eq_getElem?_getD]; done) | (simp [-List.getD_eq_getElem?_getD]; omega) | (rw [Bool.eq_iff_iff]; simp [-List.getD_eq_getElem?_getD]; omega) | (simp [-List.getD_eq_getElem?_getD] at *; omega)) | (rw [Bool.eq_iff_iff]; simp only [Bool.not_eq_true', decide_eq_true_eq]; constructor; (intro h; exact .inr (.inr (.inr h))); (rintro (h | h | h | h) <;> first | omega | exact h))), trivial⟩ (by simp) (by repeat first | exact .refl _ | refine .cons _ ?_)
  refine Kseq.go ?_
  refine W.cond rfl rfl (fun h3 => ?_) (fun h3 => ?_)
  · refine W.seq ?_
    refine W.region ?_; refine .o rfl ?_; refine WL.nil ?_; refine Kseq.go ?_
    refine W.ret ?_; refine Kblock.ret (Kseq.ret ?_); refine ⟨.inl rfl, [_], h, ⟨.tmp rfl, trivial⟩, (by repeat constructor), ?_⟩
    rw [if_pos h3]; rfl
  refine W.seq ?_
  rw [if_neg (by simpa using h3)]
  have harg := h3
  unfold arg6 at harg
  rw [decide_eq_false_iff_not] at harg
  have hfit : FitH r := ⟨by unfold House.things at *; omega, by omega⟩
  refine W.toS [(1, .pointer (some ⟨b1, 0, none⟩)), (73, .bool (bad6 r))] ?_ ?_
  · skip
    refine W.region ?_; refine .val (.fieldAddrB rfl) rfl rfl rfl ?_; refine .val (.loadB rfl (.head _) rfl) rfl rfl rfl ?_; refine .o rfl ?_; refine .val (.cast (.call rfl (fun m hm => all6T_any (p := fun i => touchOk r (r.touches.getD i default)) (hT.le (by repeat first | exact hm.1 | replace hm := hm.2)) (fun i hi m' hm' => touch6_any (r.touches.getD i default) ((hv'.le (by repeat first | exact hm.1 | replace hm := hm.2)).le hm') hfit))) (show _ = Value.bool (!badOf r.touches (touchOk r)) from rfl)) rfl rfl rfl ?_
    iterate 2 refine .o rfl ?_
    refine WL.splitB rfl rfl (fun g79 => ?_) (fun g79 => ?_)
    · refine WL.pass rfl rfl rfl ?_
      refine WL.pass rfl rfl rfl ?_; refine WL.pass rfl rfl rfl ?_; refine WL.pass rfl rfl rfl ?_; refine WL.pass rfl rfl rfl ?_
      iterate 2 refine .o rfl ?_
      refine WL.pass rfl rfl rfl ?_; refine WL.pass rfl rfl rfl ?_; refine WL.pass rfl rfl rfl ?_; refine WL.pass rfl rfl rfl ?_; refine WL.pass rfl rfl rfl ?_
      iterate 2 refine .o rfl ?_
      refine WL.nil ?_
      exact Keff.intro ⟨rfl, congrArg (fun b => some (Value.bool b)) (by unfold bad6; exact (by first | (simp [-List.getD_eq_getElem?_getD]; done) | (simp_all [-List.getD_eq_getElem?_getD]; done) | (simp [-List.getD_eq_getElem?_getD]; omega) | (rw [Bool.eq_iff_iff]; simp [-List.getD_eq_getElem?_getD]; omega) | (simp [-List.getD_eq_getElem?_getD] at *; omega))), trivial⟩ (by simp) (by repeat first | exact .refl _ | refine .cons _ ?_)
    · refine .val (.fieldAddrB rfl) rfl rfl rfl ?_
      refine .val (.loadB rfl (.head _) rfl) rfl rfl rfl ?_; refine .o rfl ?_; refine .val (.cast (.call rfl (fun m hm => all6B_any (p := fun i => boilOk r (r.boiled.getD i default)) (hB.le (by repeat first | exact hm.1 | replace hm := hm.2)) (fun i hi m' hm' => boiling6_any (r.boiled.getD i default) ((hv'.le (by repeat first | exact hm.1 | replace hm := hm.2)).le hm') hfit))) (show _ = Value.bool (!badOf r.boiled (boilOk r)) from rfl)) rfl rfl rfl ?_
      iterate 3 refine .o rfl ?_
      refine WL.splitB rfl rfl (fun g86 => ?_) (fun g86 => ?_)
      · refine WL.pass rfl rfl rfl ?_
        refine WL.pass rfl rfl rfl ?_; refine WL.pass rfl rfl rfl ?_; refine WL.pass rfl rfl rfl ?_; refine WL.pass rfl rfl rfl ?_
        iterate 2 refine .o rfl ?_
        refine WL.nil ?_
        exact Keff.intro ⟨rfl, congrArg (fun b => some (Value.bool b)) (by unfold bad6; exact (by first | (simp [-List.getD_eq_getElem?_getD]; done) | (simp_all [-List.getD_eq_getElem?_getD]; done) | (simp [-List.getD_eq_getElem?_getD]; omega) | (rw [Bool.eq_iff_iff]; simp [-List.getD_eq_getElem?_getD]; omega) | (simp [-List.getD_eq_getElem?_getD] at *; omega))), trivial⟩ (by simp) (by repeat first | exact .refl _ | refine .cons _ ?_)
      · refine .val (.fieldAddrB rfl) rfl rfl rfl ?_
        refine .val (.loadB rfl (.head _) rfl) rfl rfl rfl ?_; refine .o rfl ?_; refine .val (.cast (.call rfl (fun m hm => all6S_any (p := fun i => signOk r (r.signs.getD i default)) (hS.le (by repeat first | exact hm.1 | replace hm := hm.2)) (fun i hi m' hm' => sign6_any (r.signs.getD i default) ((hv'.le (by repeat first | exact hm.1 | replace hm := hm.2)).le hm') hfit))) (show _ = Value.bool (!badOf r.signs (signOk r)) from rfl)) rfl rfl rfl ?_
        iterate 3 refine .o rfl ?_
        refine WL.nil ?_
        exact Keff.intro ⟨rfl, congrArg (fun b => some (Value.bool b)) (by unfold bad6; exact (by first | (simp [-List.getD_eq_getElem?_getD]; done) | (simp_all [-List.getD_eq_getElem?_getD]; done) | (simp [-List.getD_eq_getElem?_getD]; omega) | (rw [Bool.eq_iff_iff]; simp [-List.getD_eq_getElem?_getD]; omega) | (simp [-List.getD_eq_getElem?_getD] at *; omega))), trivial⟩ (by simp) (by repeat first | exact .refl _ | refine .cons _ ?_)
  refine Kseq.go ?_
  refine W.cond rfl rfl (fun h4 => ?_) (fun h4 => ?_)
  · refine W.seq ?_
    refine W.region ?_; refine .o rfl ?_; refine WL.nil ?_; refine Kseq.go ?_
    refine W.ret ?_; refine Kblock.ret (Kseq.ret ?_); refine ⟨.inl rfl, [_], h, ⟨.tmp rfl, trivial⟩, (by repeat constructor), ?_⟩
    rw [if_pos h4]; rfl
  refine W.seq ?_
  rw [if_neg (by simpa using h4)]
  have hb : badOf r.touches (touchOk r) = false := by
    unfold bad6 at h4
    simp only [Bool.or_eq_false_iff] at h4
    exact h4.1.1
  refine W.region ?_; refine .val (.loadBW rfl (.head _) rfl) rfl rfl rfl ?_; refine .val (.call rfl (fun m hm => many6_any (hv'.le (by repeat first | exact hm.1 | replace hm := hm.2)) hs (touchZ hb (by omega)))) rfl rfl rfl ?_
  iterate 2 refine .o rfl ?_
  refine WL.nil ?_; refine Kseq.go ?_
  refine W.cond rfl rfl (fun h5 => ?_) (fun h5 => ?_)
  · have h5' := h5
    rw [manyQ_gt] at h5'
    refine W.seq ?_; refine W.region ?_; refine .o rfl ?_; refine WL.nil ?_; refine Kseq.go ?_
    refine W.ret ?_; refine Kblock.ret (Kseq.ret ?_); refine ⟨.inl rfl, [_], h, ⟨.tmp rfl, trivial⟩, (by repeat constructor), ?_⟩
    rw [if_pos (of_decide_eq_true h5')]; rfl
  refine W.skip (Kblock.normal (Kseq.go (W.seq ?_)))
  have h5' := h5
  rw [manyQ_gt] at h5'
  refine W.region ?_; refine .o rfl ?_; refine WL.nil ?_; refine Kseq.go ?_
  refine W.ret ?_; refine ⟨.inl rfl, [_], h, ⟨.tmp rfl, trivial⟩, (by repeat constructor), ?_⟩
  rw [if_neg (of_decide_eq_false h5')]; rfl
end Go.Proofs.Ytdnbkjgbehakpaa
