/- The program's functions of chapter 6: Leave. -/
import Derived.Test.YtdnbkjgbehakpaaT116
import Derived.Test.YtdnbkjgbehakpaaT29
import Derived.Test.YtdnbkjgbehakpaaT120
import Derived.Test.YtdnbkjgbehakpaaE18
namespace Go.Proofs.Ytdnbkjgbehakpaa
open Go Go.Eng Go.RowKit

/-- leave, within Leave -/
theorem leave6In_any {r : House} (hV : ValidH r) (hs : SmH r) {tv : Value} {bf b1 b6 : Nat} :
    ∀ (many : Nat) (out : List Int) (s : Nat) (hm : Mem) (ov fv : Value), IsHouse hm tv r → IsBox hm b1 tv.cells 34 → IsBox hm b6 #[.func (.func 67) #[] #[.pointer (some ⟨bf, 0, none⟩), .pointer (some ⟨b1, 0, none⟩), .pointer (some ⟨b6, 0, none⟩)]] 77 →
      IsInts hm ov out → out.length + many ≤ 1000 → s ≤ 1000 → many ≤ r.signs.length →
      FnM Try.prog 67 #[ov, vi s, vi many, .pointer (some ⟨bf, 0, none⟩), .pointer (some ⟨b1, 0, none⟩), .pointer (some ⟨b6, 0, none⟩)] [hm] [.blk bf #[fv] 22]
        (fun v Ms' μ' => ∃ fv', μ' = [.blk bf #[fv'] 22] ∧ ((∃ c, setR (possible6 r) r.signs.length many out s = some c ∧ v = .bool true ∧ ∃ m ∈ Ms', IsInts m fv' c) ∨ (setR (possible6 r) r.signs.length many out s = none ∧ v = .bool false))) := by
  intro many
  induction many with
  | zero =>
    intro out s hm ov fv hv hb1 hb6 ho hlen hsle hmw
    have hv' := hv
    obtain ⟨wv, pv, kv, tv, bv, sv, f, rfl, hA⟩ := hv
    have hS := hA.S
    obtain ⟨oa, oc, rfl⟩ := IsArr.form ho
    refine FnM.of_W (n := 38) Try.func67 rfl rfl (Nat.le_of_ble_eq_true rfl) rfl fun c hr hD hF => ?_
    refine W.seq ?_; refine W.region ?_; refine .o rfl ?_; refine WL.nil ?_
    refine Kseq.go (W.seq (W.seq ?_))
    refine W.region ?_
    iterate 2 refine .o rfl ?_
    refine WL.nil ?_; refine Kseq.go ?_; refine W.condT rfl rfl ?_; refine W.seq ?_; refine W.region ?_; refine .o rfl ?_
    (refine WL.store [_] rfl (.head _) rfl rfl rfl (Nat.le_of_ble_eq_true rfl) (by simp [Value.cells, Value.oneCell']) rfl ?_)
    refine WL.nil ?_
    refine Kseq.go (W.seq ?_)
    refine W.region ?_; refine .val (.loadPW rfl (by assumption) (by repeat constructor) (by rfl)) rfl rfl rfl ?_; refine .o rfl ?_; refine .val (.call rfl (fun m hm => possible6_any (hv'.le (by repeat first | exact hm.1 | replace hm := hm.2)) hV hs (ho.le (by repeat first | exact hm.1 | replace hm := hm.2)))) rfl rfl rfl ?_; refine .o rfl ?_; refine WL.nil ?_; refine Kseq.go ?_
    refine W.ret ?_; refine Kseq.ret ?_
    refine ⟨.inl rfl, [_], [hm], _, ⟨.tmp rfl, trivial⟩, ⟨_, rfl, ?_⟩, by simp, .refl _, by simp [markOf]⟩
    cases hp : possible6 r out with
    | true => exact .inl ⟨out, by simp [setR, hp], rfl, hm, .head _, ho⟩
    | false => exact .inr ⟨by simp [setR, hp], rfl⟩
  | succ m ih =>
    intro out s hm ov fv hv hb1 hb6 ho hlen hsle hmw
    have hv' := hv
    obtain ⟨wv, pv, kv, tv, bv, sv, f, rfl, hA⟩ := hv
    have hS := hA.S
    have hs1 := hs.signs
    refine FnM.of_W (n := 38) Try.func67 rfl rfl (Nat.le_of_ble_eq_true rfl) rfl fun c hr hD hF => ?_
    refine W.seq ?_; refine W.region ?_; refine .o rfl ?_; refine WL.nil ?_
    refine Kseq.go (W.seq (W.seq ?_))
    refine W.region ?_
    iterate 2 refine .o rfl ?_
    refine WL.nil ?_; refine Kseq.go ?_
    refine W.condD rfl rfl (fun he => absurd he (by omega)) (fun hne => ?_)
    refine W.skip (Kseq.go (W.seq (W.seq ?_)))
    refine W.region ?_
    iterate 2 refine .o rfl ?_
    refine WL.nil ?_
    refine Kseq.go (W.block ?_)
    have hall : ∀ {i : Nat}, (∀ j, s ≤ j → j < i → setR (possible6 r) r.signs.length m (out ++ [(j : Int)]) (j + 1) = none) → r.signs.length - m ≤ i → setR (possible6 r) r.signs.length (m + 1) out s = none := fun {i} h1 h2 => by
      simp only [setR]
      exact fsome_none fun j k1 k2 => h1 j k1 (by omega)
    refine W.loop (σ := Nat × Value) (fun x => [(0, ov), (2, vi ((m + 1 : Nat) : Int)), (3, .pointer (some ⟨bf, 0, none⟩)), (4, .pointer (some ⟨b1, 0, none⟩)), (5, .pointer (some ⟨b6, 0, none⟩)), (10, .int .i64 (x.1 : Int))]) (fun _ => [hm]) (fun x => [.blk bf #[x.2] 22])
      (fun x => s ≤ x.1 ∧ x.1 ≤ 1001 ∧ ∀ j, s ≤ j → j < x.1 → setR (possible6 r) r.signs.length m (out ++ [(j : Int)]) (j + 1) = none) (fun x => 1001 - x.1) (s, fv) ⟨rfl, rfl, rfl, rfl, rfl, rfl, trivial⟩ (by simp) (.refl _) ⟨Nat.le_refl _, by dsimp only; omega, fun j k1 k2 => absurd k1 (by dsimp only at k2; omega)⟩ ?_
    rintro ⟨i, fv1⟩ ⟨hsi, hib, hprev⟩
    dsimp only at hsi hib hprev ⊢
    refine W.seq (W.seq ?_)
    refine W.region ?_; refine .o rfl ?_; refine .val (.fieldAddrB rfl) rfl rfl rfl ?_; refine .val (.loadP rfl (by assumption) (by repeat constructor) rfl) rfl rfl rfl ?_; refine .val (.len rfl (by assumption)) rfl rfl rfl ?_; refine .o rfl ?_; refine .val (.sub rfl rfl (by omega) (by omega)) rfl rfl rfl ?_; refine .o rfl ?_; refine WL.nil ?_; refine Kseq.go ?_
    refine W.condD rfl rfl (fun hle => ?_) (fun hgt => ?_)
    · have hiw : i + (m + 1) ≤ r.signs.length := by omega
      let l0 : List (Nat × Value) := [(0, ov), (2, vi ((m + 1 : Nat) : Int)), (3, .pointer (some ⟨bf, 0, none⟩)), (4, .pointer (some ⟨b1, 0, none⟩)), (5, .pointer (some ⟨b6, 0, none⟩)), (10, .int .i64 (i : Int))]
      refine W.skip (Kseq.go (W.seq (W.block (W.seq ?_))))
      refine W.weaken l0 [hm] [.blk bf #[fv1] 22] (by repeat (first | exact trivial | refine ⟨rfl, ?_⟩)) (by simp) (.refl _) ?_; refine W.drawN (γ := Ph2 Value (Option Addr × Nat)) .a 10 [2, 5] (Ph2.sel l0 (fun r => (29, r) :: l0) (fun r g => (32, .slice g.1 (out.length + 1) g.2) :: (29, r) :: l0)) (Ph2.sel [.blk bf #[fv1] 22] (fun r => [.blk bf #[fv1] 22, ir 3 r out]) (fun r g => [.blk bf #[fv1] 22, ir 3 (.slice g.1 (out.length + 1) g.2) (out ++ [(i : Int)])])) Ph2.num (by kernel_rfl) (by kernel_rfl) (by kernel_rfl) rfl Ph2.le (Ph2.all rfl (fun _ => rfl) (fun _ _ => rfl)) rfl rfl ?_; refine DJN.val [] (Ph2.all (fun hg => (by first | exact OpVal.loadB rfl (.head _) rfl | exact OpVal.loadB rfl (.tail _ (.head _)) rfl | exact OpVal.loadB rfl (.tail _ (.tail _ (.head _))) rfl | exact OpVal.loadB rfl (.tail _ (.tail _ (.tail _ (.head _)))) rfl | exact OpVal.loadB rfl (.tail _ (.tail _ (.tail _ (.tail _ (.head _))))) rfl | exact OpVal.loadB rfl (.tail _ (.tail _ (.tail _ (.tail _ (.tail _ (.head _)))))) rfl | exact OpVal.loadP rfl (by assumption) (by repeat constructor) rfl)) (fun x1 hg => (by first | exact OpVal.loadB rfl (.head _) rfl | exact OpVal.loadB rfl (.tail _ (.head _)) rfl | exact OpVal.loadB rfl (.tail _ (.tail _ (.head _))) rfl | exact OpVal.loadB rfl (.tail _ (.tail _ (.tail _ (.head _)))) rfl | exact OpVal.loadB rfl (.tail _ (.tail _ (.tail _ (.tail _ (.head _))))) rfl | exact OpVal.loadB rfl (.tail _ (.tail _ (.tail _ (.tail _ (.tail _ (.head _)))))) rfl | exact OpVal.loadP rfl (by assumption) (by repeat constructor) rfl)) (fun x1 x2 hg => (by first | exact OpVal.loadB rfl (.head _) rfl | exact OpVal.loadB rfl (.tail _ (.head _)) rfl | exact OpVal.loadB rfl (.tail _ (.tail _ (.head _))) rfl | exact OpVal.loadB rfl (.tail _ (.tail _ (.tail _ (.head _)))) rfl | exact OpVal.loadB rfl (.tail _ (.tail _ (.tail _ (.tail _ (.head _))))) rfl | exact OpVal.loadB rfl (.tail _ (.tail _ (.tail _ (.tail _ (.tail _ (.head _)))))) rfl | exact OpVal.loadP rfl (by assumption) (by repeat constructor) rfl))) (Ph2.all (fun hg => rfl) (fun x1 hg => rfl) (fun x1 x2 hg => rfl)) rfl rfl (Ph2.all rfl (fun _ => rfl) (fun _ _ => rfl)) rfl ?_
      refine DJN.val [] (Ph2.all (fun hg => OpVal.opv rfl) (fun x1 hg => Bool.noConfusion (show false = true from hg)) (fun x1 x2 hg => Bool.noConfusion (show false = true from hg))) (Ph2.all (fun hg => rfl) (fun x1 hg => Bool.noConfusion (show false = true from hg)) (fun x1 x2 hg => Bool.noConfusion (show false = true from hg))) rfl rfl (Ph2.all rfl (fun _ => rfl) (fun _ _ => rfl)) rfl ?_; refine DJN.eff 0 [(28, _)] ⟨rfl, trivial⟩ rfl rfl [] trivial (Ph2.all (fun hg => ⟨rfl, fun M2 hM2 => ?_⟩) (fun x1 hg => absurd hg (by simp [Ph2.num])) (fun x1 x2 hg => absurd hg (by simp [Ph2.num]))) ?_
      · (refine WL.callM rfl rfl (M0 := [hm]) (fun x hx => hM2 x hx) (Split.none _) rfl (cloneM_any ho (by omega)) rfl rfl rfl ?_; rintro r M1 a1 ⟨rfl, rfl, hr⟩; exact WL.nil ⟨.b r, rfl, Keff.intro (by repeat (first | exact trivial | refine ⟨rfl, ?_⟩)) (fun x hx => hx) (.refl _)⟩)
      refine DJN.val [] (Ph2.all (fun hg => OpVal.opv rfl) (fun x1 hg => OpVal.opv rfl) (fun x1 x2 hg => OpVal.opv rfl)) (Ph2.all (fun hg => rfl) (fun x1 hg => rfl) (fun x1 x2 hg => rfl)) rfl rfl (Ph2.all rfl (fun _ => rfl) (fun _ _ => rfl)) rfl ?_; refine DJN.abs (A := fun m r => IsCells m 1 r 1 [vi i]) [] (Ph2.all (fun hg => (OpAbs.litI rfl)) (fun x1 hg => (OpAbs.litI rfl)) (fun x1 x2 hg => Bool.noConfusion (show false = true from hg))) (Ph2.all (fun hg => rfl) (fun x1 hg => rfl) (fun x1 x2 hg => Bool.noConfusion (show false = true from hg))) rfl rfl (Ph2.all rfl (fun _ => rfl) (fun _ _ => rfl)) rfl ?_; refine DJN.eff 1 [] trivial rfl rfl [(31, fun m r => IsCells m 1 r 1 [vi i])] ⟨(by repeat constructor), rfl, trivial⟩ (Ph2.all (fun hg => absurd hg (by simp [Ph2.num])) (fun x1 hg => ⟨rfl, fun M2 hM2 => ?_⟩) (fun x1 x2 hg => absurd hg (by simp [Ph2.num]))) ?_
      · intro m31 v31 h31
        (refine WL.appInt (k := (i : Int)) rfl (fun _ => .tail _ (.head _)) rfl h31 (.head _) (by omega) rfl rfl rfl ?_; intro a32 c32; exact WL.nil ⟨.c x1 (a32, c32), rfl, Keff.intro (by repeat (first | exact trivial | refine ⟨rfl, ?_⟩)) (fun x hx => .tail _ hx) (.refl _)⟩)
      refine DJN.val [] (Ph2.all (fun hg => OpVal.opv rfl) (fun x1 hg => OpVal.opv rfl) (fun x1 x2 hg => OpVal.opv rfl)) (Ph2.all (fun hg => rfl) (fun x1 hg => rfl) (fun x1 x2 hg => rfl)) rfl rfl (Ph2.all rfl (fun _ => rfl) (fun _ _ => rfl)) rfl ?_; refine DJN.val [] (Ph2.all (fun hg => (by first | exact OpVal.incr rfl (by omega) | exact OpVal.add rfl rfl (by omega) (by omega))) (fun x1 hg => (by first | exact OpVal.incr rfl (by omega) | exact OpVal.add rfl rfl (by omega) (by omega))) (fun x1 x2 hg => (by first | exact OpVal.incr rfl (by omega) | exact OpVal.add rfl rfl (by omega) (by omega)))) (Ph2.all (fun hg => rfl) (fun x1 hg => rfl) (fun x1 x2 hg => rfl)) rfl rfl (Ph2.all rfl (fun _ => rfl) (fun _ _ => rfl)) rfl ?_; refine DJN.val [] (Ph2.all (fun hg => OpVal.opv rfl) (fun x1 hg => OpVal.opv rfl) (fun x1 x2 hg => OpVal.opv rfl)) (Ph2.all (fun hg => rfl) (fun x1 hg => rfl) (fun x1 x2 hg => rfl)) rfl rfl (Ph2.all rfl (fun _ => rfl) (fun _ _ => rfl)) rfl ?_
      refine DJN.val [] (Ph2.all (fun hg => OpVal.cast (.sub rfl rfl (by omega) (by omega)) (congrArg (Value.int .i64) (show ((m + 1 : Nat) : Int) - 1 = (m : Int) by omega))) (fun x1 hg => OpVal.cast (.sub rfl rfl (by omega) (by omega)) (congrArg (Value.int .i64) (show ((m + 1 : Nat) : Int) - 1 = (m : Int) by omega))) (fun x1 x2 hg => OpVal.cast (.sub rfl rfl (by omega) (by omega)) (congrArg (Value.int .i64) (show ((m + 1 : Nat) : Int) - 1 = (m : Int) by omega)))) (Ph2.all (fun hg => rfl) (fun x1 hg => rfl) (fun x1 x2 hg => rfl)) rfl rfl (Ph2.all rfl (fun _ => rfl) (fun _ _ => rfl)) rfl ?_
      refine DJN.nil (Ph2.all (fun hg => absurd hg (by simp [Ph2.num])) (fun x1 hg => absurd hg (by simp [Ph2.num])) (fun x1 x2 hg => ?_))
      rintro m31 v31 h31
      (refine WL.freezeInts (.tail _ (.head _)) (fun b hb => hF b hb) fun mo hmo => ?_; refine WL.join fun mj hj => ?_; refine WL.callM rfl rfl (M0 := [mj]) (by simp) (Split.all _) rfl (ih (out ++ [(i : Int)]) (i + 1) mj _ fv1 (hv'.le (hj _ (by simp))) (hb1.le (hj _ (by simp))) (hb6.le (hj _ (by simp))) (IsInts.le (by simpa using hmo) (hj mo (by simp))) (by simp; omega) (by omega) (by omega)) rfl rfl rfl ?_; rintro v37 M1 a1 ⟨fv2, rfl, hres⟩)
      refine WL.nil ?_; refine Kseq.go ?_
      rcases hres with ⟨c', hc, rfl, mr, hmr, hI⟩ | ⟨hc, rfl⟩
      · refine W.condT rfl rfl ?_
        refine W.seq ?_; refine W.region ?_; refine .o rfl ?_; refine WL.nil ?_; refine Kseq.go ?_
        refine W.ret ?_; refine Kblock.ret (Kseq.ret (Kloop.ret (Kblock.ret (Kseq.ret ?_))))
        refine ⟨.inl rfl, [_], M1, _, ⟨.tmp rfl, trivial⟩, ⟨fv2, rfl, .inl ⟨c', ?_, rfl, mr, hmr, hI⟩⟩, fun x hx => List.mem_append_left _ hx, .refl _, by simp [markOf]⟩
        simp only [setR]
        exact fsome_hit hsi (by omega) hprev hc
      · refine W.condF rfl rfl ?_
        refine W.skip (Kblock.normal (Kseq.go ?_))
        refine W.region ?_; refine .o rfl ?_; refine .val (.incr rfl (by omega)) rfl rfl rfl ?_; refine .o rfl ?_; refine WL.nil ?_
        refine Kloop.next (i + 1, fv2) ⟨by omega, by omega, fun j k1 k2 => ?_⟩ (by omega) ⟨rfl, rfl, rfl, rfl, rfl, rfl, trivial⟩ (fun x hx => List.mem_append_right _ (by simp at hx; simp [hx])) (.refl _)
        rcases Nat.lt_succ_iff_lt_or_eq.1 k2 with h2 | rfl
        · exact hprev j k1 h2
        · exact hc
    · refine W.exit (Kseq.exit (Kloop.exit (Kblock.here (Kseq.go (W.seq ?_)))))
      refine W.region ?_; refine .o rfl ?_; refine WL.nil ?_; refine Kseq.go ?_
      refine W.ret ?_; skip
      refine ⟨.inl rfl, [_], [hm], _, ⟨.tmp rfl, trivial⟩, ⟨_, rfl, .inr ⟨hall hprev (by omega), rfl⟩⟩, by simp, .refl _, by simp [markOf]⟩
/-- Leave -/
theorem leave6_any {h : Mem} {v : Value} {r : House} (hv : IsHouse h v r) (hs : SmH r) : FnR Try.prog 48 #[v] h (fun m q => ∃ lv, q = .tuple #[lv, vi (fault6 r)] ∧ (fault6 r ≠ 0 → lv = .slice none 0 0) ∧ (fault6 r = 0 → ∀ c, leave6 r = some c → IsInts m lv c)) := by
  have hv' := hv
  obtain ⟨wv, pv, kv, tv, bv, sv, f, rfl, hA⟩ := hv
  have hS := hA.S
  have hs1 := hs.signs
  refine FnR.of_W (n := 26) Try.func48 rfl rfl (Nat.le_of_ble_eq_true rfl) fun c hr hD hF => ?_
  refine W.seq ?_; refine W.region ?_
  refine WL.box rfl rfl rfl rfl (fun b1 => ?_)
  iterate 2 refine .o rfl ?_
  refine WL.nil ?_
  refine Kseq.go (W.seq (W.seq ?_))
  refine W.freezeBox (.head _) (fun b hb => (hF b hb).elim) fun m1 h1 => ?_
  refine W.region ?_; refine .val (.loadPW rfl (by assumption) (by repeat constructor) (by rfl)) rfl rfl rfl ?_; refine .val (.call rfl (fun m hm => checkHouse_any (hv'.le (by repeat first | exact hm.1 | replace hm := hm.2)) hs)) rfl rfl rfl ?_; refine .o rfl ?_; refine WL.nil ?_
  refine Kseq.go (W.seq ?_)
  refine W.region ?_
  iterate 2 refine .o rfl ?_
  refine WL.nil ?_; refine Kseq.go ?_
  refine W.cond rfl rfl (fun he => ?_) (fun hne => ?_)
  · refine W.seq ?_
    refine W.region ?_
    iterate 3 refine .o rfl ?_
    refine WL.nil ?_; refine Kseq.go ?_
    refine W.ret ?_; refine Kseq.ret ?_; refine ⟨.inl rfl, [_, _], h, ⟨.tmp rfl, .tmp rfl, trivial⟩, (by repeat constructor), ?_⟩
    have he' : fault6 r ≠ 0 := by simpa using he
    exact ⟨_, rfl, fun _ => rfl, fun h0 => absurd h0 he'⟩
  have hf0 : fault6 r = 0 := by simpa using hne
  have hVa := fault6_zero.1 hf0
  refine W.skip (Kseq.go (W.seq ?_))
  refine W.region ?_
  refine WL.alloc rfl rfl rfl (fun b5 => ?_)
  refine WL.nil ?_
  refine Kseq.go (W.seq ?_)
  refine W.region ?_
  refine WL.alloc rfl rfl rfl (fun b6 => ?_)
  refine WL.nil ?_
  refine Kseq.go (W.seq ?_)
  refine W.region ?_; refine .o rfl ?_
  refine WL.store [_] rfl (.head _) rfl rfl rfl (Nat.le_of_ble_eq_true rfl) (by first | (simp [Value.cells, Value.oneCell']; done) | exact IsArr.ones hW (by omega) | exact IsArr.ones hP (by omega) | exact IsArr.ones hS (by omega) | exact IsArr.ones hH (by omega) | exact IsArr.ones hL (by omega) | exact IsArr.ones hB (by omega) | exact IsArr.ones hT (by omega) | exact IsArr.ones hm (by omega)) rfl ?_
  refine WL.nil ?_
  refine Kseq.go (W.seq (W.seq ?_))
  refine W.freezeBox (.head _) (fun b hb => (hF b hb).elim) fun m6 h6 => ?_
  refine W.join fun mj hj => ?_
  have hvj := hv'.le (hj h (by simp))
  have h1j := h1.le (hj m1 (by simp))
  have h6j := h6.le (hj m6 (by simp))
  refine W.region ?_; refine .val (.fieldAddrB rfl) rfl rfl rfl ?_; refine .val (.loadP rfl (by assumption) (by repeat constructor) rfl) rfl rfl rfl ?_; refine .val (.len rfl (by assumption)) rfl rfl rfl ?_; refine .val (.incr rfl (by omega)) rfl rfl rfl ?_; refine .o rfl ?_; refine WL.nil ?_
  refine Kseq.go (W.block ?_)
  refine W.loop (σ := Nat × Value) (fun s => [(1, .pointer (some ⟨b1, 0, none⟩)), (5, .pointer (some ⟨b5, 0, none⟩)), (6, .pointer (some ⟨b6, 0, none⟩)), (17, .int .i64 ((r.signs.length + 1 : Nat) : Int)), (18, .int .i64 (s.1 : Int))]) (fun _ => [mj]) (fun s => [.blk b5 #[s.2] 22])
    (fun s => s.1 ≤ r.signs.length + 1 ∧ ∀ j, j < s.1 → setR (possible6 r) r.signs.length j [] 0 = none) (fun s => r.signs.length + 1 - s.1) (0, .slice none 0 0) ⟨rfl, rfl, rfl, rfl, rfl, trivial⟩ (by simp) (.refl _) ⟨Nat.zero_le _, fun j hj => absurd hj (Nat.not_lt_zero _)⟩ ?_
  rintro ⟨k, fv⟩ ⟨hk, hprev⟩
  dsimp only at hk hprev ⊢
  refine W.seq ?_; refine W.region ?_; refine .o rfl ?_; refine WL.nil ?_
  refine Kseq.go (W.seq ?_)
  refine W.condD rfl rfl (fun hlt => ?_) (fun hge => ?_)
  · refine W.skip (Kseq.go (W.seq (W.block (W.seq ?_))))
    refine W.region ?_
    iterate 2 refine .o rfl ?_
    refine WL.nil ?_
    refine Kseq.go (W.seq ?_)
    refine W.region ?_; refine .val (.loadP rfl (by assumption) (by repeat constructor) rfl) rfl rfl rfl ?_; refine .o rfl ?_
    (refine WL.callM rfl rfl (M0 := [mj]) (by simp) (Split.all _) rfl (leave6In_any hVa hs k [] 0 mj (.slice none 0 0) fv hvj h1j h6j (IsInts.nil _) (by simp; omega) (by omega) (by omega)) rfl rfl rfl ?_; rintro v23 M1 a1 ⟨fv2, rfl, hres⟩)
    refine WL.nil ?_; refine Kseq.go ?_
    rcases hres with ⟨c', hc, rfl, mr, hmr, hI⟩ | ⟨hc, rfl⟩
    · refine W.condT rfl rfl ?_
      refine W.exit (Kblock.past rfl (Kseq.exit (Kloop.exit (Kblock.here (Kseq.go (W.seq ?_))))))
      refine W.region ?_; refine .val (.loadB rfl (.head _) rfl) rfl rfl rfl ?_
      iterate 2 refine .o rfl ?_
      refine WL.nil ?_; refine Kseq.go ?_
      refine W.ret ?_; skip
      refine ⟨.inl rfl, [_, _], mr, ⟨.tmp rfl, .tmp rfl, trivial⟩, List.mem_append_left _ hmr, ?_⟩
      refine ⟨_, by rw [hf0]; rfl, fun h0 => absurd hf0 h0, fun _ c hcc => ?_⟩
      unfold leave6 setAll at hcc
      rw [fsome_hit (Nat.zero_le _) (by omega) (fun i _ h2 => hprev i h2) hc] at hcc
      cases hcc
      exact hI
    · refine W.condF rfl rfl ?_
      refine W.skip (Kblock.normal (Kseq.go ?_))
      refine W.region ?_; refine .val (.incr rfl (by omega)) rfl rfl rfl ?_; refine .o rfl ?_; refine WL.nil ?_
      refine Kloop.next (k + 1, fv2) ⟨by omega, fun j hj => ?_⟩ (by omega) ⟨rfl, rfl, rfl, rfl, rfl, trivial⟩ (fun x hx => List.mem_append_right _ hx) (.refl _)
      rcases Nat.lt_succ_iff_lt_or_eq.1 hj with h2 | rfl
      · exact hprev j h2
      · exact hc
  · refine W.exit (Kseq.exit (Kloop.exit (Kblock.here (Kseq.go (W.seq ?_)))))
    refine W.region ?_; refine .val (.loadB rfl (.head _) rfl) rfl rfl rfl ?_
    iterate 2 refine .o rfl ?_
    refine WL.nil ?_; refine Kseq.go ?_
    refine W.ret ?_; refine ⟨.inl rfl, [_, _], mj, ⟨.tmp rfl, .tmp rfl, trivial⟩, (by repeat constructor), ?_⟩
    refine ⟨_, by rw [hf0]; rfl, fun h0 => absurd hf0 h0, fun _ c hc => ?_⟩
    unfold leave6 setAll at hc
    rw [fsome_none (fun i _ h2 => hprev i (by omega))] at hc
    cases hc

end Go.Proofs.Ytdnbkjgbehakpaa

/- The program's functions of chapter 6: Boil. -/
namespace Go.Proofs.Ytdnbkjgbehakpaa
open Go Go.Eng Go.RowKit

/-- What asked returns. -/
def AskG (r : House) (v : Value) (fine : Bool) (m : Mem) (o : Option Addr) : Prop := (ask6E r fine ≠ 0 ∧ o = none) ∨ (ask6E r fine = 0 ∧ ValidH r ∧ fine = true ∧ ask6 r ≠ [] ∧ ∃ b, o = some ⟨b, 0, none⟩ ∧ IsWork6 m b v r)
theorem ask6E_ok {r : House} (hV : ValidH r) (hne : ask6 r ≠ []) : ask6E r true = 0 := by unfold ask6E; rw [fault6_zero.2 hV]; simp [hne]
theorem asked6G_any {h : Mem} {v : Value} {r : House} (fine : Bool) (hv : IsHouse h v r) (hs : SmH r) : FnR Try.prog 22 #[v, .bool fine] h (fun m q => ∃ o, q = .tuple #[.pointer o, vi (ask6E r fine)] ∧ AskG r v fine m o) :=
  (asked6_any fine hv hs).mono fun m q hq => by
    rcases hq with ⟨hE, rfl⟩ | ⟨hV, rfl, hne, b, rfl, hw⟩
    · exact ⟨none, rfl, .inl ⟨hE, rfl⟩⟩
    · exact ⟨_, by rw [ask6E_ok hV hne], .inr ⟨ask6E_ok hV hne, hV, rfl, hne, b, rfl, hw⟩⟩
def okA (r : House) (hour : Int) (x : List Int) : Bool := safeL r (ask6 r) (atL x hour)
/-- add, within Boil -/
theorem boil6In_any {r : House} (hV : ValidH r) (hs : SmH r) {tv : Value} {hour : Int} {bf bw bh b1 b6 b : Nat} :
    ∀ (many : Nat) (out : List Int) (s : Nat) (hm : Mem) (ov fv : Value), IsHouse hm tv r → IsBox hm b1 tv.cells 34 → IsBox hm bw #[.pointer (some ⟨b, 0, none⟩)] 73 → IsBox hm bh #[vi hour] 3 → IsWork6 hm b tv r → IsBox hm b6 #[.func (.func 24) #[] #[.pointer (some ⟨bf, 0, none⟩), .pointer (some ⟨bw, 0, none⟩), .pointer (some ⟨bh, 0, none⟩), .pointer (some ⟨b1, 0, none⟩), .pointer (some ⟨b6, 0, none⟩)]] 77 →
      IsInts hm ov out → out.length + many ≤ 1000 → s ≤ 1000 → many ≤ r.th →
      FnM Try.prog 24 #[ov, vi s, vi many, .pointer (some ⟨bf, 0, none⟩), .pointer (some ⟨bw, 0, none⟩), .pointer (some ⟨bh, 0, none⟩), .pointer (some ⟨b1, 0, none⟩), .pointer (some ⟨b6, 0, none⟩)] [hm] [.blk bf #[fv] 22]
        (fun v Ms' μ' => ∃ fv', μ' = [.blk bf #[fv'] 22] ∧ ((∃ c, setR (okA r hour) r.th many out s = some c ∧ v = .bool true ∧ ∃ m ∈ Ms', IsInts m fv' c) ∨ (setR (okA r hour) r.th many out s = none ∧ v = .bool false))) := by
  intro many
  induction many with
  | zero =>
    intro out s hm ov fv hv hb1 hbw hbh hwk hb6 ho hlen hsle hmw
    have hv' := hv
    obtain ⟨wv, pv, kv, tv, bv, sv, f, rfl, hA⟩ := hv
    have hth := hV.thW
    obtain ⟨oa, oc, rfl⟩ := IsArr.form ho
    refine FnM.of_W (n := 41) Try.func24 rfl rfl (Nat.le_of_ble_eq_true rfl) rfl fun c hr hD hF => ?_
    refine W.seq ?_; refine W.region ?_; refine .o rfl ?_; refine WL.nil ?_
    refine Kseq.go (W.seq (W.seq ?_))
    refine W.region ?_
    iterate 2 refine .o rfl ?_
    refine WL.nil ?_; refine Kseq.go ?_; refine W.condT rfl rfl ?_; refine W.seq ?_; refine W.region ?_; refine .o rfl ?_
    (refine WL.store [_] rfl (.head _) rfl rfl rfl (Nat.le_of_ble_eq_true rfl) (by simp [Value.cells, Value.oneCell']) rfl ?_)
    refine WL.nil ?_
    refine Kseq.go (W.seq ?_)
    refine W.draw 4 (by kernel_rfl) (by kernel_rfl) (by kernel_rfl) rfl ?_; refine .val [] (.loadP rfl hbw (by repeat constructor) rfl) rfl rfl rfl rfl ?_; refine .val [] (.opv rfl) rfl rfl rfl rfl ?_; refine .val [] (.loadP rfl hbh (by repeat constructor) rfl) rfl rfl rfl rfl ?_; refine DJ.abs (A := fun m q => IsBoils m q (atL out hour)) [] (OpAbs.call rfl (fun m hm => at6_any hour (ho.le (by repeat first | exact hm.1 | replace hm := hm.2)) (by omega))) rfl rfl rfl rfl ?_; refine DJ.nil ?_
    rintro m19 v19 h19
    refine .val (.cast (.call rfl (fun m hm => safe6_any (hv'.le (by repeat first | exact hm.1 | replace hm := hm.2)) hs hV (hwk.le (by repeat first | exact hm.1 | replace hm := hm.2)) (h19.le (by repeat first | exact hm.1 | replace hm := hm.2)) (by simp [atL]; omega))) (show _ = Value.bool (okA r hour out) from rfl)) rfl rfl rfl ?_
    refine .o rfl ?_; refine WL.nil ?_; refine Kseq.go ?_
    refine W.ret ?_; refine Kseq.ret ?_
    refine ⟨.inl rfl, [_], [hm], _, ⟨.tmp rfl, trivial⟩, ⟨_, rfl, ?_⟩, by simp, .refl _, by simp [markOf]⟩
    cases hp : okA r hour out with
    | true => exact .inl ⟨out, by simp [setR, hp], rfl, hm, .head _, ho⟩
    | false => exact .inr ⟨by simp [setR, hp], rfl⟩
  | succ m ih =>
    intro out s hm ov fv hv hb1 hbw hbh hwk hb6 ho hlen hsle hmw
    have hv' := hv
    obtain ⟨wv, pv, kv, tv, bv, sv, f, rfl, hA⟩ := hv
    have hth := hV.thW
    have hs1 := hV.th.2.2
    refine FnM.of_W (n := 41) Try.func24 rfl rfl (Nat.le_of_ble_eq_true rfl) rfl fun c hr hD hF => ?_
    refine W.seq ?_; refine W.region ?_; refine .o rfl ?_; refine WL.nil ?_
    refine Kseq.go (W.seq (W.seq ?_))
    refine W.region ?_
    iterate 2 refine .o rfl ?_
    refine WL.nil ?_; refine Kseq.go ?_
    refine W.condD rfl rfl (fun he => absurd he (by omega)) (fun hne => ?_)
    refine W.skip (Kseq.go (W.seq (W.seq ?_)))
    refine W.region ?_
    iterate 2 refine .o rfl ?_
    refine WL.nil ?_
    refine Kseq.go (W.block ?_)
    have hall : ∀ {i : Nat}, (∀ j, s ≤ j → j < i → setR (okA r hour) r.th m (out ++ [(j : Int)]) (j + 1) = none) → r.th - m ≤ i → setR (okA r hour) r.th (m + 1) out s = none := fun {i} h1 h2 => by
      simp only [setR]
      exact fsome_none fun j k1 k2 => h1 j k1 (by omega)
    refine W.loop (σ := Nat × Value) (fun x => [(0, ov), (2, vi ((m + 1 : Nat) : Int)), (3, .pointer (some ⟨bf, 0, none⟩)), (4, .pointer (some ⟨bw, 0, none⟩)), (5, .pointer (some ⟨bh, 0, none⟩)), (6, .pointer (some ⟨b1, 0, none⟩)), (7, .pointer (some ⟨b6, 0, none⟩)), (12, .int .i64 (x.1 : Int))]) (fun _ => [hm]) (fun x => [.blk bf #[x.2] 22])
      (fun x => s ≤ x.1 ∧ x.1 ≤ 1001 ∧ ∀ j, s ≤ j → j < x.1 → setR (okA r hour) r.th m (out ++ [(j : Int)]) (j + 1) = none) (fun x => 1001 - x.1) (s, fv) ⟨rfl, rfl, rfl, rfl, rfl, rfl, rfl, rfl, trivial⟩ (by simp) (.refl _) ⟨Nat.le_refl _, by dsimp only; omega, fun j k1 k2 => absurd k1 (by dsimp only at k2; omega)⟩ ?_
    rintro ⟨i, fv1⟩ ⟨hsi, hib, hprev⟩
    dsimp only at hsi hib hprev ⊢
    refine W.seq (W.seq ?_)
    refine W.region ?_; refine .o rfl ?_; refine .val (.loadPW rfl hb1 (by repeat constructor) rfl) rfl rfl rfl ?_; refine .val (.cast (.call rfl (fun m hm => things6_any (hv'.le (by repeat first | exact hm.1 | replace hm := hm.2)))) (congrArg (Value.int .i64) hth)) rfl rfl rfl ?_; refine .o rfl ?_; refine .val (.sub rfl rfl (by omega) (by omega)) rfl rfl rfl ?_; refine .o rfl ?_; refine WL.nil ?_; refine Kseq.go ?_
    refine W.condD rfl rfl (fun hle => ?_) (fun hgt => ?_)
    · have hiw : i + (m + 1) ≤ r.th := by omega
      let l0 : List (Nat × Value) := [(0, ov), (2, vi ((m + 1 : Nat) : Int)), (3, .pointer (some ⟨bf, 0, none⟩)), (4, .pointer (some ⟨bw, 0, none⟩)), (5, .pointer (some ⟨bh, 0, none⟩)), (6, .pointer (some ⟨b1, 0, none⟩)), (7, .pointer (some ⟨b6, 0, none⟩)), (12, .int .i64 (i : Int))]
      refine W.skip (Kseq.go (W.seq (W.block (W.seq ?_))))
      refine W.weaken l0 [hm] [.blk bf #[fv1] 22] (by repeat (first | exact trivial | refine ⟨rfl, ?_⟩)) (by simp) (.refl _) ?_; refine W.drawN (γ := Ph2 Value (Option Addr × Nat)) .a 10 [2, 5] (Ph2.sel l0 (fun q => (32, q) :: l0) (fun q g => (35, .slice g.1 (out.length + 1) g.2) :: (32, q) :: l0)) (Ph2.sel [.blk bf #[fv1] 22] (fun q => [.blk bf #[fv1] 22, ir 3 q out]) (fun q g => [.blk bf #[fv1] 22, ir 3 (.slice g.1 (out.length + 1) g.2) (out ++ [(i : Int)])])) Ph2.num (by kernel_rfl) (by kernel_rfl) (by kernel_rfl) rfl Ph2.le (Ph2.all rfl (fun _ => rfl) (fun _ _ => rfl)) rfl rfl ?_; refine DJN.val [] (Ph2.all (fun hg => (by first | exact OpVal.loadB rfl (.head _) rfl | exact OpVal.loadB rfl (.tail _ (.head _)) rfl | exact OpVal.loadB rfl (.tail _ (.tail _ (.head _))) rfl | exact OpVal.loadB rfl (.tail _ (.tail _ (.tail _ (.head _)))) rfl | exact OpVal.loadB rfl (.tail _ (.tail _ (.tail _ (.tail _ (.head _))))) rfl | exact OpVal.loadB rfl (.tail _ (.tail _ (.tail _ (.tail _ (.tail _ (.head _)))))) rfl | exact OpVal.loadP rfl (by assumption) (by repeat constructor) rfl)) (fun x1 hg => (by first | exact OpVal.loadB rfl (.head _) rfl | exact OpVal.loadB rfl (.tail _ (.head _)) rfl | exact OpVal.loadB rfl (.tail _ (.tail _ (.head _))) rfl | exact OpVal.loadB rfl (.tail _ (.tail _ (.tail _ (.head _)))) rfl | exact OpVal.loadB rfl (.tail _ (.tail _ (.tail _ (.tail _ (.head _))))) rfl | exact OpVal.loadB rfl (.tail _ (.tail _ (.tail _ (.tail _ (.tail _ (.head _)))))) rfl | exact OpVal.loadP rfl (by assumption) (by repeat constructor) rfl)) (fun x1 x2 hg => (by first | exact OpVal.loadB rfl (.head _) rfl | exact OpVal.loadB rfl (.tail _ (.head _)) rfl | exact OpVal.loadB rfl (.tail _ (.tail _ (.head _))) rfl | exact OpVal.loadB rfl (.tail _ (.tail _ (.tail _ (.head _)))) rfl | exact OpVal.loadB rfl (.tail _ (.tail _ (.tail _ (.tail _ (.head _))))) rfl | exact OpVal.loadB rfl (.tail _ (.tail _ (.tail _ (.tail _ (.tail _ (.head _)))))) rfl | exact OpVal.loadP rfl (by assumption) (by repeat constructor) rfl))) (Ph2.all (fun hg => rfl) (fun x1 hg => rfl) (fun x1 x2 hg => rfl)) rfl rfl (Ph2.all rfl (fun _ => rfl) (fun _ _ => rfl)) rfl ?_
      refine DJN.val [] (Ph2.all (fun hg => OpVal.opv rfl) (fun x1 hg => Bool.noConfusion (show false = true from hg)) (fun x1 x2 hg => Bool.noConfusion (show false = true from hg))) (Ph2.all (fun hg => rfl) (fun x1 hg => Bool.noConfusion (show false = true from hg)) (fun x1 x2 hg => Bool.noConfusion (show false = true from hg))) rfl rfl (Ph2.all rfl (fun _ => rfl) (fun _ _ => rfl)) rfl ?_; refine DJN.eff 0 [(31, _)] ⟨rfl, trivial⟩ rfl rfl [] trivial (Ph2.all (fun hg => ⟨rfl, fun M2 hM2 => ?_⟩) (fun x1 hg => absurd hg (by simp [Ph2.num])) (fun x1 x2 hg => absurd hg (by simp [Ph2.num]))) ?_
      · (refine WL.callM rfl rfl (M0 := [hm]) (fun x hx => hM2 x hx) (Split.none _) rfl (cloneM_any ho (by omega)) rfl rfl rfl ?_; rintro q M1 a1 ⟨rfl, rfl, hr⟩; exact WL.nil ⟨.b q, rfl, Keff.intro (by repeat (first | exact trivial | refine ⟨rfl, ?_⟩)) (fun x hx => hx) (.refl _)⟩)
      refine DJN.val [] (Ph2.all (fun hg => OpVal.opv rfl) (fun x1 hg => OpVal.opv rfl) (fun x1 x2 hg => OpVal.opv rfl)) (Ph2.all (fun hg => rfl) (fun x1 hg => rfl) (fun x1 x2 hg => rfl)) rfl rfl (Ph2.all rfl (fun _ => rfl) (fun _ _ => rfl)) rfl ?_; refine DJN.abs (A := fun m q => IsCells m 1 q 1 [vi i]) [] (Ph2.all (fun hg => (OpAbs.litI rfl)) (fun x1 hg => (OpAbs.litI rfl)) (fun x1 x2 hg => Bool.noConfusion (show false = true from hg))) (Ph2.all (fun hg => rfl) (fun x1 hg => rfl) (fun x1 x2 hg => Bool.noConfusion (show false = true from hg))) rfl rfl (Ph2.all rfl (fun _ => rfl) (fun _ _ => rfl)) rfl ?_; refine DJN.eff 1 [] trivial rfl rfl [(34, fun m q => IsCells m 1 q 1 [vi i])] ⟨(by repeat constructor), rfl, trivial⟩ (Ph2.all (fun hg => absurd hg (by simp [Ph2.num])) (fun x1 hg => ⟨rfl, fun M2 hM2 => ?_⟩) (fun x1 x2 hg => absurd hg (by simp [Ph2.num]))) ?_
      · intro m34 v34 h34
        (refine WL.appInt (k := (i : Int)) rfl (fun _ => .tail _ (.head _)) rfl h34 (.head _) (by omega) rfl rfl rfl ?_; intro a35 c35; exact WL.nil ⟨.c x1 (a35, c35), rfl, Keff.intro (by repeat (first | exact trivial | refine ⟨rfl, ?_⟩)) (fun x hx => .tail _ hx) (.refl _)⟩)
      refine DJN.val [] (Ph2.all (fun hg => OpVal.opv rfl) (fun x1 hg => OpVal.opv rfl) (fun x1 x2 hg => OpVal.opv rfl)) (Ph2.all (fun hg => rfl) (fun x1 hg => rfl) (fun x1 x2 hg => rfl)) rfl rfl (Ph2.all rfl (fun _ => rfl) (fun _ _ => rfl)) rfl ?_; refine DJN.val [] (Ph2.all (fun hg => (by first | exact OpVal.incr rfl (by omega) | exact OpVal.add rfl rfl (by omega) (by omega))) (fun x1 hg => (by first | exact OpVal.incr rfl (by omega) | exact OpVal.add rfl rfl (by omega) (by omega))) (fun x1 x2 hg => (by first | exact OpVal.incr rfl (by omega) | exact OpVal.add rfl rfl (by omega) (by omega)))) (Ph2.all (fun hg => rfl) (fun x1 hg => rfl) (fun x1 x2 hg => rfl)) rfl rfl (Ph2.all rfl (fun _ => rfl) (fun _ _ => rfl)) rfl ?_; refine DJN.val [] (Ph2.all (fun hg => OpVal.opv rfl) (fun x1 hg => OpVal.opv rfl) (fun x1 x2 hg => OpVal.opv rfl)) (Ph2.all (fun hg => rfl) (fun x1 hg => rfl) (fun x1 x2 hg => rfl)) rfl rfl (Ph2.all rfl (fun _ => rfl) (fun _ _ => rfl)) rfl ?_
      refine DJN.val [] (Ph2.all (fun hg => OpVal.cast (.sub rfl rfl (by omega) (by omega)) (congrArg (Value.int .i64) (show ((m + 1 : Nat) : Int) - 1 = (m : Int) by omega))) (fun x1 hg => OpVal.cast (.sub rfl rfl (by omega) (by omega)) (congrArg (Value.int .i64) (show ((m + 1 : Nat) : Int) - 1 = (m : Int) by omega))) (fun x1 x2 hg => OpVal.cast (.sub rfl rfl (by omega) (by omega)) (congrArg (Value.int .i64) (show ((m + 1 : Nat) : Int) - 1 = (m : Int) by omega)))) (Ph2.all (fun hg => rfl) (fun x1 hg => rfl) (fun x1 x2 hg => rfl)) rfl rfl (Ph2.all rfl (fun _ => rfl) (fun _ _ => rfl)) rfl ?_
      refine DJN.nil (Ph2.all (fun hg => absurd hg (by simp [Ph2.num])) (fun x1 hg => absurd hg (by simp [Ph2.num])) (fun x1 x2 hg => ?_))
      rintro m34 v34 h34
      (refine WL.freezeInts (.tail _ (.head _)) (fun b hb => hF b hb) fun mo hmo => ?_; refine WL.join fun mj hj => ?_; refine WL.callM rfl rfl (M0 := [mj]) (by simp) (Split.all _) rfl (ih (out ++ [(i : Int)]) (i + 1) mj _ fv1 (hv'.le (hj _ (by simp))) (hb1.le (hj _ (by simp))) (hbw.le (hj _ (by simp))) (hbh.le (hj _ (by simp))) (hwk.le (hj _ (by simp))) (hb6.le (hj _ (by simp))) (IsInts.le (by simpa using hmo) (hj mo (by simp))) (by simp; omega) (by omega) (by omega)) rfl rfl rfl ?_; rintro v40 M1 a1 ⟨fv2, rfl, hres⟩)
      refine WL.nil ?_; refine Kseq.go ?_
      rcases hres with ⟨c', hc, rfl, mr, hmr, hI⟩ | ⟨hc, rfl⟩
      · refine W.condT rfl rfl ?_
        refine W.seq ?_; refine W.region ?_; refine .o rfl ?_; refine WL.nil ?_; refine Kseq.go ?_
        refine W.ret ?_; refine Kblock.ret (Kseq.ret (Kloop.ret (Kblock.ret (Kseq.ret ?_))))
        refine ⟨.inl rfl, [_], M1, _, ⟨.tmp rfl, trivial⟩, ⟨fv2, rfl, .inl ⟨c', ?_, rfl, mr, hmr, hI⟩⟩, fun x hx => List.mem_append_left _ hx, .refl _, by simp [markOf]⟩
        simp only [setR]
        exact fsome_hit hsi (by omega) hprev hc
      · refine W.condF rfl rfl ?_
        refine W.skip (Kblock.normal (Kseq.go ?_))
        refine W.region ?_; refine .o rfl ?_; refine .val (.incr rfl (by omega)) rfl rfl rfl ?_; refine .o rfl ?_; refine WL.nil ?_
        refine Kloop.next (i + 1, fv2) ⟨by omega, by omega, fun j k1 k2 => ?_⟩ (by omega) ⟨rfl, rfl, rfl, rfl, rfl, rfl, rfl, rfl, trivial⟩ (fun x hx => List.mem_append_right _ (by simp at hx; simp [hx])) (.refl _)
        rcases Nat.lt_succ_iff_lt_or_eq.1 k2 with h2 | rfl
        · exact hprev j k1 h2
        · exact hc
    · refine W.exit (Kseq.exit (Kloop.exit (Kblock.here (Kseq.go (W.seq ?_)))))
      refine W.region ?_; refine .o rfl ?_; refine WL.nil ?_; refine Kseq.go ?_
      refine W.ret ?_; skip
      refine ⟨.inl rfl, [_], [hm], _, ⟨.tmp rfl, trivial⟩, ⟨_, rfl, .inr ⟨hall hprev (by omega), rfl⟩⟩, by simp, .refl _, by simp [markOf]⟩
/-- Boil -/
theorem boil6_any {h : Mem} {v : Value} {r : House} (hour : Int) (hv : IsHouse h v r) (hs : SmH r) : FnR Try.prog 7 #[v, vi hour] h (fun m q => ∃ lv, q = .tuple #[lv, vi (ask6E r (isHour r hour))] ∧ (ask6E r (isHour r hour) ≠ 0 → lv = .slice none 0 0) ∧ (ask6E r (isHour r hour) = 0 → ∀ c, boil6 r hour = some c → IsInts m lv c)) := by
  have hv' := hv
  obtain ⟨wv, pv, kv, tv, bv, sv, f, rfl, hA⟩ := hv
  refine FnR.of_W (n := 34) Try.func7 rfl rfl (Nat.le_of_ble_eq_true rfl) fun c hr hD hF => ?_
  refine W.seq ?_; refine W.region ?_
  refine WL.box rfl rfl rfl rfl (fun b2 => ?_)
  refine WL.box rfl rfl rfl rfl (fun b3 => ?_)
  iterate 2 refine .o rfl ?_
  refine WL.nil ?_; refine Kseq.go ?_
  refine W.freezeBox (.head _) (fun b hb => (hF b hb).elim) fun m3 h3 => ?_
  refine W.freezeBox (.head _) (fun b hb => (hF b hb).elim) fun m2 h2 => ?_
  refine W.scope hr ?_
  refine W.join fun mj hj => ?_
  have hvj := hv'.le (hj h (by simp))
  have h2j := h2.le (hj m2 (by simp))
  have h3j := h3.le (hj m3 (by simp))
  clear h2 h3
  let l0 : List (Nat × Value) := [(2, .pointer (some ⟨b2, 0, none⟩)), (3, .pointer (some ⟨b3, 0, none⟩))]
  refine W.seq ?_; refine W.weaken l0 [mj] [] (by repeat (first | exact trivial | refine ⟨rfl, ?_⟩)) (by simp) (List.nil_sublist _) ?_; refine W.drawX (γ := Ph2 Nat {z : Option Addr × Mem // AskG r (.agg (hcs wv pv kv tv bv sv r)) (isHour r hour) z.2 z.1}) .a 10 [8, 9] (Ph2.sel l0 (fun q => (6, .pointer (some ⟨q, 0, none⟩)) :: l0) (fun q z => (6, .pointer (some ⟨q, 0, none⟩)) :: l0)) (Ph2.sel [mj] (fun _ => [mj]) (fun _ z => [z.1.2, mj])) (Ph2.sel [] (fun q => [.blk q #[.pointer none] 73]) (fun q z => [.blk q #[.pointer z.1.1] 73])) Ph2.num (by kernel_rfl) (by kernel_rfl) (by kernel_rfl) rfl Ph2.le (Ph2.all rfl (fun _ => rfl) (fun _ _ => rfl)) rfl rfl rfl ?_; refine DJX.val [] (Ph2.all (fun hg => OpVal.loadPW rfl h2j (by repeat constructor) rfl) (fun x1 hg => OpVal.loadPW rfl h2j (by repeat constructor) rfl) (fun x1 x2 hg => Bool.noConfusion (show false = true from hg))) (Ph2.all (fun hg => rfl) (fun x1 hg => rfl) (fun x1 x2 hg => Bool.noConfusion (show false = true from hg))) rfl rfl (Ph2.all rfl (fun _ => rfl) (fun _ _ => rfl)) rfl ?_
  refine DJX.val [] (Ph2.all (fun hg => OpVal.loadPW rfl h2j (by repeat constructor) rfl) (fun x1 hg => OpVal.loadPW rfl h2j (by repeat constructor) rfl) (fun x1 x2 hg => Bool.noConfusion (show false = true from hg))) (Ph2.all (fun hg => rfl) (fun x1 hg => rfl) (fun x1 x2 hg => Bool.noConfusion (show false = true from hg))) rfl rfl (Ph2.all rfl (fun _ => rfl) (fun _ _ => rfl)) rfl ?_; refine DJX.val [] (Ph2.all (fun hg => OpVal.loadP rfl h3j (by repeat constructor) rfl) (fun x1 hg => OpVal.loadP rfl h3j (by repeat constructor) rfl) (fun x1 x2 hg => Bool.noConfusion (show false = true from hg))) (Ph2.all (fun hg => rfl) (fun x1 hg => rfl) (fun x1 x2 hg => Bool.noConfusion (show false = true from hg))) rfl rfl (Ph2.all rfl (fun _ => rfl) (fun _ _ => rfl)) rfl ?_; refine DJX.val [] (Ph2.all (fun hg => OpVal.call rfl (fun m hm => hour6_any hour (hvj.le (by repeat first | exact hm.1 | replace hm := hm.2)))) (fun x1 hg => OpVal.call rfl (fun m hm => hour6_any hour (hvj.le (by repeat first | exact hm.1 | replace hm := hm.2)))) (fun x1 x2 hg => Bool.noConfusion (show false = true from hg))) (Ph2.all (fun hg => rfl) (fun x1 hg => rfl) (fun x1 x2 hg => Bool.noConfusion (show false = true from hg))) rfl rfl (Ph2.all rfl (fun _ => rfl) (fun _ _ => rfl)) rfl ?_
  refine DJX.abs (A := fun m q => ∃ o, q = .tuple #[.pointer o, vi (ask6E r (isHour r hour))] ∧ AskG r (.agg (hcs wv pv kv tv bv sv r)) (isHour r hour) m o) [] (Ph2.all (fun hg => (OpAbs.call rfl (fun m hm => asked6G_any (isHour r hour) (hvj.le (by repeat first | exact hm.1 | replace hm := hm.2)) hs))) (fun x1 hg => (OpAbs.call rfl (fun m hm => asked6G_any (isHour r hour) (hvj.le (by repeat first | exact hm.1 | replace hm := hm.2)) hs))) (fun x1 x2 hg => Bool.noConfusion (show false = true from hg))) (Ph2.all (fun hg => rfl) (fun x1 hg => rfl) (fun x1 x2 hg => Bool.noConfusion (show false = true from hg))) rfl rfl (Ph2.all rfl (fun _ => rfl) (fun _ _ => rfl)) rfl ?_
  refine DJX.abs (A := fun m q => ∃ o, q = .tuple #[.pointer o, vi (ask6E r (isHour r hour))] ∧ AskG r (.agg (hcs wv pv kv tv bv sv r)) (isHour r hour) m o) [(16, fun m q => ∃ o, q = .tuple #[.pointer o, vi (ask6E r (isHour r hour))] ∧ AskG r (.agg (hcs wv pv kv tv bv sv r)) (isHour r hour) m o)] (Ph2.all (fun hg => fun m16 v16 h16 => (OpAbs.ofVal (OpVal.opv rfl) (.head _) h16)) (fun x1 hg => fun m16 v16 h16 => (OpAbs.ofVal (OpVal.opv rfl) (.head _) h16)) (fun x1 x2 hg => Bool.noConfusion (show false = true from hg))) (Ph2.all (fun hg => rfl) (fun x1 hg => rfl) (fun x1 x2 hg => Bool.noConfusion (show false = true from hg))) rfl rfl (Ph2.all rfl (fun _ => rfl) (fun _ _ => rfl)) rfl ?_ (hG := ⟨(by repeat constructor), rfl, trivial⟩)
  refine DJX.abs (A := fun m q => ∃ o, q = .pointer o ∧ AskG r (.agg (hcs wv pv kv tv bv sv r)) (isHour r hour) m o) [(11, fun m q => ∃ o, q = .tuple #[.pointer o, vi (ask6E r (isHour r hour))] ∧ AskG r (.agg (hcs wv pv kv tv bv sv r)) (isHour r hour) m o)] (Ph2.all (fun hg => fun m11 v11 h11 => (by obtain ⟨o, rfl, hgo⟩ := h11; exact OpAbs.ofVal (OpVal.opv rfl) (.head _) ⟨o, rfl, hgo⟩)) (fun x1 hg => fun m11 v11 h11 => (by obtain ⟨o, rfl, hgo⟩ := h11; exact OpAbs.ofVal (OpVal.opv rfl) (.head _) ⟨o, rfl, hgo⟩)) (fun x1 x2 hg => Bool.noConfusion (show false = true from hg))) (Ph2.all (fun hg => rfl) (fun x1 hg => rfl) (fun x1 x2 hg => Bool.noConfusion (show false = true from hg))) rfl rfl (Ph2.all rfl (fun _ => rfl) (fun _ _ => rfl)) rfl ?_ (hG := ⟨(by repeat constructor), rfl, trivial⟩)
  refine DJX.val [(11, fun m q => ∃ o, q = .tuple #[.pointer o, vi (ask6E r (isHour r hour))] ∧ AskG r (.agg (hcs wv pv kv tv bv sv r)) (isHour r hour) m o)] (Ph2.all (fun hg => fun m11 v11 h11 => (by obtain ⟨o, rfl, hgo⟩ := h11; exact (OpVal.cast (.opv rfl) (show _ = vi (ask6E r (isHour r hour)) from rfl)))) (fun x1 hg => fun m11 v11 h11 => (by obtain ⟨o, rfl, hgo⟩ := h11; exact (OpVal.cast (.opv rfl) (show _ = vi (ask6E r (isHour r hour)) from rfl)))) (fun x1 x2 hg => fun m11 v11 h11 => (by obtain ⟨o, rfl, hgo⟩ := h11; exact (OpVal.cast (.opv rfl) (show _ = vi (ask6E r (isHour r hour)) from rfl))))) (Ph2.all (fun hg => rfl) (fun x1 hg => rfl) (fun x1 x2 hg => rfl)) rfl rfl (Ph2.all rfl (fun _ => rfl) (fun _ _ => rfl)) rfl ?_ (hG := ⟨(by repeat constructor), rfl, trivial⟩)
  refine DJX.eff 0 [] trivial rfl rfl [] trivial (Ph2.all (fun hg => ⟨rfl, fun M2 hM2 => ?_⟩) (fun x1 hg => absurd hg (by simp [Ph2.num])) (fun x1 x2 hg => absurd hg (by simp [Ph2.num]))) ?_
  · (refine WL.alloc rfl rfl rfl (fun b6 => ?_); exact WL.nil ⟨.b b6, rfl, Keff.intro (by repeat (first | exact trivial | refine ⟨rfl, ?_⟩)) (fun x hx => (List.mem_append.1 hx).elim (fun h => h) (fun h => hM2 x h)) (.refl _)⟩)
  refine DJX.eff 1 [] trivial rfl rfl [(17, fun m q => ∃ o, q = .pointer o ∧ AskG r (.agg (hcs wv pv kv tv bv sv r)) (isHour r hour) m o)] ⟨(by repeat constructor), rfl, trivial⟩ (Ph2.all (fun hg => absurd hg (by simp [Ph2.num])) (fun x1 hg => ⟨rfl, fun M2 hM2 => ?_⟩) (fun x1 x2 hg => absurd hg (by simp [Ph2.num]))) ?_
  · intro m17 v17 h17
    (obtain ⟨o, rfl, hgo⟩ := h17; refine WL.store [_] rfl (.head _) rfl rfl rfl (Nat.le_of_ble_eq_true rfl) (by simp [Value.cells, Value.oneCell']) rfl ?_; exact WL.nil ⟨.c x1 ⟨(o, m17), hgo⟩, rfl, Keff.intro (by repeat (first | exact trivial | refine ⟨rfl, ?_⟩)) (fun x hx => (List.mem_append.1 hx).elim (fun h => .tail _ h) (fun h => by rcases List.mem_cons.1 h with rfl | h2; exact .head _; exact .tail _ (hM2 x h2))) (.refl _)⟩)
  refine DJX.nil (Ph2.all (fun hg => absurd hg (by simp [Ph2.num])) (fun x1 hg => absurd hg (by simp [Ph2.num])) (fun x1 x2 hg => ?_))
  rintro m17 v17 h17
  rintro m11 v11 h11
  rintro m16 v16 h16
  refine .o rfl ?_; refine WL.nil ?_
  refine Kseq.go (W.seq (W.seq ?_))
  clear hg
  obtain ⟨⟨o, mo⟩, hgood⟩ := x2
  replace hgood : AskG r (.agg (hcs wv pv kv tv bv sv r)) (isHour r hour) mo o := hgood
  try dsimp only
  rcases hgood with ⟨hE, rfl⟩ | ⟨hE, hV, hfine, hne, b, rfl, hwk⟩
  · skip
    refine W.region ?_
    iterate 2 refine .o rfl ?_
    refine WL.nil ?_; refine Kseq.go ?_
    refine W.cond rfl rfl (fun he => ?_) (fun he => absurd he (by simp [hE]))
    refine W.seq ?_; refine W.region ?_
    iterate 3 refine .o rfl ?_
    refine WL.nil ?_; refine Kseq.go ?_
    refine W.ret ?_; refine Kseq.ret (Kscope.ret ?_); refine ⟨.inl rfl, [_, _], mj, ⟨.tmp rfl, .tmp rfl, trivial⟩, (by repeat constructor), ?_⟩
    exact ⟨_, rfl, fun _ => rfl, fun h0 => absurd h0 hE⟩
  refine W.region ?_
  iterate 2 refine .o rfl ?_
  refine WL.nil ?_; refine Kseq.go ?_
  refine W.cond rfl rfl (fun he => absurd he (by simp [hE])) (fun he => ?_)
  have hth := hV.thW
  have h10 := hV.th.2.2
  refine W.skip (Kseq.go (W.seq ?_))
  refine W.region ?_
  refine WL.alloc rfl rfl rfl (fun b8 => ?_)
  refine WL.nil ?_
  refine Kseq.go (W.seq ?_)
  refine W.region ?_
  refine WL.alloc rfl rfl rfl (fun b9 => ?_)
  refine WL.nil ?_
  refine Kseq.go (W.seq ?_)
  refine W.region ?_; refine .o rfl ?_
  refine WL.store [_] rfl (.head _) rfl rfl rfl (Nat.le_of_ble_eq_true rfl) (by first | (simp [Value.cells, Value.oneCell']; done) | exact IsArr.ones hW (by omega) | exact IsArr.ones hP (by omega) | exact IsArr.ones hS (by omega) | exact IsArr.ones hH (by omega) | exact IsArr.ones hL (by omega) | exact IsArr.ones hB (by omega) | exact IsArr.ones hT (by omega) | exact IsArr.ones hm (by omega)) rfl ?_
  refine WL.nil ?_
  refine Kseq.go (W.seq ?_)
  refine W.freezeBox (.head _) (fun b hb => (hF b hb).elim) fun m9 h9 => ?_
  refine W.freezeBox (.tail _ (.head _)) (fun b hb => (hF b hb).elim) fun m6 h6 => ?_
  refine W.join fun mk hk => ?_
  have hvk := hvj.le (hk mj (by simp))
  have h2k := h2j.le (hk mj (by simp))
  have h3k := h3j.le (hk mj (by simp))
  have h9k := h9.le (hk m9 (by simp))
  have h6k := h6.le (hk m6 (by simp))
  have hwkk := hwk.le (hk mo (by simp))
  refine W.label ?_
  refine Kseq.go (W.seq (W.seq ?_))
  refine W.region ?_; refine .val (.loadPW rfl h2k (by repeat constructor) rfl) rfl rfl rfl ?_; refine .val (.cast (.call rfl (fun m hm => things6_any (hvk.le (by repeat first | exact hm.1 | replace hm := hm.2)))) (congrArg (Value.int .i64) hth)) rfl rfl rfl ?_; refine .val (.cast (.add rfl rfl (by omega) (by omega)) (show _ = Value.int .i64 ((r.th + 1 : Nat) : Int) from rfl)) rfl rfl rfl ?_; refine .o rfl ?_; refine WL.nil ?_
  refine Kseq.go (W.block ?_)
  refine W.loop (σ := Nat × Value) (fun s => [(8, .pointer (some ⟨b8, 0, none⟩)), (9, .pointer (some ⟨b9, 0, none⟩)), (25, .int .i64 ((r.th + 1 : Nat) : Int)), (26, .int .i64 (s.1 : Int))]) (fun _ => [mk]) (fun s => [.blk b8 #[s.2] 22])
    (fun s => s.1 ≤ r.th + 1 ∧ ∀ j, j < s.1 → setR (okA r hour) r.th j [] 0 = none) (fun s => r.th + 1 - s.1) (0, .slice none 0 0) ⟨rfl, rfl, rfl, rfl, trivial⟩ (by simp) (.refl _) ⟨Nat.zero_le _, fun j hj => absurd hj (Nat.not_lt_zero _)⟩ ?_
  rintro ⟨k, fv⟩ ⟨hk, hprev⟩
  dsimp only at hk hprev ⊢
  refine W.seq ?_; refine W.region ?_; refine .o rfl ?_; refine WL.nil ?_
  refine Kseq.go (W.seq ?_)
  refine W.condD rfl rfl (fun hlt => ?_) (fun hge => ?_)
  · refine W.skip (Kseq.go (W.seq (W.block (W.seq ?_))))
    refine W.region ?_
    iterate 2 refine .o rfl ?_
    refine WL.nil ?_
    refine Kseq.go (W.seq ?_)
    refine W.region ?_; refine .val (.loadP rfl h9k (by repeat constructor) rfl) rfl rfl rfl ?_; refine .o rfl ?_
    (refine WL.callM rfl rfl (M0 := [mk]) (by simp) (Split.all _) rfl (boil6In_any hV hs k [] 0 mk (.slice none 0 0) fv hvk h2k h6k h3k hwkk h9k (IsInts.nil _) (by simp; omega) (by omega) (by omega)) rfl rfl rfl ?_; rintro v31 M1 a1 ⟨fv2, rfl, hres⟩)
    refine WL.nil ?_; refine Kseq.go ?_
    rcases hres with ⟨c', hc, rfl, mr, hmr, hI⟩ | ⟨hc, rfl⟩
    · refine W.condT rfl rfl ?_
      refine W.exit (Kblock.past rfl (Kseq.exit (Kloop.exit (Kblock.here (Kseq.go (W.seq ?_))))))
      refine W.region ?_; refine .val (.loadB rfl (.head _) rfl) rfl rfl rfl ?_
      iterate 2 refine .o rfl ?_
      refine WL.nil ?_; refine Kseq.go ?_
      refine W.ret ?_; refine Kscope.ret ?_
      refine ⟨.inl rfl, [_, _], mr, ⟨.tmp rfl, .tmp rfl, trivial⟩, List.mem_append_left _ hmr, ?_⟩
      refine ⟨_, by rw [hE]; rfl, fun h0 => absurd hE h0, fun _ c hcc => ?_⟩
      unfold boil6 setAll at hcc
      have hcc : fsome (fun m => setR (okA r hour) r.th m [] 0) 0 (r.th + 1) = some c := hcc
      rw [fsome_hit (Nat.zero_le _) (by omega) (fun i _ h2 => hprev i h2) hc] at hcc
      cases hcc
      exact hI
    · refine W.condF rfl rfl ?_
      refine W.skip (Kblock.normal (Kseq.go ?_))
      refine W.region ?_; refine .val (.incr rfl (by omega)) rfl rfl rfl ?_; refine .o rfl ?_; refine WL.nil ?_
      refine Kloop.next (k + 1, fv2) ⟨by omega, fun j hj => ?_⟩ (by omega) ⟨rfl, rfl, rfl, rfl, trivial⟩ (fun x hx => List.mem_append_right _ hx) (.refl _)
      rcases Nat.lt_succ_iff_lt_or_eq.1 hj with h2 | rfl
      · exact hprev j h2
      · exact hc
  · refine W.exit (Kseq.exit (Kloop.exit (Kblock.here (Kseq.go (W.seq ?_)))))
    refine W.region ?_; refine .val (.loadB rfl (.head _) rfl) rfl rfl rfl ?_
    iterate 2 refine .o rfl ?_
    refine WL.nil ?_; refine Kseq.go ?_
    refine W.ret ?_; refine Kscope.ret ?_; refine ⟨.inl rfl, [_, _], mk, ⟨.tmp rfl, .tmp rfl, trivial⟩, (by repeat constructor), ?_⟩
    refine ⟨_, by rw [hE]; rfl, fun h0 => absurd hE h0, fun _ c hc => ?_⟩
    unfold boil6 setAll at hc
    have hc : fsome (fun m => setR (okA r hour) r.th m [] 0) 0 (r.th + 1) = some c := hc
    rw [fsome_none (fun i _ h2 => hprev i (by omega))] at hc
    cases hc
end Go.Proofs.Ytdnbkjgbehakpaa
