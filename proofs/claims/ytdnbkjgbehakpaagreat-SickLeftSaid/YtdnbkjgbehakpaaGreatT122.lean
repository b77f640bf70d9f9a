/- The program's functions of chapter 6: Leave. -/
import Derived.Test.YtdnbkjgbehakpaaGreatT118
import Derived.Test.YtdnbkjgbehakpaaGreatT29
namespace Go.Proofs.YtdnbkjgbehakpaaGreat
open Go Go.Eng Go.RowKit

/-- leave, within Leave -/
theorem leave6In_any {r : House} (hV : ValidH r) (hs : SmH r) {tv : Value} {bf b1 b6 : Nat} :
    ∀ (many : Nat) (out : List Int) (s : Nat) (hm : Mem) (ov fv : Value), IsHouse hm tv r → IsBox hm b1 tv.cells 46 → IsBox hm b6 #[.func (.func 97) #[] #[.pointer (some ⟨bf, 0, none⟩), .pointer (some ⟨b1, 0, none⟩), .pointer (some ⟨b6, 0, none⟩)]] 142 →
      IsInts hm ov out → out.length + many ≤ 1000 → s ≤ 1000 → many ≤ r.signs.length →
      FnM Tryz.prog 97 #[ov, vi s, vi many, .pointer (some ⟨bf, 0, none⟩), .pointer (some ⟨b1, 0, none⟩), .pointer (some ⟨b6, 0, none⟩)] [hm] [.blk bf #[fv] 26]
        (fun v Ms' μ' => ∃ fv', μ' = [.blk bf #[fv'] 26] ∧ ((∃ c, setR (possible6 r) r.signs.length many out s = some c ∧ v = .bool true ∧ ∃ m ∈ Ms', IsInts m fv' c) ∨ (setR (possible6 r) r.signs.length many out s = none ∧ v = .bool false))) := by
  intro many
  induction many with
  | zero =>
    intro out s hm ov fv hv hb1 hb6 ho hlen hsle hmw
    have hv' := hv
    obtain ⟨wv, pv, kv, tv, bv, sv, f, rfl, hA⟩ := hv
    have hS := hA.S
    obtain ⟨oa, oc, rfl⟩ := IsArr.form ho
    refine FnM.of_W (n := 38) Tryz.func97 rfl rfl (Nat.le_of_ble_eq_true rfl) rfl fun c hr hD hF => ?_
    skip
    refine W.seq ?_
    refine W.region ?_
    refine WL.val (OpVal.opv rfl) rfl rfl rfl ?_
    refine WL.nil ?_
    refine Kseq.go (W.seq (W.seq ?_))
    skip
    refine W.region ?_
    refine WL.val (OpVal.opv rfl) rfl rfl rfl ?_
    refine WL.val (OpVal.opv rfl) rfl rfl rfl ?_
    refine WL.nil ?_
    refine Kseq.go ?_
    refine W.condT rfl rfl ?_
    refine W.seq ?_
    refine W.region ?_
    refine WL.val (OpVal.opv rfl) rfl rfl rfl ?_
    (refine WL.store [_] rfl (.head _) rfl rfl rfl (Nat.le_of_ble_eq_true rfl) (by simp [Value.cells, Value.oneCell']) rfl ?_)
    refine WL.nil ?_
    refine Kseq.go (W.seq ?_)
    skip
    refine W.region ?_
    refine WL.val (OpVal.loadPW rfl (by assumption) (by repeat (first | exact .head _ | refine .tail _ ?_)) (by rfl)) rfl rfl rfl ?_
    refine WL.val (OpVal.opv rfl) rfl rfl rfl ?_
    refine WL.val (OpVal.call rfl (fun m hm => possible6_any (hv'.le (by repeat (first | exact hm.1 | replace hm := hm.2))) hV hs (ho.le (by repeat (first | exact hm.1 | replace hm := hm.2))))) rfl rfl rfl ?_
    refine WL.val (OpVal.opv rfl) rfl rfl rfl ?_
    refine WL.nil ?_
    refine Kseq.go ?_
    refine W.ret ?_; refine Kseq.ret ?_
    refine ⟨.inl rfl, [_], [hm], _, ⟨.tmp rfl, trivial⟩, ⟨_, rfl, ?_⟩, by simp, .refl _, by simp [markOf]⟩
    cases hp : possible6 r out with
    | true => exact .inl ⟨out, by simp [setR, hp], rfl, hm, .head _, ho⟩
    | false => exact .inr ⟨by simp [setR, hp], rfl⟩
  | succ m ih =>
    intro out s hm ov fv hv hb1 hb6 ho hlen hsle hmw
    have hv' := hv
    obtain ⟨wv, pv, kv, tv, bv, sv, f, rfl, hA⟩ := hv
    have hS := hA.S
    have hs1 := hs.signs
    refine FnM.of_W (n := 38) Tryz.func97 rfl rfl (Nat.le_of_ble_eq_true rfl) rfl fun c hr hD hF => ?_
    skip
    refine W.seq ?_
    refine W.region ?_
    refine WL.val (OpVal.opv rfl) rfl rfl rfl ?_
    refine WL.nil ?_
    refine Kseq.go (W.seq (W.seq ?_))
    skip
    refine W.region ?_
    refine WL.val (OpVal.opv rfl) rfl rfl rfl ?_
    refine WL.val (OpVal.opv rfl) rfl rfl rfl ?_
    refine WL.nil ?_
    refine Kseq.go ?_
    refine W.condD rfl rfl (fun he => absurd he (by omega)) (fun hne => ?_)
    refine W.skip (Kseq.go (W.seq (W.seq ?_)))
    refine W.region ?_
    refine WL.val (OpVal.opv rfl) rfl rfl rfl ?_
    refine WL.val (OpVal.opv rfl) rfl rfl rfl ?_
    refine WL.nil ?_
    refine Kseq.go (W.block ?_)
    have hall : ∀ {i : Nat}, (∀ j, s ≤ j → j < i → setR (possible6 r) r.signs.length m (out ++ [(j : Int)]) (j + 1) = none) → r.signs.length - m ≤ i → setR (possible6 r) r.signs.length (m + 1) out s = none := fun {i} h1 h2 => by
      simp only [setR]
      exact fsome_none fun j k1 k2 => h1 j k1 (by omega)
    refine W.loop (σ := Nat × Value) (fun x => [(0, ov), (2, vi ((m + 1 : Nat) : Int)), (3, .pointer (some ⟨bf, 0, none⟩)), (4, .pointer (some ⟨b1, 0, none⟩)), (5, .pointer (some ⟨b6, 0, none⟩)), (10, .int .i64 (x.1 : Int))]) (fun _ => [hm]) (fun x => [.blk bf #[x.2] 26])
      (fun x => s ≤ x.1 ∧ x.1 ≤ 1001 ∧ ∀ j, s ≤ j → j < x.1 → setR (possible6 r) r.signs.length m (out ++ [(j : Int)]) (j + 1) = none) (fun x => 1001 - x.1) (s, fv) ⟨rfl, rfl, rfl, rfl, rfl, rfl, trivial⟩ (by simp) (.refl _) ⟨Nat.le_refl _, by dsimp only; omega, fun j k1 k2 => absurd k1 (by dsimp only at k2; omega)⟩ ?_
    rintro ⟨i, fv1⟩ ⟨hsi, hib, hprev⟩
    dsimp only at hsi hib hprev ⊢
    refine W.seq (W.seq ?_)
    refine W.region ?_
    refine WL.val (OpVal.opv rfl) rfl rfl rfl ?_
    refine WL.val (OpVal.fieldAddrB rfl) rfl rfl rfl ?_
    refine WL.val (OpVal.loadP rfl (by assumption) (by repeat (first | exact .head _ | refine .tail _ ?_)) rfl) rfl rfl rfl ?_
    refine WL.val (OpVal.len rfl (by assumption)) rfl rfl rfl ?_
    refine WL.val (OpVal.opv rfl) rfl rfl rfl ?_
    refine WL.val (OpVal.sub rfl rfl (by omega) (by omega)) rfl rfl rfl ?_
    refine WL.val (OpVal.opv rfl) rfl rfl rfl ?_
    refine WL.nil ?_
    refine Kseq.go ?_
    refine W.condD rfl rfl (fun hle => ?_) (fun hgt => ?_)
    · have hiw : i + (m + 1) ≤ r.signs.length := by omega
      let l0 : List (Nat × Value) := [(0, ov), (2, vi ((m + 1 : Nat) : Int)), (3, .pointer (some ⟨bf, 0, none⟩)), (4, .pointer (some ⟨b1, 0, none⟩)), (5, .pointer (some ⟨b6, 0, none⟩)), (10, .int .i64 (i : Int))]
      refine W.skip (Kseq.go (W.seq (W.block (W.seq ?_))))
      refine W.weaken l0 [hm] [.blk bf #[fv1] 26] (by repeat (first | exact trivial | refine ⟨rfl, ?_⟩)) (by simp) (.refl _) ?_
      skip
      refine W.drawN (γ := Ph2 Value (Option Addr × Nat)) .a 10 [2, 5] (Ph2.sel l0 (fun r => (29, r) :: l0) (fun r g => (32, .slice g.1 (out.length + 1) g.2) :: (29, r) :: l0)) (Ph2.sel [.blk bf #[fv1] 26] (fun r => [.blk bf #[fv1] 26, ir 3 r out]) (fun r g => [.blk bf #[fv1] 26, ir 3 (.slice g.1 (out.length + 1) g.2) (out ++ [(i : Int)])])) Ph2.num (by kernel_rfl) (by kernel_rfl) (by kernel_rfl) rfl Ph2.le (Ph2.all rfl (fun _ => rfl) (fun _ _ => rfl)) rfl rfl ?_
      refine DJN.val [] (Ph2.all (fun hg => (by first | exact OpVal.loadB rfl (.head _) rfl | exact OpVal.loadB rfl (.tail _ (.head _)) rfl | exact OpVal.loadB rfl (.tail _ (.tail _ (.head _))) rfl | exact OpVal.loadB rfl (.tail _ (.tail _ (.tail _ (.head _)))) rfl | exact OpVal.loadB rfl (.tail _ (.tail _ (.tail _ (.tail _ (.head _))))) rfl | exact OpVal.loadB rfl (.tail _ (.tail _ (.tail _ (.tail _ (.tail _ (.head _)))))) rfl | exact OpVal.loadP rfl (by assumption) (by repeat (first | exact .head _ | refine .tail _ ?_)) rfl)) (fun x1 hg => (by first | exact OpVal.loadB rfl (.head _) rfl | exact OpVal.loadB rfl (.tail _ (.head _)) rfl | exact OpVal.loadB rfl (.tail _ (.tail _ (.head _))) rfl | exact OpVal.loadB rfl (.tail _ (.tail _ (.tail _ (.head _)))) rfl | exact OpVal.loadB rfl (.tail _ (.tail _ (.tail _ (.tail _ (.head _))))) rfl | exact OpVal.loadB rfl (.tail _ (.tail _ (.tail _ (.tail _ (.tail _ (.head _)))))) rfl | exact OpVal.loadP rfl (by assumption) (by repeat (first | exact .head _ | refine .tail _ ?_)) rfl)) (fun x1 x2 hg => (by first | exact OpVal.loadB rfl (.head _) rfl | exact OpVal.loadB rfl (.tail _ (.head _)) rfl | exact OpVal.loadB rfl (.tail _ (.tail _ (.head _))) rfl | exact OpVal.loadB rfl (.tail _ (.tail _ (.tail _ (.head _)))) rfl | exact OpVal.loadB rfl (.tail _ (.tail _ (.tail _ (.tail _ (.head _))))) rfl | exact OpVal.loadB rfl (.tail _ (.tail _ (.tail _ (.tail _ (.tail _ (.head _)))))) rfl | exact OpVal.loadP rfl (by assumption) (by repeat (first | exact .head _ | refine .tail _ ?_)) rfl))) (Ph2.all (fun hg => rfl) (fun x1 hg => rfl) (fun x1 x2 hg => rfl)) rfl rfl (Ph2.all rfl (fun _ => rfl) (fun _ _ => rfl)) rfl ?_
      refine DJN.val [] (Ph2.all (fun hg => OpVal.opv rfl) (fun x1 hg => Bool.noConfusion (show false = true from hg)) (fun x1 x2 hg => Bool.noConfusion (show false = true from hg))) (Ph2.all (fun hg => rfl) (fun x1 hg => Bool.noConfusion (show false = true from hg)) (fun x1 x2 hg => Bool.noConfusion (show false = true from hg))) rfl rfl (Ph2.all rfl (fun _ => rfl) (fun _ _ => rfl)) rfl ?_
      refine DJN.eff 0 [(28, _)] ⟨rfl, trivial⟩ rfl rfl [] trivial (Ph2.all (fun hg => ⟨rfl, fun M2 hM2 => ?_⟩) (fun x1 hg => absurd hg (by simp [Ph2.num])) (fun x1 x2 hg => absurd hg (by simp [Ph2.num]))) ?_
      · (refine WL.callM rfl rfl (M0 := [hm]) (fun x hx => hM2 x hx) (Split.none _) rfl (cloneM_any ho (by omega)) rfl rfl rfl ?_; rintro r M1 a1 ⟨rfl, rfl, hr⟩; exact WL.nil ⟨.b r, rfl, Keff.intro (by repeat (first | exact trivial | refine ⟨rfl, ?_⟩)) (fun x hx => hx) (.refl _)⟩)
      refine DJN.val [] (Ph2.all (fun hg => OpVal.opv rfl) (fun x1 hg => OpVal.opv rfl) (fun x1 x2 hg => OpVal.opv rfl)) (Ph2.all (fun hg => rfl) (fun x1 hg => rfl) (fun x1 x2 hg => rfl)) rfl rfl (Ph2.all rfl (fun _ => rfl) (fun _ _ => rfl)) rfl ?_
      refine DJN.abs (A := fun m r => IsCells m 1 r 1 [vi i]) [] (Ph2.all (fun hg => (OpAbs.litI rfl)) (fun x1 hg => (OpAbs.litI rfl)) (fun x1 x2 hg => Bool.noConfusion (show false = true from hg))) (Ph2.all (fun hg => rfl) (fun x1 hg => rfl) (fun x1 x2 hg => Bool.noConfusion (show false = true from hg))) rfl rfl (Ph2.all rfl (fun _ => rfl) (fun _ _ => rfl)) rfl ?_
      refine DJN.eff 1 [] trivial rfl rfl [(31, fun m r => IsCells m 1 r 1 [vi i])] ⟨(by repeat (first | exact .head _ | refine .tail _ ?_)), rfl, trivial⟩ (Ph2.all (fun hg => absurd hg (by simp [Ph2.num])) (fun x1 hg => ⟨rfl, fun M2 hM2 => ?_⟩) (fun x1 x2 hg => absurd hg (by simp [Ph2.num]))) ?_
      · intro m31 v31 h31
        (refine WL.appInt (k := (i : Int)) rfl (fun _ => .tail _ (.head _)) rfl h31 (.head _) (by omega) rfl rfl rfl ?_; intro a32 c32; exact WL.nil ⟨.c x1 (a32, c32), rfl, Keff.intro (by repeat (first | exact trivial | refine ⟨rfl, ?_⟩)) (fun x hx => .tail _ hx) (.refl _)⟩)
      refine DJN.val [] (Ph2.all (fun hg => OpVal.opv rfl) (fun x1 hg => OpVal.opv rfl) (fun x1 x2 hg => OpVal.opv rfl)) (Ph2.all (fun hg => rfl) (fun x1 hg => rfl) (fun x1 x2 hg => rfl)) rfl rfl (Ph2.all rfl (fun _ => rfl) (fun _ _ => rfl)) rfl ?_
      refine DJN.val [] (Ph2.all (fun hg => (by first | exact OpVal.incr rfl (by omega) | exact OpVal.add rfl rfl (by omega) (by omega))) (fun x1 hg => (by first | exact OpVal.incr rfl (by omega) | exact OpVal.add rfl rfl (by omega) (by omega))) (fun x1 x2 hg => (by first | exact OpVal.incr rfl (by omega) | exact OpVal.add rfl rfl (by omega) (by omega)))) (Ph2.all (fun hg => rfl) (fun x1 hg => rfl) (fun x1 x2 hg => rfl)) rfl rfl (Ph2.all rfl (fun _ => rfl) (fun _ _ => rfl)) rfl ?_
      refine DJN.val [] (Ph2.all (fun hg => OpVal.opv rfl) (fun x1 hg => OpVal.opv rfl) (fun x1 x2 hg => OpVal.opv rfl)) (Ph2.all (fun hg => rfl) (fun x1 hg => rfl) (fun x1 x2 hg => rfl)) rfl rfl (Ph2.all rfl (fun _ => rfl) (fun _ _ => rfl)) rfl ?_
      refine DJN.val [] (Ph2.all (fun hg => OpVal.cast (OpVal.sub rfl rfl (by omega) (by omega)) (congrArg (Value.int .i64) (show ((m + 1 : Nat) : Int) - 1 = (m : Int) by omega))) (fun x1 hg => OpVal.cast (OpVal.sub rfl rfl (by omega) (by omega)) (congrArg (Value.int .i64) (show ((m + 1 : Nat) : Int) - 1 = (m : Int) by omega))) (fun x1 x2 hg => OpVal.cast (OpVal.sub rfl rfl (by omega) (by omega)) (congrArg (Value.int .i64) (show ((m + 1 : Nat) : Int) - 1 = (m : Int) by omega)))) (Ph2.all (fun hg => rfl) (fun x1 hg => rfl) (fun x1 x2 hg => rfl)) rfl rfl (Ph2.all rfl (fun _ => rfl) (fun _ _ => rfl)) rfl ?_
      refine DJN.nil (Ph2.all (fun hg => absurd hg (by simp [Ph2.num])) (fun x1 hg => absurd hg (by simp [Ph2.num])) (fun x1 x2 hg => ?_))
      rintro m31 v31 h31
      (refine WL.freezeInts (.tail _ (.head _)) (fun b hb => hF b hb) fun mo hmo => ?_; refine WL.join fun mj hj => ?_; refine WL.callM rfl rfl (M0 := [mj]) (by simp) (Split.all _) rfl (ih (out ++ [(i : Int)]) (i + 1) mj _ fv1 (hv'.le (hj _ (by simp))) (hb1.le (hj _ (by simp))) (hb6.le (hj _ (by simp))) (IsInts.le (by simpa using hmo) (hj mo (by simp))) (by simp; omega) (by omega) (by omega)) rfl rfl rfl ?_; rintro v37 M1 a1 ⟨fv2, rfl, hres⟩)
      refine WL.nil ?_
      refine Kseq.go ?_
      rcases hres with ⟨c', hc, rfl, mr, hmr, hI⟩ | ⟨hc, rfl⟩
      · refine W.condT rfl rfl ?_
        refine W.seq ?_
        refine W.region ?_
        refine WL.val (OpVal.opv rfl) rfl rfl rfl ?_
        refine WL.nil ?_
        refine Kseq.go ?_
        refine W.ret ?_; refine Kblock.ret (Kseq.ret (Kloop.ret (Kblock.ret (Kseq.ret ?_))))
        refine ⟨.inl rfl, [_], M1, _, ⟨.tmp rfl, trivial⟩, ⟨fv2, rfl, .inl ⟨c', ?_, rfl, mr, hmr, hI⟩⟩, fun x hx => List.mem_append_left _ hx, .refl _, by simp [markOf]⟩
        simp only [setR]
        exact fsome_hit hsi (by omega) hprev hc
      · refine W.condF rfl rfl ?_
        refine W.skip (Kblock.normal (Kseq.go ?_))
        refine W.region ?_
        refine WL.val (OpVal.opv rfl) rfl rfl rfl ?_
        refine WL.val (OpVal.incr rfl (by omega)) rfl rfl rfl ?_
        refine WL.val (OpVal.opv rfl) rfl rfl rfl ?_
        refine WL.nil ?_
        skip
        refine Kloop.next (i + 1, fv2) ⟨by omega, by omega, fun j k1 k2 => ?_⟩ (by omega) ⟨rfl, rfl, rfl, rfl, rfl, rfl, trivial⟩ (fun x hx => List.mem_append_right _ (by simp at hx; simp [hx])) (.refl _)
        rcases Nat.lt_succ_iff_lt_or_eq.1 k2 with h2 | rfl
        · exact hprev j k1 h2
        · exact hc
    · refine W.exit (Kseq.exit (Kloop.exit (Kblock.here (Kseq.go (W.seq ?_)))))
      skip
      refine W.region ?_
      refine WL.val (OpVal.opv rfl) rfl rfl rfl ?_
      refine WL.nil ?_
      refine Kseq.go ?_
      refine W.ret ?_; skip
      refine ⟨.inl rfl, [_], [hm], _, ⟨.tmp rfl, trivial⟩, ⟨_, rfl, .inr ⟨hall hprev (by omega), rfl⟩⟩, by simp, .refl _, by simp [markOf]⟩
/-- Leave -/
theorem leave6_any {h : Mem} {v : Value} {r : House} (hv : IsHouse h v r) (hs : SmH r) : FnR Tryz.prog 36 #[v] h (fun m q => ∃ lv, q = .tuple #[lv, vi (fault6 r)] ∧ (fault6 r ≠ 0 → lv = .slice none 0 0) ∧ (fault6 r = 0 → ∀ c, leave6 r = some c → IsInts m lv c)) := by
  have hv' := hv
  obtain ⟨wv, pv, kv, tv, bv, sv, f, rfl, hA⟩ := hv
  have hS := hA.S
  have hs1 := hs.signs
  refine FnR.of_W (n := 26) Tryz.func36 rfl rfl (Nat.le_of_ble_eq_true rfl) fun c hr hD hF => ?_
  refine W.seq ?_
  refine W.region ?_
  refine WL.box rfl rfl rfl rfl (fun b1 => ?_)
  refine WL.val (OpVal.opv rfl) rfl rfl rfl ?_
  refine WL.val (OpVal.opv rfl) rfl rfl rfl ?_
  refine WL.nil ?_
  refine Kseq.go (W.seq (W.seq ?_))
  refine W.freezeBox (.head _) (fun b hb => (hF b hb).elim) fun m1 h1 => ?_
  skip
  refine W.region ?_
  refine WL.val (OpVal.loadPW rfl (by assumption) (by repeat (first | exact .head _ | refine .tail _ ?_)) (by rfl)) rfl rfl rfl ?_
  refine WL.val (OpVal.call rfl (fun m hm => checkHouse_any (hv'.le (by repeat (first | exact hm.1 | replace hm := hm.2))) hs)) rfl rfl rfl ?_
  refine WL.val (OpVal.opv rfl) rfl rfl rfl ?_
  refine WL.nil ?_
  refine Kseq.go (W.seq ?_)
  skip
  refine W.region ?_
  refine WL.val (OpVal.opv rfl) rfl rfl rfl ?_
  refine WL.val (OpVal.opv rfl) rfl rfl rfl ?_
  refine WL.nil ?_
  refine Kseq.go ?_
  refine W.cond rfl rfl (fun he => ?_) (fun hne => ?_)
  · refine W.seq ?_
    refine W.region ?_
    refine WL.val (OpVal.opv rfl) rfl rfl rfl ?_
    refine WL.val (OpVal.opv rfl) rfl rfl rfl ?_
    refine WL.val (OpVal.opv rfl) rfl rfl rfl ?_
    refine WL.nil ?_
    refine Kseq.go ?_
    refine W.ret ?_; refine Kseq.ret ?_; refine ⟨.inl rfl, [_, _], h, ⟨.tmp rfl, .tmp rfl, trivial⟩, (by repeat (first | exact .head _ | refine .tail _ ?_)), ?_⟩
    have he' : fault6 r ≠ 0 := by simpa using he
    exact ⟨_, rfl, fun _ => rfl, fun h0 => absurd h0 he'⟩
  have hf0 : fault6 r = 0 := by simpa using hne
  have hVa := fault6_zero.1 hf0
  refine W.skip (Kseq.go (W.seq ?_))
  skip
  refine W.region ?_
  refine WL.alloc rfl rfl rfl (fun b5 => ?_)
  refine WL.nil ?_
  refine Kseq.go (W.seq ?_)
  skip
  refine W.region ?_
  refine WL.alloc rfl rfl rfl (fun b6 => ?_)
  refine WL.nil ?_
  refine Kseq.go (W.seq ?_)
  skip
  refine W.region ?_
  refine WL.val (OpVal.opv rfl) rfl rfl rfl ?_
  refine WL.store [_] rfl (.head _) rfl rfl rfl (Nat.le_of_ble_eq_true rfl) (by first | (simp [Value.cells, Value.oneCell']; done) | exact IsArr.ones hW (by omega) | exact IsArr.ones hP (by omega) | exact IsArr.ones hS (by omega) | exact IsArr.ones hH (by omega) | exact IsArr.ones hL (by omega) | exact IsArr.ones hB (by omega) | exact IsArr.ones hT (by omega) | exact IsArr.ones hm (by omega)) rfl ?_
  refine WL.nil ?_
  refine Kseq.go (W.seq (W.seq ?_))
  refine W.freezeBox (.head _) (fun b hb => (hF b hb).elim) fun m6 h6 => ?_
  refine W.join fun mj hj => ?_
  have hvj := hv'.le (hj h (by simp))
  have h1j := h1.le (hj m1 (by simp))
  have h6j := h6.le (hj m6 (by simp))
  skip
  refine W.region ?_
  refine WL.val (OpVal.fieldAddrB rfl) rfl rfl rfl ?_
  refine WL.val (OpVal.loadP rfl (by assumption) (by repeat (first | exact .head _ | refine .tail _ ?_)) rfl) rfl rfl rfl ?_
  refine WL.val (OpVal.len rfl (by assumption)) rfl rfl rfl ?_
  refine WL.val (OpVal.incr rfl (by omega)) rfl rfl rfl ?_
  refine WL.val (OpVal.opv rfl) rfl rfl rfl ?_
  refine WL.nil ?_
  refine Kseq.go (W.block ?_)
  refine W.loop (σ := Nat × Value) (fun s => [(1, .pointer (some ⟨b1, 0, none⟩)), (5, .pointer (some ⟨b5, 0, none⟩)), (6, .pointer (some ⟨b6, 0, none⟩)), (17, .int .i64 ((r.signs.length + 1 : Nat) : Int)), (18, .int .i64 (s.1 : Int))]) (fun _ => [mj]) (fun s => [.blk b5 #[s.2] 26])
    (fun s => s.1 ≤ r.signs.length + 1 ∧ ∀ j, j < s.1 → setR (possible6 r) r.signs.length j [] 0 = none) (fun s => r.signs.length + 1 - s.1) (0, .slice none 0 0) ⟨rfl, rfl, rfl, rfl, rfl, trivial⟩ (by simp) (.refl _) ⟨Nat.zero_le _, fun j hj => absurd hj (Nat.not_lt_zero _)⟩ ?_
  rintro ⟨k, fv⟩ ⟨hk, hprev⟩
  dsimp only at hk hprev ⊢
  refine W.seq ?_
  refine W.region ?_
  refine WL.val (OpVal.opv rfl) rfl rfl rfl ?_
  refine WL.nil ?_
  refine Kseq.go (W.seq ?_)
  refine W.condD rfl rfl (fun hlt => ?_) (fun hge => ?_)
  · refine W.skip (Kseq.go (W.seq (W.block (W.seq ?_))))
    refine W.region ?_
    refine WL.val (OpVal.opv rfl) rfl rfl rfl ?_
    refine WL.val (OpVal.opv rfl) rfl rfl rfl ?_
    refine WL.nil ?_
    refine Kseq.go (W.seq ?_)
    skip
    refine W.region ?_
    refine WL.val (OpVal.loadP rfl (by assumption) (by repeat (first | exact .head _ | refine .tail _ ?_)) rfl) rfl rfl rfl ?_
    refine WL.val (OpVal.opv rfl) rfl rfl rfl ?_
    (refine WL.callM rfl rfl (M0 := [mj]) (by simp) (Split.all _) rfl (leave6In_any hVa hs k [] 0 mj (.slice none 0 0) fv hvj h1j h6j (IsInts.nil _) (by simp; omega) (by omega) (by omega)) rfl rfl rfl ?_; rintro v23 M1 a1 ⟨fv2, rfl, hres⟩)
    refine WL.nil ?_
    refine Kseq.go ?_
    rcases hres with ⟨c', hc, rfl, mr, hmr, hI⟩ | ⟨hc, rfl⟩
    · refine W.condT rfl rfl ?_
      refine W.exit (Kblock.past rfl (Kseq.exit (Kloop.exit (Kblock.here (Kseq.go (W.seq ?_))))))
      skip
      refine W.region ?_
      refine WL.val (OpVal.loadB rfl (.head _) rfl) rfl rfl rfl ?_
      refine WL.val (OpVal.opv rfl) rfl rfl rfl ?_
      refine WL.val (OpVal.opv rfl) rfl rfl rfl ?_
      refine WL.nil ?_
      refine Kseq.go ?_
      refine W.ret ?_; skip
      refine ⟨.inl rfl, [_, _], mr, ⟨.tmp rfl, .tmp rfl, trivial⟩, List.mem_append_left _ hmr, ?_⟩
      refine ⟨_, by rw [hf0]; rfl, fun h0 => absurd hf0 h0, fun _ c hcc => ?_⟩
      unfold leave6 setAll at hcc
      rw [fsome_hit (Nat.zero_le _) (by omega) (fun i _ h2 => hprev i h2) hc] at hcc
      cases hcc
      exact hI
    · refine W.condF rfl rfl ?_
      refine W.skip (Kblock.normal (Kseq.go ?_))
      refine W.region ?_
      refine WL.val (OpVal.incr rfl (by omega)) rfl rfl rfl ?_
      refine WL.val (OpVal.opv rfl) rfl rfl rfl ?_
      refine WL.nil ?_
      skip
      refine Kloop.next (k + 1, fv2) ⟨by omega, fun j hj => ?_⟩ (by omega) ⟨rfl, rfl, rfl, rfl, rfl, trivial⟩ (fun x hx => List.mem_append_right _ hx) (.refl _)
      rcases Nat.lt_succ_iff_lt_or_eq.1 hj with h2 | rfl
      · exact hprev j h2
      · exact hc
  · refine W.exit (Kseq.exit (Kloop.exit (Kblock.here (Kseq.go (W.seq ?_)))))
    skip
    refine W.region ?_
    refine WL.val (OpVal.loadB rfl (.head _) rfl) rfl rfl rfl ?_
    refine WL.val (OpVal.opv rfl) rfl rfl rfl ?_
    refine WL.val (OpVal.opv rfl) rfl rfl rfl ?_
    refine WL.nil ?_
    refine Kseq.go ?_
    refine W.ret ?_; skip; refine ⟨.inl rfl, [_, _], mj, ⟨.tmp rfl, .tmp rfl, trivial⟩, (by repeat (first | exact .head _ | refine .tail _ ?_)), ?_⟩
    refine ⟨_, by rw [hf0]; rfl, fun h0 => absurd hf0 h0, fun _ c hc => ?_⟩
    unfold leave6 setAll at hc
    rw [fsome_none (fun i _ h2 => hprev i (by omega))] at hc
    cases hc

end Go.Proofs.YtdnbkjgbehakpaaGreat
