/- The program's function Leave: its contract. -/
import Derived.Test.YtbmohbeocnfefaaT22
import Derived.Test.YtbmohbeocnfefaaP1
namespace Go.Proofs.Ytbmohbeocnfefaa
open Go Go.Eng Go.RowKit

/-- leave, within Leave -/
theorem leaveIn_any {t : Table} (hs : Sm t) (h7 : t.pieces.length ≤ 7) {tv : Value} {bf b1 b6 : Nat} :
    ∀ (many : Nat) (out : List Int) (s : Nat) (hm : Mem) (ov fv : Value), IsTable hm tv t → IsBox hm b1 tv.cells 43 → IsBox hm b6 #[.func (.func 32) #[] #[.pointer (some ⟨bf, 0, none⟩), .pointer (some ⟨b1, 0, none⟩), .pointer (some ⟨b6, 0, none⟩)]] 89 →
      IsInts hm ov out → out.length + many ≤ 1000 → s ≤ 1000 → many ≤ t.women.length →
      FnM Try.prog 32 #[ov, vi s, vi many, .pointer (some ⟨bf, 0, none⟩), .pointer (some ⟨b1, 0, none⟩), .pointer (some ⟨b6, 0, none⟩)] [hm] [.blk bf #[fv] 33]
        (fun v Ms' μ' => ∃ fv', μ' = [.blk bf #[fv'] 33] ∧ ((∃ c, leaveR t many out s = some c ∧ v = .bool true ∧ ∃ m ∈ Ms', IsInts m fv' c) ∨ (leaveR t many out s = none ∧ v = .bool false))) := by
  intro many
  induction many with
  | zero =>
    intro out s hm ov fv hv hb1 hb6 ho hlen hsle hmw
    have hv' := hv
    obtain ⟨wv, pv, f, rfl, hW, hP, hM⟩ := hv
    obtain ⟨oa, oc, rfl⟩ := IsArr.form ho
    refine FnM.of_W (n := 38) Try.func32 rfl rfl (Nat.le_of_ble_eq_true rfl) rfl fun c hr hD hF => ?_
    skip
    refine W.seq ?_
    refine W.region ?_
    refine WL.val (OpVal.opv rfl) rfl rfl rfl ?_
    refine WL.nil ?_
    refine Kseq.go (W.seq (W.seq ?_))
    skip
    refine W.region ?_
    refine WL.val (OpVal.opv rfl) rfl rfl rfl ?_
    refine WL.val (OpVal.opv rfl) rfl rfl rfl ?_
    refine WL.nil ?_
    refine Kseq.go ?_
    refine W.condT rfl rfl ?_
    refine W.seq ?_
    refine W.region ?_
    refine WL.val (OpVal.opv rfl) rfl rfl rfl ?_
    (refine WL.store [_] rfl (.head _) rfl rfl rfl (Nat.le_of_ble_eq_true rfl) (by simp [Value.cells, Value.oneCell']) rfl ?_)
    refine WL.nil ?_
    refine Kseq.go (W.seq ?_)
    skip
    refine W.region ?_
    refine WL.val (OpVal.loadPW rfl (by assumption) (by repeat (first | exact .head _ | refine .tail _ ?_)) (by rfl)) rfl rfl rfl ?_
    refine WL.val (OpVal.opv rfl) rfl rfl rfl ?_
    refine WL.val (OpVal.call rfl (fun m hm => possible_any (hv'.le (by repeat (first | exact hm.1 | replace hm := hm.2))) hs h7 (ho.le (by repeat (first | exact hm.1 | replace hm := hm.2))))) rfl rfl rfl ?_
    refine WL.val (OpVal.opv rfl) rfl rfl rfl ?_
    refine WL.nil ?_
    refine Kseq.go ?_
    refine W.ret ?_; refine Kseq.ret ?_
    refine ⟨.inl rfl, [_], [hm], _, ⟨.tmp rfl, trivial⟩, ⟨_, rfl, ?_⟩, by simp, .refl _, by simp [markOf]⟩
    cases hp : possibleB t out with
    | true => exact .inl ⟨out, by simp [leaveR, hp], rfl, hm, .head _, ho⟩
    | false => exact .inr ⟨by simp [leaveR, hp], rfl⟩
  | succ m ih =>
    intro out s hm ov fv hv hb1 hb6 ho hlen hsle hmw
    have hv' := hv
    obtain ⟨wv, pv, f, rfl, hW, hP, hM⟩ := hv
    have hs1 := hs.1
    refine FnM.of_W (n := 38) Try.func32 rfl rfl (Nat.le_of_ble_eq_true rfl) rfl fun c hr hD hF => ?_
    skip
    refine W.seq ?_
    refine W.region ?_
    refine WL.val (OpVal.opv rfl) rfl rfl rfl ?_
    refine WL.nil ?_
    refine Kseq.go (W.seq (W.seq ?_))
    skip
    refine W.region ?_
    refine WL.val (OpVal.opv rfl) rfl rfl rfl ?_
    refine WL.val (OpVal.opv rfl) rfl rfl rfl ?_
    refine WL.nil ?_
    refine Kseq.go ?_
    refine W.condD rfl rfl (fun he => absurd he (by omega)) (fun hne => ?_)
    refine W.skip (Kseq.go (W.seq (W.seq ?_)))
    refine W.region ?_
    refine WL.val (OpVal.opv rfl) rfl rfl rfl ?_
    refine WL.val (OpVal.opv rfl) rfl rfl rfl ?_
    refine WL.nil ?_
    refine Kseq.go (W.block ?_)
    have hall : ∀ {i : Nat}, (∀ j, s ≤ j → j < i → leaveR t m (out ++ [(j : Int)]) (j + 1) = none) → t.women.length - m ≤ i → leaveR t (m + 1) out s = none := fun {i} h1 h2 => by
      simp only [leaveR]
      exact fsome_none fun j k1 k2 => h1 j k1 (by omega)
    refine W.loop (σ := Nat × Value) (fun x => [(0, ov), (2, vi ((m + 1 : Nat) : Int)), (3, .pointer (some ⟨bf, 0, none⟩)), (4, .pointer (some ⟨b1, 0, none⟩)), (5, .pointer (some ⟨b6, 0, none⟩)), (10, .int .i64 (x.1 : Int))]) (fun _ => [hm]) (fun x => [.blk bf #[x.2] 33])
      (fun x => s ≤ x.1 ∧ x.1 ≤ 1001 ∧ ∀ j, s ≤ j → j < x.1 → leaveR t m (out ++ [(j : Int)]) (j + 1) = none) (fun x => 1001 - x.1) (s, fv) ⟨rfl, rfl, rfl, rfl, rfl, rfl, trivial⟩ (by simp) (.refl _) ⟨Nat.le_refl _, by dsimp only; omega, fun j k1 k2 => absurd k1 (by dsimp only at k2; omega)⟩ ?_
    rintro ⟨i, fv1⟩ ⟨hsi, hib, hprev⟩
    dsimp only at hsi hib hprev ⊢
    refine W.seq (W.seq ?_)
    refine W.region ?_
    refine WL.val (OpVal.opv rfl) rfl rfl rfl ?_
    refine WL.val (OpVal.fieldAddrB rfl) rfl rfl rfl ?_
    refine WL.val (OpVal.loadP rfl (by assumption) (by repeat (first | exact .head _ | refine .tail _ ?_)) rfl) rfl rfl rfl ?_
    refine WL.val (OpVal.len rfl (by assumption)) rfl rfl rfl ?_
    refine WL.val (OpVal.opv rfl) rfl rfl rfl ?_
    refine WL.val (OpVal.sub rfl rfl (by omega) (by omega)) rfl rfl rfl ?_
    refine WL.val (OpVal.opv rfl) rfl rfl rfl ?_
    refine WL.nil ?_
    refine Kseq.go ?_
    refine W.condD rfl rfl (fun hle => ?_) (fun hgt => ?_)
    · have hiw : i + (m + 1) ≤ t.women.length := by omega
      let l0 : List (Nat × Value) := [(0, ov), (2, vi ((m + 1 : Nat) : Int)), (3, .pointer (some ⟨bf, 0, none⟩)), (4, .pointer (some ⟨b1, 0, none⟩)), (5, .pointer (some ⟨b6, 0, none⟩)), (10, .int .i64 (i : Int))]
      refine W.skip (Kseq.go (W.seq (W.block (W.seq ?_))))
      refine W.weaken l0 [hm] [.blk bf #[fv1] 33] (by repeat (first | exact trivial | refine ⟨rfl, ?_⟩)) (by simp) (.refl _) ?_
      skip
      refine W.drawN (γ := Ph2 Value (Option Addr × Nat)) .a 10 [2, 5] (Ph2.sel l0 (fun r => (29, r) :: l0) (fun r g => (32, .slice g.1 (out.length + 1) g.2) :: (29, r) :: l0)) (Ph2.sel [.blk bf #[fv1] 33] (fun r => [.blk bf #[fv1] 33, ir 3 r out]) (fun r g => [.blk bf #[fv1] 33, ir 3 (.slice g.1 (out.length + 1) g.2) (out ++ [(i : Int)])])) Ph2.num (by kernel_rfl) (by kernel_rfl) (by kernel_rfl) rfl Ph2.le (Ph2.all rfl (fun _ => rfl) (fun _ _ => rfl)) rfl rfl ?_
      refine DJN.val [] (Ph2.all (fun hg => (by first | exact OpVal.loadB rfl (.head _) rfl | exact OpVal.loadB rfl (.tail _ (.head _)) rfl | exact OpVal.loadB rfl (.tail _ (.tail _ (.head _))) rfl | exact OpVal.loadB rfl (.tail _ (.tail _ (.tail _ (.head _)))) rfl | exact OpVal.loadB rfl (.tail _ (.tail _ (.tail _ (.tail _ (.head _))))) rfl | exact OpVal.loadB rfl (.tail _ (.tail _ (.tail _ (.tail _ (.tail _ (.head _)))))) rfl | exact OpVal.loadP rfl (by assumption) (by repeat (first | exact .head _ | refine .tail _ ?_)) rfl)) (fun x1 hg => (by first | exact OpVal.loadB rfl (.head _) rfl | exact OpVal.loadB rfl (.tail _ (.head _)) rfl | exact OpVal.loadB rfl (.tail _ (.tail _ (.head _))) rfl | exact OpVal.loadB rfl (.tail _ (.tail _ (.tail _ (.head _)))) rfl | exact OpVal.loadB rfl (.tail _ (.tail _ (.tail _ (.tail _ (.head _))))) rfl | exact OpVal.loadB rfl (.tail _ (.tail _ (.tail _ (.tail _ (.tail _ (.head _)))))) rfl | exact OpVal.loadP rfl (by assumption) (by repeat (first | exact .head _ | refine .tail _ ?_)) rfl)) (fun x1 x2 hg => (by first | exact OpVal.loadB rfl (.head _) rfl | exact OpVal.loadB rfl (.tail _ (.head _)) rfl | exact OpVal.loadB rfl (.tail _ (.tail _ (.head _))) rfl | exact OpVal.loadB rfl (.tail _ (.tail _ (.tail _ (.head _)))) rfl | exact OpVal.loadB rfl (.tail _ (.tail _ (.tail _ (.tail _ (.head _))))) rfl | exact OpVal.loadB rfl (.tail _ (.tail _ (.tail _ (.tail _ (.tail _ (.head _)))))) rfl | exact OpVal.loadP rfl (by assumption) (by repeat (first | exact .head _ | refine .tail _ ?_)) rfl))) (Ph2.all (fun hg => rfl) (fun x1 hg => rfl) (fun x1 x2 hg => rfl)) rfl rfl (Ph2.all rfl (fun _ => rfl) (fun _ _ => rfl)) rfl ?_
      refine DJN.val [] (Ph2.all (fun hg => OpVal.opv rfl) (fun x1 hg => Bool.noConfusion (show false = true from hg)) (fun x1 x2 hg => Bool.noConfusion (show false = true from hg))) (Ph2.all (fun hg => rfl) (fun x1 hg => Bool.noConfusion (show false = true from hg)) (fun x1 x2 hg => Bool.noConfusion (show false = true from hg))) rfl rfl (Ph2.all rfl (fun _ => rfl) (fun _ _ => rfl)) rfl ?_
      refine DJN.eff 0 [(28, _)] ⟨rfl, trivial⟩ rfl rfl [] trivial (Ph2.all (fun hg => ⟨rfl, fun M2 hM2 => ?_⟩) (fun x1 hg => absurd hg (by simp [Ph2.num])) (fun x1 x2 hg => absurd hg (by simp [Ph2.num]))) ?_
      · (refine WL.callM rfl rfl (M0 := [hm]) (fun x hx => hM2 x hx) (Split.none _) rfl (cloneM_any ho (by omega)) rfl rfl rfl ?_; rintro r M1 a1 ⟨rfl, rfl, hr⟩; exact WL.nil ⟨.b r, rfl, Keff.intro (by repeat (first | exact trivial | refine ⟨rfl, ?_⟩)) (fun x hx => hx) (.refl _)⟩)
      refine DJN.val [] (Ph2.all (fun hg => OpVal.opv rfl) (fun x1 hg => OpVal.opv rfl) (fun x1 x2 hg => OpVal.opv rfl)) (Ph2.all (fun hg => rfl) (fun x1 hg => rfl) (fun x1 x2 hg => rfl)) rfl rfl (Ph2.all rfl (fun _ => rfl) (fun _ _ => rfl)) rfl ?_
      refine DJN.abs (A := fun m r => IsCells m 1 r 1 [vi i]) [] (Ph2.all (fun hg => (OpAbs.litI rfl)) (fun x1 hg => (OpAbs.litI rfl)) (fun x1 x2 hg => Bool.noConfusion (show false = true from hg))) (Ph2.all (fun hg => rfl) (fun x1 hg => rfl) (fun x1 x2 hg => Bool.noConfusion (show false = true from hg))) rfl rfl (Ph2.all rfl (fun _ => rfl) (fun _ _ => rfl)) rfl ?_
      refine DJN.eff 1 [] trivial rfl rfl [(31, fun m r => IsCells m 1 r 1 [vi i])] ⟨(by repeat (first | exact .head _ | refine .tail _ ?_)), rfl, trivial⟩ (Ph2.all (fun hg => absurd hg (by simp [Ph2.num])) (fun x1 hg => ⟨rfl, fun M2 hM2 => ?_⟩) (fun x1 x2 hg => absurd hg (by simp [Ph2.num]))) ?_
      · intro m31 v31 h31
        (refine WL.appInt (k := (i : Int)) rfl (fun _ => .tail _ (.head _)) rfl h31 (.head _) (by omega) rfl rfl rfl ?_; intro a32 c32; exact WL.nil ⟨.c x1 (a32, c32), rfl, Keff.intro (by repeat (first | exact trivial | refine ⟨rfl, ?_⟩)) (fun x hx => .tail _ hx) (.refl _)⟩)
      refine DJN.val [] (Ph2.all (fun hg => OpVal.opv rfl) (fun x1 hg => OpVal.opv rfl) (fun x1 x2 hg => OpVal.opv rfl)) (Ph2.all (fun hg => rfl) (fun x1 hg => rfl) (fun x1 x2 hg => rfl)) rfl rfl (Ph2.all rfl (fun _ => rfl) (fun _ _ => rfl)) rfl ?_
      refine DJN.val [] (Ph2.all (fun hg => (by first | exact OpVal.incr rfl (by omega) | exact OpVal.add rfl rfl (by omega) (by omega))) (fun x1 hg => (by first | exact OpVal.incr rfl (by omega) | exact OpVal.add rfl rfl (by omega) (by omega))) (fun x1 x2 hg => (by first | exact OpVal.incr rfl (by omega) | exact OpVal.add rfl rfl (by omega) (by omega)))) (Ph2.all (fun hg => rfl) (fun x1 hg => rfl) (fun x1 x2 hg => rfl)) rfl rfl (Ph2.all rfl (fun _ => rfl) (fun _ _ => rfl)) rfl ?_
      refine DJN.val [] (Ph2.all (fun hg => OpVal.opv rfl) (fun x1 hg => OpVal.opv rfl) (fun x1 x2 hg => OpVal.opv rfl)) (Ph2.all (fun hg => rfl) (fun x1 hg => rfl) (fun x1 x2 hg => rfl)) rfl rfl (Ph2.all rfl (fun _ => rfl) (fun _ _ => rfl)) rfl ?_
      refine DJN.val [] (Ph2.all (fun hg => OpVal.cast (OpVal.sub rfl rfl (by omega) (by omega)) (congrArg (Value.int .i64) (show ((m + 1 : Nat) : Int) - 1 = (m : Int) by omega))) (fun x1 hg => OpVal.cast (OpVal.sub rfl rfl (by omega) (by omega)) (congrArg (Value.int .i64) (show ((m + 1 : Nat) : Int) - 1 = (m : Int) by omega))) (fun x1 x2 hg => OpVal.cast (OpVal.sub rfl rfl (by omega) (by omega)) (congrArg (Value.int .i64) (show ((m + 1 : Nat) : Int) - 1 = (m : Int) by omega)))) (Ph2.all (fun hg => rfl) (fun x1 hg => rfl) (fun x1 x2 hg => rfl)) rfl rfl (Ph2.all rfl (fun _ => rfl) (fun _ _ => rfl)) rfl ?_
      refine DJN.nil (Ph2.all (fun hg => absurd hg (by simp [Ph2.num])) (fun x1 hg => absurd hg (by simp [Ph2.num])) (fun x1 x2 hg => ?_))
      rintro m31 v31 h31
      (refine WL.freezeInts (.tail _ (.head _)) (fun b hb => hF b hb) fun mo hmo => ?_; refine WL.join fun mj hj => ?_; refine WL.callM rfl rfl (M0 := [mj]) (by simp) (Split.all _) rfl (ih (out ++ [(i : Int)]) (i + 1) mj _ fv1 (hv'.le (hj _ (by simp))) (hb1.le (hj _ (by simp))) (hb6.le (hj _ (by simp))) (IsInts.le (by simpa using hmo) (hj mo (by simp))) (by simp; omega) (by omega) (by omega)) rfl rfl rfl ?_; rintro v37 M1 a1 ⟨fv2, rfl, hres⟩)
      refine WL.nil ?_
      refine Kseq.go ?_
      rcases hres with ⟨c', hc, rfl, mr, hmr, hI⟩ | ⟨hc, rfl⟩
      · refine W.condT rfl rfl ?_
        refine W.seq ?_
        refine W.region ?_
        refine WL.val (OpVal.opv rfl) rfl rfl rfl ?_
        refine WL.nil ?_
        refine Kseq.go ?_
        refine W.ret ?_; refine Kblock.ret (Kseq.ret (Kloop.ret (Kblock.ret (Kseq.ret ?_))))
        refine ⟨.inl rfl, [_], M1, _, ⟨.tmp rfl, trivial⟩, ⟨fv2, rfl, .inl ⟨c', ?_, rfl, mr, hmr, hI⟩⟩, fun x hx => List.mem_append_left _ hx, .refl _, by simp [markOf]⟩
        simp only [leaveR]
        exact fsome_hit hsi (by omega) hprev hc
      · refine W.condF rfl rfl ?_
        refine W.skip (Kblock.normal (Kseq.go ?_))
        refine W.region ?_
        refine WL.val (OpVal.opv rfl) rfl rfl rfl ?_
        refine WL.val (OpVal.incr rfl (by omega)) rfl rfl rfl ?_
        refine WL.val (OpVal.opv rfl) rfl rfl rfl ?_
        refine WL.nil ?_
        skip
        refine Kloop.next (i + 1, fv2) ⟨by omega, by omega, fun j k1 k2 => ?_⟩ (by omega) ⟨rfl, rfl, rfl, rfl, rfl, rfl, trivial⟩ (fun x hx => List.mem_append_right _ (by simp at hx; simp [hx])) (.refl _)
        rcases Nat.lt_succ_iff_lt_or_eq.1 k2 with h2 | rfl
        · exact hprev j k1 h2
        · exact hc
    · refine W.exit (Kseq.exit (Kloop.exit (Kblock.here (Kseq.go (W.seq ?_)))))
      skip
      refine W.region ?_
      refine WL.val (OpVal.opv rfl) rfl rfl rfl ?_
      refine WL.nil ?_
      refine Kseq.go ?_
      refine W.ret ?_; skip
      refine ⟨.inl rfl, [_], [hm], _, ⟨.tmp rfl, trivial⟩, ⟨_, rfl, .inr ⟨hall hprev (by omega), rfl⟩⟩, by simp, .refl _, by simp [markOf]⟩
end Go.Proofs.Ytbmohbeocnfefaa
