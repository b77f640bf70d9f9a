/- The reference's function of all walks: its contract. -/
import Derived.Test.YtdjkokpbeaapoaaGreatT78
import Derived.Test.YtdjkokpbeaapoaaGreatE18
namespace Go.Proofs.YtdjkokpbeaapoaaGreat
open Go Go.Eng Go.RowKit

theorem AllInts.append {m : Mem} {vs ws : List Value} {xss yss : List (List Int)} (h1 : AllInts m vs xss) (h2 : AllInts m ws yss) : AllInts m (vs ++ ws) (xss ++ yss) := by
  refine ⟨by simp [h1.1, h2.1], fun i hi => ?_⟩
  rcases Nat.lt_or_ge i xss.length with h | h
  · have := h1.2 i h
    simp only [List.getD_eq_getElem?_getD] at this ⊢
    rwa [List.getElem?_append_left (by rw [h1.1]; exact h), List.getElem?_append_left h]
  · have := h2.2 (i - xss.length) (by simp at hi; omega)
    simp only [List.getD_eq_getElem?_getD] at this ⊢
    rwa [List.getElem?_append_right (by rw [h1.1]; exact h), List.getElem?_append_right h, h1.1]
theorem walksUpto_len {n : Nat} {f : Nat} {b : List Int} (h : ∀ b, (walksFrom n f b).length ≤ 5 ^ f) : ∀ k, (walksUpto n f b k).length ≤ 1 + k * 5 ^ f
  | 0 => by simp [walksUpto]
  | k + 1 => by
    have ih := walksUpto_len h (b := b) k
    rw [walksUpto_succ, List.length_append]
    have h1 : (if goes b k then walksFrom n f (b ++ [(k : Int)]) else []).length ≤ 5 ^ f := by
      split
      · exact h _
      · simp
    rw [Nat.add_mul]
    omega
theorem walksFrom_len {n : Nat} (hn : n ≤ 4) : ∀ f b, (walksFrom n f b).length ≤ 5 ^ f
  | 0, b => by simp [walksFrom]
  | f + 1, b => by
    have h := walksUpto_len (b := b) (walksFrom_len hn f) n
    rw [walksUpto_all] at h
    have h1 : n * 5 ^ f ≤ 4 * 5 ^ f := Nat.mul_le_mul_right _ hn
    have h2 : 0 < 5 ^ f := Nat.pow_pos (by omega)
    rw [Nat.pow_succ]
    omega
theorem vals_cells {m : Mem} {v : Value} {vs : List Value} (h : IsArr m 1 v vs.length (fun i _ => vs.getD i undef)) : IsCells m 1 v vs.length vs :=
  ⟨by simp, h.congr fun i j hi hj => by
    have : j = 0 := by omega
    subst this
    simp⟩
/-- ref.Walks -/
theorem walksR_any {r : Errand} (hn : r.n ≤ 4) : ∀ (d : Nat) {h : Mem} {v bv : Value} {b : List Int} {most : Int}, most = b.length + d → b.length + d ≤ 7 → IsErrand h v r → IsInts h bv b → FnR Tryz.prog 23 #[v, bv, vi most] h (fun m q => IsLists m q (walksFrom r.n d b)) := by
  intro d
  induction d with
  | zero =>
    intro h v bv b most hmost h7 hv hb
    obtain ⟨wv, pv, hov, sv, f, rfl, hW, hP, hM, hH, hS⟩ := hv
    obtain ⟨ba, bc, rfl⟩ := IsArr.form hb
    refine FnR.of_W (n := 49) Tryz.func23 rfl rfl (Nat.le_of_ble_eq_true rfl) fun c hr hD hF => ?_
    refine W.seq ?_
    refine W.region ?_
    refine WL.box rfl rfl rfl rfl (fun b3 => ?_)
    refine WL.val (OpVal.opv rfl) rfl rfl rfl ?_
    refine WL.nil ?_
    refine Kseq.go (W.seq ?_)
    skip
    refine W.region ?_
    refine WL.val (OpVal.opv rfl) rfl rfl rfl ?_
    (refine WL.lit (vs := [.slice ba b.length bc]) [.slice ba b.length bc] rfl (Nat.le_of_ble_eq_true rfl) rfl rfl (by simp [Value.cells]) (Nat.le_of_ble_eq_true rfl) rfl rfl rfl rfl (fun b10 => ?_))
    refine WL.val (OpVal.opv rfl) rfl rfl rfl ?_
    refine WL.nil ?_
    refine Kseq.go (W.seq (W.seq ?_))
    skip
    refine W.region ?_
    refine WL.val (OpVal.opv rfl) rfl rfl rfl ?_
    refine WL.val (OpVal.len rfl (by assumption)) rfl rfl rfl ?_
    refine WL.val (OpVal.opv rfl) rfl rfl rfl ?_
    refine WL.val (OpVal.opv rfl) rfl rfl rfl ?_
    refine WL.nil ?_
    refine Kseq.go ?_
    refine W.condD rfl rfl (fun he => ?_) (fun hne => absurd hne (by simp [hmost]))
    refine W.freezeV (xs := [.slice ba b.length bc]) (.head _) (fun b hb => (hF b hb).elim) (by simp [Value.oneCell']) fun mr hmr => ?_
    refine W.join fun mj hj => ?_
    refine W.seq ?_
    refine W.region ?_
    refine WL.val (OpVal.opv rfl) rfl rfl rfl ?_
    refine WL.val (OpVal.opv rfl) rfl rfl rfl ?_
    refine WL.nil ?_
    refine Kseq.go ?_
    refine W.ret ?_; refine Kseq.ret ?_; refine ⟨.inl rfl, [_], mj, ⟨.tmp rfl, trivial⟩, (by repeat (first | exact .head _ | refine .tail _ ?_)), ?_⟩
    exact ⟨[.slice ba b.length bc], ⟨rfl, fun i hi => by
      have : i = 0 := by simp [walksFrom] at hi; omega
      subst this
      exact hb.le (hj _ (by simp))⟩, IsArr.le hmr (hj _ (by simp))⟩
  | succ d ih =>
    intro h v bv b most hmost h7 hv hb
    have hv' := hv
    obtain ⟨wv, pv, hov, sv, f, rfl, hW, hP, hM, hH, hS⟩ := hv
    obtain ⟨ba, bc, rfl⟩ := IsArr.form hb
    have hnw : r.table.women.length = r.n := rfl
    have hfl := walksFrom_len hn d
    have hpow : 5 ^ d ≤ 5 ^ 7 := Nat.pow_le_pow_right (by omega) (by omega)
    refine FnR.of_W (n := 49) Tryz.func23 rfl rfl (Nat.le_of_ble_eq_true rfl) fun c hr hD hF => ?_
    refine W.seq ?_
    refine W.region ?_
    refine WL.box rfl rfl rfl rfl (fun b3 => ?_)
    refine WL.val (OpVal.opv rfl) rfl rfl rfl ?_
    refine WL.nil ?_
    refine Kseq.go (W.seq ?_)
    refine W.freezeBox (.head _) (fun b hb => (hF b hb).elim) fun m1 h1 => ?_
    skip
    refine W.region ?_
    refine WL.val (OpVal.opv rfl) rfl rfl rfl ?_
    (refine WL.lit (vs := [.slice ba b.length bc]) [.slice ba b.length bc] rfl (Nat.le_of_ble_eq_true rfl) rfl rfl (by simp [Value.cells]) (Nat.le_of_ble_eq_true rfl) rfl rfl rfl rfl (fun b10 => ?_))
    refine WL.val (OpVal.opv rfl) rfl rfl rfl ?_
    refine WL.nil ?_
    refine Kseq.go (W.seq (W.seq ?_))
    skip
    refine W.region ?_
    refine WL.val (OpVal.opv rfl) rfl rfl rfl ?_
    refine WL.val (OpVal.len rfl (by assumption)) rfl rfl rfl ?_
    refine WL.val (OpVal.opv rfl) rfl rfl rfl ?_
    refine WL.val (OpVal.opv rfl) rfl rfl rfl ?_
    refine WL.nil ?_
    refine Kseq.go ?_
    refine W.condD rfl rfl (fun he => absurd he (by omega)) (fun hne => ?_)
    refine W.skip (Kseq.go (W.seq (W.seq ?_)))
    skip
    refine W.region ?_
    refine WL.val (OpVal.opv rfl) rfl rfl rfl ?_
    refine WL.nil ?_
    refine Kseq.go (W.block ?_)
    refine W.loop (σ := Nat × Value × Mem × List Value) (fun s => [(1, .slice ba b.length bc), (2, vi most), (3, .pointer (some ⟨b3, 0, none⟩)), (7, s.2.1), (8, .int .i64 (s.1 : Int))]) (fun s => [h, m1, s.2.2.1]) (fun s => [vr 33 s.2.1 s.2.2.2])
      (fun s => s.1 ≤ r.n ∧ AllInts s.2.2.1 s.2.2.2 (walksUpto r.n d b s.1)) (fun s => r.n - s.1) (0, .slice (some ⟨b10, 0, none⟩) 1 1, h, [.slice ba b.length bc]) ⟨rfl, rfl, rfl, rfl, rfl, trivial⟩ (by simp) (by repeat (first | exact List.Sublist.refl _ | refine List.Sublist.cons _ ?_ | refine List.Sublist.cons_cons _ ?_)) ⟨Nat.zero_le _, show AllInts h [.slice ba b.length bc] [b] from ⟨rfl, fun i hi => by
        have : i = 0 := by simp at hi; omega
        subst this
        exact hb⟩⟩ ?_
    rintro ⟨k, a, m0, vs⟩ ⟨hk, hall⟩
    dsimp only at hk hall ⊢
    have hul := walksUpto_len (b := b) hfl k
    have hkp : k * 5 ^ d ≤ 4 * 5 ^ d := Nat.mul_le_mul_right _ (by omega)
    have hvl := hall.1
    refine W.seq (W.seq ?_)
    refine W.region ?_
    refine WL.val (OpVal.opv rfl) rfl rfl rfl ?_
    refine WL.val (OpVal.fieldAddrB rfl) rfl rfl rfl ?_
    refine WL.val (OpVal.fieldAddrB rfl) rfl rfl rfl ?_
    refine WL.val (OpVal.loadP rfl (by assumption) (by repeat (first | exact .head _ | refine .tail _ ?_)) rfl) rfl rfl rfl ?_
    refine WL.val (OpVal.len rfl hW) rfl rfl rfl ?_
    refine WL.val (OpVal.opv rfl) rfl rfl rfl ?_
    refine WL.nil ?_
    refine Kseq.go ?_
    refine W.condD rfl rfl (fun hlt => ?_) (fun hge => ?_)
    · have hkn : k < r.n := by omega
      have eb : ((b.length : Int) - 1).toNat = b.length - 1 := by omega
      refine W.skip (Kseq.go (W.seq (W.block (W.seq ?_))))
      refine W.toS [(1, .slice ba b.length bc), (2, vi most), (3, .pointer (some ⟨b3, 0, none⟩)), (7, a), (8, .int .i64 (k : Int)), (36, .bool (goes b k))] ?_ ?_
      · skip
        refine W.region ?_
        refine WL.val (OpVal.opv rfl) rfl rfl rfl ?_
        refine WL.val (OpVal.len rfl (by assumption)) rfl rfl rfl ?_
        refine WL.val (OpVal.opv rfl) rfl rfl rfl ?_
        refine WL.val (OpVal.opv rfl) rfl rfl rfl ?_
        refine WL.split rfl rfl (fun g27 => ?_) (fun g27 => ?_)
        · refine WL.pass rfl rfl rfl ?_
          refine WL.pass rfl rfl rfl ?_
          refine WL.pass rfl rfl rfl ?_
          refine WL.pass rfl rfl rfl ?_
          refine WL.pass rfl rfl rfl ?_
          refine WL.pass rfl rfl rfl ?_
          refine WL.pass rfl rfl rfl ?_
          refine WL.pass rfl rfl rfl ?_
          refine WL.val (OpVal.opv rfl) rfl rfl rfl ?_
          refine WL.nil ?_
          skip
          exact Keff.intro ⟨rfl, rfl, rfl, rfl, rfl, congrArg (fun b => some (Value.bool b)) (by unfold goes; first | (rw [decide_eq_true (show b.length = 0 by omega)]; rfl) | (rw [decide_eq_false (show ¬ b.length = 0 by omega), Bool.false_or, eb])), trivial⟩ (by simp) (by repeat (first | exact List.Sublist.refl _ | refine List.Sublist.cons _ ?_ | refine List.Sublist.cons_cons _ ?_))
        · refine WL.val (OpVal.opv rfl) rfl rfl rfl ?_
          refine WL.val (OpVal.opv rfl) rfl rfl rfl ?_
          refine WL.val (OpVal.len rfl (by assumption)) rfl rfl rfl ?_
          refine WL.val (OpVal.sub rfl rfl (by omega) (by omega)) rfl rfl rfl ?_
          refine WL.val (OpVal.indexAddr rfl rfl hb (by omega) (by omega)) rfl rfl rfl ?_
          refine WL.val (OpVal.loadE rfl hb (by repeat (first | exact .head _ | refine .tail _ ?_)) (by omega) (by omega)) rfl rfl rfl ?_
          refine WL.val (OpVal.opv rfl) rfl rfl rfl ?_
          refine WL.val (OpVal.opv rfl) rfl rfl rfl ?_
          refine WL.val (OpVal.opv rfl) rfl rfl rfl ?_
          refine WL.nil ?_
          skip
          exact Keff.intro ⟨rfl, rfl, rfl, rfl, rfl, congrArg (fun b => some (Value.bool b)) (by unfold goes; first | (rw [decide_eq_true (show b.length = 0 by omega)]; rfl) | (rw [decide_eq_false (show ¬ b.length = 0 by omega), Bool.false_or, eb])), trivial⟩ (by simp) (by repeat (first | exact List.Sublist.refl _ | refine List.Sublist.cons _ ?_ | refine List.Sublist.cons_cons _ ?_))
      refine Kseq.go ?_
      refine W.cond rfl rfl (fun hgo => ?_) (fun hgo => ?_)
      · let l0 : List (Nat × Value) := [(1, .slice ba b.length bc), (2, vi most), (3, .pointer (some ⟨b3, 0, none⟩)), (7, a), (8, .int .i64 (k : Int))]
        skip
        refine W.weaken l0 [h, m1, m0] [vr 33 a vs] (by repeat (first | exact trivial | refine ⟨rfl, ?_⟩)) (by simp) (by repeat (first | exact List.Sublist.refl _ | refine List.Sublist.cons _ ?_ | refine List.Sublist.cons_cons _ ?_)) ?_
        skip
        refine W.drawX (γ := Ph3 Nat (Option Addr × Nat) {z : (Option Addr × Nat) × Mem // IsInts z.2 (.slice z.1.1 (b.length + 1) z.1.2) (b ++ [(k : Int)])}) .a 10 [2, 4, 7] (Ph3.sel l0 (fun q => (39, .slice (some ⟨q, 0, none⟩) 0 0) :: l0) (fun q g => (41, .slice g.1 (0 + b.length) g.2) :: (39, .slice (some ⟨q, 0, none⟩) 0 0) :: l0) (fun q g z => (44, .slice z.1.1.1 (b.length + 1) z.1.1.2) :: (41, .slice g.1 (0 + b.length) g.2) :: (39, .slice (some ⟨q, 0, none⟩) 0 0) :: l0)) (Ph3.sel [h, m1, m0] (fun _ => [h, m1, m0]) (fun _ _ => [h, m1, m0]) (fun _ _ z => [z.1.2, h, m1, m0])) (Ph3.sel [vr 33 a vs] (fun q => [ir 3 (.slice (some ⟨q, 0, none⟩) 0 0) [], vr 33 a vs]) (fun q g => [ir 3 (.slice g.1 (0 + b.length) g.2) b, vr 33 a vs]) (fun q g z => [vr 33 a vs])) Ph3.num (by kernel_rfl) (by kernel_rfl) (by kernel_rfl) rfl Ph3.le (Ph3.all rfl (fun _ => rfl) (fun _ _ => rfl) (fun _ _ _ => rfl)) rfl rfl rfl ?_
        refine DJX.val [] (Ph3.all (fun hg => OpVal.opv rfl) (fun x1 hg => OpVal.opv rfl) (fun x1 x2 hg => OpVal.opv rfl) (fun x1 x2 x3 hg => OpVal.opv rfl)) (Ph3.all (fun hg => rfl) (fun x1 hg => rfl) (fun x1 x2 hg => rfl) (fun x1 x2 x3 hg => rfl)) rfl rfl (Ph3.all rfl (fun _ => rfl) (fun _ _ => rfl) (fun _ _ _ => rfl)) rfl ?_
        refine DJX.val [] (Ph3.all (fun hg => (by first | exact OpVal.loadBW rfl (.head _) rfl | exact OpVal.loadBW rfl (.tail _ (.head _)) rfl | exact OpVal.loadBW rfl (.tail _ (.tail _ (.head _))) rfl | exact OpVal.loadBW rfl (.tail _ (.tail _ (.tail _ (.head _)))) rfl | exact OpVal.loadBW rfl (.tail _ (.tail _ (.tail _ (.tail _ (.head _))))) rfl | exact OpVal.loadBW rfl (.tail _ (.tail _ (.tail _ (.tail _ (.tail _ (.head _)))))) rfl | exact OpVal.loadPW rfl (by assumption) (by repeat (first | exact .head _ | refine .tail _ ?_)) (by rfl))) (fun x1 hg => (by first | exact OpVal.loadBW rfl (.head _) rfl | exact OpVal.loadBW rfl (.tail _ (.head _)) rfl | exact OpVal.loadBW rfl (.tail _ (.tail _ (.head _))) rfl | exact OpVal.loadBW rfl (.tail _ (.tail _ (.tail _ (.head _)))) rfl | exact OpVal.loadBW rfl (.tail _ (.tail _ (.tail _ (.tail _ (.head _))))) rfl | exact OpVal.loadBW rfl (.tail _ (.tail _ (.tail _ (.tail _ (.tail _ (.head _)))))) rfl | exact OpVal.loadPW rfl (by assumption) (by repeat (first | exact .head _ | refine .tail _ ?_)) (by rfl))) (fun x1 x2 hg => (by first | exact OpVal.loadBW rfl (.head _) rfl | exact OpVal.loadBW rfl (.tail _ (.head _)) rfl | exact OpVal.loadBW rfl (.tail _ (.tail _ (.head _))) rfl | exact OpVal.loadBW rfl (.tail _ (.tail _ (.tail _ (.head _)))) rfl | exact OpVal.loadBW rfl (.tail _ (.tail _ (.tail _ (.tail _ (.head _))))) rfl | exact OpVal.loadBW rfl (.tail _ (.tail _ (.tail _ (.tail _ (.tail _ (.head _)))))) rfl | exact OpVal.loadPW rfl (by assumption) (by repeat (first | exact .head _ | refine .tail _ ?_)) (by rfl))) (fun x1 x2 x3 hg => (by first | exact OpVal.loadBW rfl (.head _) rfl | exact OpVal.loadBW rfl (.tail _ (.head _)) rfl | exact OpVal.loadBW rfl (.tail _ (.tail _ (.head _))) rfl | exact OpVal.loadBW rfl (.tail _ (.tail _ (.tail _ (.head _)))) rfl | exact OpVal.loadBW rfl (.tail _ (.tail _ (.tail _ (.tail _ (.head _))))) rfl | exact OpVal.loadBW rfl (.tail _ (.tail _ (.tail _ (.tail _ (.tail _ (.head _)))))) rfl | exact OpVal.loadPW rfl (by assumption) (by repeat (first | exact .head _ | refine .tail _ ?_)) (by rfl)))) (Ph3.all (fun hg => rfl) (fun x1 hg => rfl) (fun x1 x2 hg => rfl) (fun x1 x2 x3 hg => rfl)) rfl rfl (Ph3.all rfl (fun _ => rfl) (fun _ _ => rfl) (fun _ _ _ => rfl)) rfl ?_
        refine DJX.eff 0 [] trivial rfl rfl [] trivial (Ph3.all (fun hg => ⟨rfl, fun M2 hM2 => ?_⟩) (fun x1 hg => absurd hg (by simp [Ph3.num])) (fun x1 x2 hg => absurd hg (by simp [Ph3.num])) (fun x1 x2 x3 hg => absurd hg (by simp [Ph3.num]))) ?_
        · (refine WL.lit (vs := []) [] rfl (Nat.le_of_ble_eq_true rfl) rfl rfl (by simp) (Nat.le_of_ble_eq_true rfl) rfl rfl rfl rfl (fun b39 => ?_); exact WL.nil ⟨.b b39, rfl, Keff.intro (by repeat (first | exact trivial | refine ⟨rfl, ?_⟩)) (fun x hx => (List.mem_append.1 hx).elim (fun h => h) (fun h => hM2 x h)) (.refl _)⟩)
        refine DJX.val [] (Ph3.all (fun hg => OpVal.opv rfl) (fun x1 hg => OpVal.opv rfl) (fun x1 x2 hg => Bool.noConfusion (show false = true from hg)) (fun x1 x2 x3 hg => Bool.noConfusion (show false = true from hg))) (Ph3.all (fun hg => rfl) (fun x1 hg => rfl) (fun x1 x2 hg => Bool.noConfusion (show false = true from hg)) (fun x1 x2 x3 hg => Bool.noConfusion (show false = true from hg))) rfl rfl (Ph3.all rfl (fun _ => rfl) (fun _ _ => rfl) (fun _ _ _ => rfl)) rfl ?_
        refine DJX.eff 1 [(40, _)] ⟨rfl, trivial⟩ rfl rfl [] trivial (Ph3.all (fun hg => absurd hg (by simp [Ph3.num])) (fun x1 hg => ⟨rfl, fun M2 hM2 => ?_⟩) (fun x1 x2 hg => absurd hg (by simp [Ph3.num])) (fun x1 x2 x3 hg => absurd hg (by simp [Ph3.num]))) ?_
        · (refine WL.appInts (xs := []) rfl (fun _ => .head _) rfl hb (hM2 _ (.head _)) (by simp; omega) rfl rfl rfl ?_; intro a41 c41; exact WL.nil ⟨.c x1 (a41, c41), rfl, Keff.intro (by repeat (first | exact trivial | refine ⟨rfl, ?_⟩)) (fun x hx => (List.mem_append.1 hx).elim (fun h => h) (fun h => hM2 x h)) (.refl _)⟩)
        refine DJX.val [] (Ph3.all (fun hg => OpVal.opv rfl) (fun x1 hg => OpVal.opv rfl) (fun x1 x2 hg => OpVal.opv rfl) (fun x1 x2 x3 hg => OpVal.opv rfl)) (Ph3.all (fun hg => rfl) (fun x1 hg => rfl) (fun x1 x2 hg => rfl) (fun x1 x2 x3 hg => rfl)) rfl rfl (Ph3.all rfl (fun _ => rfl) (fun _ _ => rfl) (fun _ _ _ => rfl)) rfl ?_
        refine DJX.abs (A := fun m r0 => IsCells m 1 r0 1 [vi k]) [] (Ph3.all (fun hg => (OpAbs.litI rfl)) (fun x1 hg => (OpAbs.litI rfl)) (fun x1 x2 hg => (OpAbs.litI rfl)) (fun x1 x2 x3 hg => Bool.noConfusion (show false = true from hg))) (Ph3.all (fun hg => rfl) (fun x1 hg => rfl) (fun x1 x2 hg => rfl) (fun x1 x2 x3 hg => Bool.noConfusion (show false = true from hg))) rfl rfl (Ph3.all rfl (fun _ => rfl) (fun _ _ => rfl) (fun _ _ _ => rfl)) rfl ?_
        refine DJX.eff 2 [] trivial rfl rfl [(43, fun m r0 => IsCells m 1 r0 1 [vi k])] ⟨(by repeat (first | exact .head _ | refine .tail _ ?_)), rfl, trivial⟩ (Ph3.all (fun hg => absurd hg (by simp [Ph3.num])) (fun x1 hg => absurd hg (by simp [Ph3.num])) (fun x1 x2 hg => ⟨rfl, fun M2 hM2 => ?_⟩) (fun x1 x2 x3 hg => absurd hg (by simp [Ph3.num]))) ?_
        · intro m43 v43 h43
          (refine WL.appInt (k := (k : Int)) rfl (fun _ => .head _) rfl h43 (.head _) (by omega) rfl rfl rfl ?_; intro a44 c44; refine WL.freezeInts (.head _) (fun b hb => (hF b hb).elim) fun mo hmo => ?_; exact WL.nil ⟨.d x1 x2 ⟨((a44, c44), mo), hmo⟩, rfl, Keff.intro (by repeat (first | exact trivial | refine ⟨rfl, ?_⟩)) (fun x hx => (List.mem_append.1 hx).elim (fun h => .tail _ (.tail _ h)) (fun h => by rcases List.mem_cons.1 h with rfl | h2; exact .head _; exact .tail _ (.tail _ (hM2 x h2)))) (.refl _)⟩)
        refine DJX.val [] (Ph3.all (fun hg => OpVal.opv rfl) (fun x1 hg => OpVal.opv rfl) (fun x1 x2 hg => OpVal.opv rfl) (fun x1 x2 x3 hg => OpVal.opv rfl)) (Ph3.all (fun hg => rfl) (fun x1 hg => rfl) (fun x1 x2 hg => rfl) (fun x1 x2 x3 hg => rfl)) rfl rfl (Ph3.all rfl (fun _ => rfl) (fun _ _ => rfl) (fun _ _ _ => rfl)) rfl ?_
        refine DJX.abs (A := fun m q => IsLists m q (walksFrom r.n d (b ++ [(k : Int)]))) [] (Ph3.all (fun hg => Bool.noConfusion (show false = true from hg)) (fun x1 hg => Bool.noConfusion (show false = true from hg)) (fun x1 x2 hg => Bool.noConfusion (show false = true from hg)) (fun x1 x2 x3 hg => (OpAbs.call rfl (fun m hm => ih (b := b ++ [(k : Int)]) (by simp; omega) (by simp; omega) (hv'.le (by repeat (first | exact hm.1 | replace hm := hm.2))) (x3.2.le (by repeat (first | exact hm.1 | replace hm := hm.2))))))) (Ph3.all (fun hg => Bool.noConfusion (show false = true from hg)) (fun x1 hg => Bool.noConfusion (show false = true from hg)) (fun x1 x2 hg => Bool.noConfusion (show false = true from hg)) (fun x1 x2 x3 hg => rfl)) rfl rfl (Ph3.all rfl (fun _ => rfl) (fun _ _ => rfl) (fun _ _ _ => rfl)) rfl ?_
        refine DJX.nil (Ph3.all (fun hg => absurd hg (by simp [Ph3.num])) (fun x1 hg => absurd hg (by simp [Ph3.num])) (fun x1 x2 hg => absurd hg (by simp [Ph3.num])) (fun x1 x2 x3 hg => ?_))
        rintro m46 v46 h46
        rintro m43 v43 h43
        (obtain ⟨vs2, hvs2, hA2⟩ := h46; have hA2 := hvs2.1 ▸ hA2; refine WL.append rfl (fun v' => .head _) rfl (vals_cells hA2) (by repeat (first | exact .head _ | refine .tail _ ?_)) rfl (Nat.le_of_ble_eq_true rfl) (by have := hfl (b ++ [(k : Int)]); have := hvs2.1; unfold maxLen; omega) (by have := hfl (b ++ [(k : Int)]); have := hvs2.1; omega) rfl rfl rfl ?_; intro a47 c47)
        refine WL.val (OpVal.opv rfl) rfl rfl rfl ?_
        refine WL.nil ?_
        refine Kblock.normal (Kseq.go ?_)
        refine W.join fun mj hj => ?_
        skip
        refine W.region ?_
        refine WL.val (OpVal.opv rfl) rfl rfl rfl ?_
        refine WL.val (OpVal.incr rfl (by omega)) rfl rfl rfl ?_
        refine WL.val (OpVal.opv rfl) rfl rfl rfl ?_
        refine WL.nil ?_
        skip
        refine Kloop.next (k + 1, .slice a47 (vs.length + vs2.length) c47, mj, vs ++ vs2) ⟨by omega, by dsimp only; rw [walksUpto_succ, if_pos hgo]; exact AllInts.append (hall.le (hj _ (by simp))) (hvs2.le (hj _ (by simp)))⟩ (by omega) ⟨rfl, rfl, rfl, rfl, rfl, trivial⟩ (by simp) ?_
        dsimp only [vr]
        rw [List.length_append]
        exact (by repeat (first | exact List.Sublist.refl _ | refine List.Sublist.cons _ ?_ | refine List.Sublist.cons_cons _ ?_))
      · refine W.skip (Kblock.normal (Kseq.go ?_))
        skip
        refine W.region ?_
        refine WL.val (OpVal.opv rfl) rfl rfl rfl ?_
        refine WL.val (OpVal.incr rfl (by omega)) rfl rfl rfl ?_
        refine WL.val (OpVal.opv rfl) rfl rfl rfl ?_
        refine WL.nil ?_
        skip
        exact Kloop.next (k + 1, a, m0, vs) ⟨by omega, by dsimp only; rw [walksUpto_succ, if_neg (by simp [hgo]), List.append_nil]; exact hall⟩ (by omega) ⟨rfl, rfl, rfl, rfl, rfl, trivial⟩ (by simp) (by repeat (first | exact List.Sublist.refl _ | refine List.Sublist.cons _ ?_ | refine List.Sublist.cons_cons _ ?_))
    · refine W.exit (Kseq.exit (Kloop.exit (Kblock.here (Kseq.go (W.seq ?_)))))
      have : k = r.n := by omega
      subst this
      refine W.freezeV (.head _) (fun b hb => (hF b hb).elim) hall.one fun mr hmr => ?_
      refine W.join fun mj hj => ?_
      skip
      refine W.region ?_
      refine WL.val (OpVal.opv rfl) rfl rfl rfl ?_
      refine WL.val (OpVal.opv rfl) rfl rfl rfl ?_
      refine WL.nil ?_
      refine Kseq.go ?_
      refine W.ret ?_; skip; refine ⟨.inl rfl, [_], mj, ⟨.tmp rfl, trivial⟩, (by repeat (first | exact .head _ | refine .tail _ ?_)), ?_⟩
      rw [← walksUpto_all]
      exact ⟨vs, hall.le (hj _ (by simp)), hvl ▸ hmr.le (hj _ (by simp))⟩
end Go.Proofs.YtdjkokpbeaapoaaGreat
