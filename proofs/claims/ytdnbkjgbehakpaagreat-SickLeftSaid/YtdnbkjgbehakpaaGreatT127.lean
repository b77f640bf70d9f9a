/- The program's functions of chapter 6: Play, ProveTruth, First. -/
import Derived.Test.YtdnbkjgbehakpaaGreatT126
namespace Go.Proofs.YtdnbkjgbehakpaaGreat
open Go Go.Eng Go.RowKit

theorem noC_size : (sceneC noC).size = 13 := rfl
theorem sel_bits {r : House} (hV : ValidH r) {q : Course} (hq : FitC r q) : sel 10 (fun i => (lastN r q []).testBit i) = bits (lastN r q []) := by
  unfold bits
  symm
  refine sel_stop (by omega) fun i h1 _ => ?_
  have h2 := lastN_lt hV hq.owners []
  exact Nat.testBit_lt_two_pow (Nat.lt_of_lt_of_le h2 (Nat.pow_le_pow_right (by omega) (by have := hV.th.2.2; omega)))
def play6E (r : House) (q : Course) : Int := if fault6 r ≠ 0 then fault6 r else if courseB r q = false then 2 else 0
/-- Play -/
theorem play6_any {h : Mem} {v cv : Value} {r : House} {q : Course} (hv : IsHouse h v r) (hs : SmH r) (hq : IsCourseV h cv q) :
    FnR Tryz.prog 43 #[v, cv] h (fun m x => ∃ lv, x = .tuple #[lv, vi (play6E r q)] ∧ IsInts m lv (if play6E r q = 0 then bits (lastN r q []) else [])) := by
  have hv' := hv
  have hq' := hq
  obtain ⟨wv, pv, kv, tv, bv, sv, f, rfl, hA⟩ := hv
  obtain ⟨ov, hv2, rfl, hO, hH⟩ := hq
  refine FnR.of_W (n := 41) Tryz.func43 rfl rfl (Nat.le_of_ble_eq_true rfl) fun c hr hD hF => ?_
  refine W.seq ?_
  refine W.region ?_
  refine WL.box rfl rfl rfl rfl (fun b2 => ?_)
  refine WL.box rfl rfl rfl rfl (fun b3 => ?_)
  refine WL.val (OpVal.opv rfl) rfl rfl rfl ?_
  refine WL.val (OpVal.opv rfl) rfl rfl rfl ?_
  refine WL.nil ?_
  refine Kseq.go (W.seq (W.seq ?_))
  skip
  refine W.region ?_
  refine WL.val (OpVal.loadBW rfl (.tail _ (.head _)) rfl) rfl rfl rfl ?_
  refine WL.val (OpVal.call rfl (fun m hm => checkHouse_any (hv'.le (by repeat (first | exact hm.1 | replace hm := hm.2))) hs)) rfl rfl rfl ?_
  refine WL.val (OpVal.opv rfl) rfl rfl rfl ?_
  refine WL.nil ?_
  refine Kseq.go (W.seq ?_)
  skip
  refine W.region ?_
  refine WL.val (OpVal.opv rfl) rfl rfl rfl ?_
  refine WL.val (OpVal.opv rfl) rfl rfl rfl ?_
  refine WL.nil ?_
  refine Kseq.go ?_
  refine W.cond rfl rfl (fun he => ?_) (fun hne => ?_)
  · have he' : fault6 r ≠ 0 := by simpa using he
    have e : play6E r q = fault6 r := by unfold play6E; rw [if_pos he']
    refine W.seq ?_
    refine W.region ?_
    refine WL.val (OpVal.opv rfl) rfl rfl rfl ?_
    refine WL.val (OpVal.opv rfl) rfl rfl rfl ?_
    refine WL.val (OpVal.opv rfl) rfl rfl rfl ?_
    refine WL.nil ?_
    refine Kseq.go ?_
    refine W.ret ?_; refine Kseq.ret ?_; refine ⟨.inl rfl, [_, _], h, ⟨.tmp rfl, .tmp rfl, trivial⟩, (by repeat (first | exact .head _ | refine .tail _ ?_)), ?_⟩
    exact ⟨_, by rw [e]; rfl, by rw [e, if_neg he']; exact IsArr.nil _ _ _⟩
  have hf0 : fault6 r = 0 := by simpa using hne
  have hV := fault6_zero.1 hf0
  have h7 : r.np ≤ 7 := hV.np7
  have h6 : r.tn ≤ 6 := hV.touchN
  obtain ⟨qq, hqq⟩ : ∃ qq, (if courseB r q = true then q else noC) = qq := ⟨_, rfl⟩
  have hsz : (sceneC qq).size = 13 := by
    rw [← hqq]
    split
    · rename_i hc
      have := courseB_fit hc
      exact sceneC_size (by rw [this.owners]; omega) (by rw [this.hours]; omega)
    · exact noC_size
  refine W.skip (Kseq.go (W.seq ?_))
  skip
  refine W.region ?_
  refine WL.val (OpVal.loadBW rfl (.tail _ (.head _)) rfl) rfl rfl rfl ?_
  refine WL.val (OpVal.loadBW rfl (.head _) rfl) rfl rfl rfl ?_
  refine WL.val (OpVal.cast (OpVal.call rfl (fun m hm => scene6_any (hv'.le (by repeat (first | exact hm.1 | replace hm := hm.2))) hV hs (hq'.le (by repeat (first | exact hm.1 | replace hm := hm.2))))) (show _ = Value.tuple #[sceneV qq, .bool (courseB r q)] by rw [← hqq])) rfl rfl rfl ?_
  refine WL.val (OpVal.opv rfl) rfl rfl rfl ?_
  refine WL.val (OpVal.opv rfl) rfl rfl rfl ?_
  refine WL.val (OpVal.opv rfl) rfl rfl rfl ?_
  refine WL.alloc rfl rfl rfl (fun b7 => ?_)
  (refine WL.storeAll rfl (.head _) rfl rfl hsz (by rfl) (sceneC_one _) ?_)
  refine WL.val (OpVal.opv rfl) rfl rfl rfl ?_
  refine WL.nil ?_
  refine Kseq.go (W.seq (W.seq ?_))
  skip
  refine W.region ?_
  refine WL.val (OpVal.opv rfl) rfl rfl rfl ?_
  refine WL.val (OpVal.opv rfl) rfl rfl rfl ?_
  refine WL.nil ?_
  refine Kseq.go ?_
  refine W.cond rfl rfl (fun hb => ?_) (fun hb => ?_)
  · have hno : courseB r q = false := by simpa using hb
    have e : play6E r q = 2 := by unfold play6E; rw [if_neg (by simpa using hf0), if_pos hno]
    refine W.seq ?_
    refine W.region ?_
    refine WL.val (OpVal.opv rfl) rfl rfl rfl ?_
    refine WL.val (OpVal.opv rfl) rfl rfl rfl ?_
    refine WL.nil ?_
    refine Kseq.go ?_
    refine W.ret ?_; refine Kseq.ret ?_; refine ⟨.inl rfl, [_, _], h, ⟨.tmp rfl, .tmp rfl, trivial⟩, (by repeat (first | exact .head _ | refine .tail _ ?_)), ?_⟩
    exact ⟨_, by rw [e]; rfl, by rw [e]; exact IsArr.nil _ _ _⟩
  have hyes : courseB r q = true := by simpa using hb
  have e : play6E r q = 0 := by unfold play6E; rw [if_neg (by simpa using hf0), if_neg (by simp [hyes])]
  rw [if_pos hyes] at hqq
  subst hqq
  have hfit := courseB_fit hyes
  refine W.skip (Kseq.go (W.seq ?_))
  skip
  refine W.region ?_
  refine WL.val (OpVal.opv rfl) rfl rfl rfl ?_
  refine WL.nil ?_
  refine Kseq.go (W.seq (W.seq ?_))
  skip
  refine W.draw 6 (by kernel_rfl) (by kernel_rfl) (by kernel_rfl) rfl ?_
  refine DJ.val [] (OpVal.loadBW rfl (.tail _ (.tail _ (.head _))) rfl) rfl rfl rfl rfl ?_
  refine DJ.val [] (OpVal.loadBW rfl (.head _) hsz) rfl rfl rfl rfl ?_
  refine DJ.val [] (OpVal.loadBW rfl (.tail _ (.tail _ (.head _))) rfl) rfl rfl rfl rfl ?_
  refine DJ.abs (A := fun m x => ∃ bm, x = .map (some bm) ∧ IsBm m bm (r.boiled ++ [])) [] (OpAbs.call rfl (fun m hm => boilings_any (hv'.le (by repeat (first | exact hm.1 | replace hm := hm.2))) (IsBoils.nil m) hs (by simp))) rfl rfl rfl rfl ?_
  refine DJ.val [(28, fun m x => ∃ bm, x = .map (some bm) ∧ IsBm m bm (r.boiled ++ []))] (fun m28 v28 h28 => (by obtain ⟨bm, rfl, hbm⟩ := h28; exact OpVal.cast (OpVal.call rfl (fun m hm => play_any (hv'.le (by repeat (first | exact hm.1 | replace hm := hm.2))) hV hfit (hbm.le (by repeat (first | exact hm.1 | replace hm := hm.2))))) (show _ = carV (lastN r q []) from rfl))) rfl rfl rfl rfl ?_ (hG := ⟨(by repeat (first | exact .head _ | refine .tail _ ?_)), rfl, trivial⟩)
  refine DJ.val [] (OpVal.opv rfl) rfl rfl rfl rfl ?_
  refine DJ.nil ?_
  rintro m28 v28 h28
  refine WL.nil ?_
  refine Kseq.go (W.block ?_)
  obtain ⟨s, hsl⟩ : ∃ s, lastN r q [] = s := ⟨_, rfl⟩
  have hsb := sel_bits hV hfit
  rw [hsl] at hsb
  rw [hsl]
  refine W.nilRow 3 1 ?_
  refine W.loop (σ := Nat × Value) (fun x => [(9, x.2), (29, carV s), (30, .int .i64 (x.1 : Int))]) (fun _ => [h]) (fun x => [ir 3 x.2 (sel x.1 fun i => s.testBit i)])
    (fun x => x.1 ≤ 10) (fun x => 10 - x.1) (0, .slice none 0 0) ⟨rfl, rfl, rfl, trivial⟩ (by simp) (.cons_cons _ (List.nil_sublist _)) (Nat.zero_le _) ?_
  rintro ⟨k, a⟩ hk
  dsimp only at hk ⊢
  have hlen := sel_len k fun i => s.testBit i
  refine W.seq ?_
  refine W.region ?_
  refine WL.val (OpVal.opv rfl) rfl rfl rfl ?_
  refine WL.nil ?_
  refine Kseq.go (W.seq ?_)
  refine W.condD rfl rfl (fun hlt => ?_) (fun hge => ?_)
  · have hkl : k < 10 := by omega
    have hget := carC_get (s := s) hkl
    rw [Nat.zero_add] at hget
    refine W.skip (Kseq.go (W.seq (W.block (W.seq ?_))))
    refine W.region ?_
    refine WL.val (OpVal.opv rfl) rfl rfl rfl ?_
    refine WL.val (OpVal.indexA rfl rfl hkl hget) rfl rfl rfl ?_
    refine WL.val (OpVal.opv rfl) rfl rfl rfl ?_
    refine WL.val (OpVal.opv rfl) rfl rfl rfl ?_
    refine WL.nil ?_
    refine Kseq.go (W.seq ?_)
    skip
    refine W.region ?_
    refine WL.val (OpVal.opv rfl) rfl rfl rfl ?_
    refine WL.nil ?_
    refine Kseq.go ?_
    refine W.cond rfl rfl (fun hb => ?_) (fun hb => ?_)
    · skip
      refine W.region ?_
      refine WL.val (OpVal.opv rfl) rfl rfl rfl ?_
      refine WL.val (OpVal.opv rfl) rfl rfl rfl ?_
      refine WL.abs (OpAbs.lit [_] rfl (Nat.le_of_ble_eq_true rfl) rfl rfl (by simp [Value.cells]) (Nat.le_of_ble_eq_true rfl) rfl (by first | (simp [Value.oneCell']; done) | exact List.all_eq_true.1 rfl)) rfl rfl rfl ?_
      rintro m37 _ ⟨hc37, a37, rfl⟩
      refine WL.appInt rfl (fun _ => (.head _)) rfl (by assumption) (by repeat (first | exact .head _ | refine .tail _ ?_)) (by omega) rfl rfl rfl ?_
      intro a38 cp38
      refine WL.val (OpVal.opv rfl) rfl rfl rfl ?_
      refine WL.nil ?_
      refine Kblock.normal (Kseq.go ?_)
      skip
      refine W.region ?_
      refine WL.val (OpVal.incr rfl (by omega)) rfl rfl rfl ?_
      refine WL.val (OpVal.opv rfl) rfl rfl rfl ?_
      refine WL.nil ?_
      skip
      refine Kloop.next (k + 1, .slice a38 ((sel k fun i => s.testBit i).length + 1) cp38) (by dsimp only; omega) (by dsimp only; omega) ⟨rfl, rfl, rfl, trivial⟩ (by simp) ?_
      dsimp only; rw [sel_yes (n := k) (p := fun i => s.testBit i) hb]; exact (by repeat (first | exact List.Sublist.refl _ | refine List.Sublist.cons _ ?_ | refine List.Sublist.cons_cons _ ?_))
    · refine W.skip (Kblock.normal (Kseq.go ?_))
      skip
      refine W.region ?_
      refine WL.val (OpVal.incr rfl (by omega)) rfl rfl rfl ?_
      refine WL.val (OpVal.opv rfl) rfl rfl rfl ?_
      refine WL.nil ?_
      skip
      refine Kloop.next (k + 1, a) (by dsimp only; omega) (by dsimp only; omega) ⟨rfl, rfl, rfl, trivial⟩ (by simp) ?_
      dsimp only; rw [sel_no (n := k) (p := fun i => s.testBit i) hb]; exact (by repeat (first | exact List.Sublist.refl _ | refine List.Sublist.cons _ ?_ | refine List.Sublist.cons_cons _ ?_))
  · have : k = 10 := by omega
    subst this
    refine W.exit (Kseq.exit (Kloop.exit (Kblock.here (Kseq.go (W.seq ?_)))))
    refine W.freezeInts (.head _) (fun b hb => (hF b hb).elim) fun mr hmr => ?_
    skip
    refine W.region ?_
    refine WL.val (OpVal.opv rfl) rfl rfl rfl ?_
    refine WL.val (OpVal.opv rfl) rfl rfl rfl ?_
    refine WL.val (OpVal.opv rfl) rfl rfl rfl ?_
    refine WL.nil ?_
    refine Kseq.go ?_
    refine W.ret ?_; skip; refine ⟨.inl rfl, [_, _], mr, ⟨.tmp rfl, .tmp rfl, trivial⟩, (by repeat (first | exact .head _ | refine .tail _ ?_)), ?_⟩
    exact ⟨_, by rw [e]; rfl, by rw [if_pos e, ← hsb]; exact hmr⟩
/-- First -/
theorem first6_any {h : Mem} {v : Value} {r : House} (hv : IsHouse h v r) (hs : SmH r) : FnV Tryz.prog 35 #[v] h (.tuple #[vi (first6V r).1, vi (first6V r).2]) := by
  have hv' := hv
  obtain ⟨wv, pv, kv, tv, bv, sv, f, rfl, hA⟩ := hv
  have hS := hA.S
  obtain ⟨sa, sc, rfl⟩ := IsArr.form hS
  refine FnR.val ?_
  refine FnR.of_W (n := 30) Tryz.func35 rfl rfl (Nat.le_of_ble_eq_true rfl) fun c hr hD hF => ?_
  refine W.seq ?_
  refine W.region ?_
  refine WL.box rfl rfl rfl rfl (fun b1 => ?_)
  refine WL.val (OpVal.opv rfl) rfl rfl rfl ?_
  refine WL.val (OpVal.opv rfl) rfl rfl rfl ?_
  refine WL.nil ?_
  refine Kseq.go (W.seq (W.seq ?_))
  skip
  refine W.region ?_
  refine WL.val (OpVal.loadBW rfl (.head _) rfl) rfl rfl rfl ?_
  refine WL.val (OpVal.call rfl (fun m hm => checkHouse_any (hv'.le (by repeat (first | exact hm.1 | replace hm := hm.2))) hs)) rfl rfl rfl ?_
  refine WL.val (OpVal.opv rfl) rfl rfl rfl ?_
  refine WL.nil ?_
  refine Kseq.go (W.seq ?_)
  skip
  refine W.region ?_
  refine WL.val (OpVal.opv rfl) rfl rfl rfl ?_
  refine WL.val (OpVal.opv rfl) rfl rfl rfl ?_
  refine WL.nil ?_
  refine Kseq.go ?_
  refine W.cond rfl rfl (fun he => ?_) (fun hne => ?_)
  · have he' : fault6 r ≠ 0 := by simpa using he
    refine W.seq ?_
    refine W.region ?_
    refine WL.val (OpVal.opv rfl) rfl rfl rfl ?_
    refine WL.val (OpVal.opv rfl) rfl rfl rfl ?_
    refine WL.val (OpVal.opv rfl) rfl rfl rfl ?_
    refine WL.nil ?_
    refine Kseq.go ?_
    refine W.ret ?_; refine Kseq.ret ?_; refine ⟨.inl rfl, [_, _], h, ⟨.tmp rfl, .tmp rfl, trivial⟩, (by repeat (first | exact .head _ | refine .tail _ ?_)), ?_⟩
    unfold first6V
    rw [if_pos he']; rfl
  have hf0 : fault6 r = 0 := by simpa using hne
  have hV := fault6_zero.1 hf0
  have h5 := hV.signN
  obtain ⟨M, hM⟩ : ∃ M, first6N r = M := ⟨_, rfl⟩
  have hres : first6V r = if M < r.signs.length then ((M : Int), 0) else (0, 7) := by unfold first6V; rw [if_neg (by simpa using hf0), hM]
  have hMle : M ≤ r.signs.length := by rw [← hM]; exact fstNo_le _ _
  refine W.skip (Kseq.go (W.seq ?_))
  skip
  refine W.region ?_
  refine WL.val (OpVal.loadBW rfl (.head _) rfl) rfl rfl rfl ?_
  refine WL.alloc rfl rfl rfl (fun b5 => ?_)
  (refine WL.store [wv, pv, vi r.table.wrong, kv, vi r.others, vi r.last, tv, bv, .slice sa r.signs.length sc] rfl (.head _) rfl rfl rfl (Nat.le_of_ble_eq_true rfl) (by simp [Value.cells]; exact ⟨IsArr.one hA.W, IsArr.one hA.P, rfl, IsArr.one hA.K, rfl, rfl, IsArr.one hA.T, IsArr.one hA.B, rfl⟩) rfl ?_)
  refine WL.nil ?_
  refine Kseq.go (W.seq (W.seq ?_))
  skip
  refine W.region ?_
  refine WL.val (OpVal.fieldAddrB rfl) rfl rfl rfl ?_
  refine WL.val (OpVal.loadB rfl (.tail _ (.head _)) rfl) rfl rfl rfl ?_
  refine WL.val (OpVal.len rfl hS) rfl rfl rfl ?_
  refine WL.val (OpVal.opv rfl) rfl rfl rfl ?_
  refine WL.nil ?_
  refine Kseq.go (W.block ?_)
  refine W.loop (σ := Nat × Value) (fun s => [(1, .pointer (some ⟨b1, 0, none⟩)), (5, .pointer (some ⟨b5, 0, none⟩)), (15, .int .i64 (r.signs.length : Int)), (16, .int .i64 (s.1 : Int))]) (fun _ => [h]) (fun s => [.blk b5 (hcs wv pv kv tv bv s.2 r) 46, .blk b1 (hcs wv pv kv tv bv (.slice sa r.signs.length sc) r) 46])
    (fun s => s.1 ≤ r.signs.length ∧ ∀ j, j < s.1 → firstQ6 r j = true) (fun s => r.signs.length - s.1) (0, .slice sa r.signs.length sc) ⟨rfl, rfl, rfl, rfl, trivial⟩ (by simp) (.refl _) ⟨Nat.zero_le _, fun j hj => absurd hj (Nat.not_lt_zero _)⟩ ?_
  rintro ⟨k, x⟩ ⟨hk, hall⟩
  dsimp only at hk hall ⊢
  refine W.seq ?_
  refine W.region ?_
  refine WL.val (OpVal.opv rfl) rfl rfl rfl ?_
  refine WL.nil ?_
  refine Kseq.go (W.seq ?_)
  refine W.condD rfl rfl (fun hlt => ?_) (fun hge => ?_)
  · have hkl : k < r.signs.length := by omega
    have hsub := IsArr.sub hS (lo := 0) (hi := k + 1) (Nat.zero_le _) hkl
    have hS' : IsSigns h (subV 2 0 (k + 1) (.slice sa r.signs.length sc)) (r.signs.take (k + 1)) := by
      have e : (r.signs.take (k + 1)).length = k + 1 - 0 := by rw [List.length_take]; omega
      unfold IsSigns
      rw [e]
      refine hsub.congr fun i j hi hj => ?_
      rw [signs_take (show i < k + 1 by omega), Nat.zero_add]
    have hV' : ValidH (withSigns r (r.signs.take (k + 1))) := withSigns_valid hV (by rw [List.length_take]; omega) (fun i hi => by
      rw [List.length_take] at hi
      rw [signs_take (show i < k + 1 by omega)]
      exact hV.sign i (by omega))
    have hs' : SmH (withSigns r (r.signs.take (k + 1))) := ⟨hs.table, hs.sick, hs.touches, hs.boiled, by show (r.signs.take (k + 1)).length ≤ 20; rw [List.length_take]; omega⟩
    have hH' : IsHouse h (.agg (hcs wv pv kv tv bv (subV 2 0 (k + 1) (.slice sa r.signs.length sc)) r)) (withSigns r (r.signs.take (k + 1))) := ⟨wv, pv, kv, tv, bv, _, f, rfl, ⟨hA.W, hA.P, hA.M, hA.K, hA.T, hA.B, hS'⟩⟩
    refine W.skip (Kseq.go (W.seq (W.block (W.seq ?_))))
    refine W.region ?_
    refine WL.val (OpVal.opv rfl) rfl rfl rfl ?_
    refine WL.val (OpVal.opv rfl) rfl rfl rfl ?_
    refine WL.nil ?_
    refine Kseq.go (W.seq ?_)
    skip
    refine W.region ?_
    refine WL.val (OpVal.fieldAddrB rfl) rfl rfl rfl ?_
    refine WL.val (OpVal.loadB rfl (.tail _ (.head _)) rfl) rfl rfl rfl ?_
    refine WL.val (OpVal.opv rfl) rfl rfl rfl ?_
    refine WL.val (OpVal.cast (OpVal.add rfl rfl (by omega) (by omega)) (show _ = vi ((k + 1 : Nat) : Int) from rfl)) rfl rfl rfl ?_
    refine WL.val (OpVal.sliceH rfl rfl hS (by omega)) rfl rfl rfl ?_
    refine WL.val (OpVal.fieldAddrB rfl) rfl rfl rfl ?_
    (refine WL.store [wv, pv, vi r.table.wrong, kv, vi r.others, vi r.last, tv, bv, subV 2 0 (k + 1) (.slice sa r.signs.length sc)] rfl (.head _) rfl rfl rfl (Nat.le_of_ble_eq_true rfl) (by simp [subV, Value.cells, Value.oneCell']) rfl ?_)
    refine WL.nil ?_
    refine Kseq.go (W.seq ?_)
    skip
    refine W.region ?_
    refine WL.val (OpVal.loadBW rfl (.head _) rfl) rfl rfl rfl ?_
    refine WL.val (OpVal.cast (OpVal.call rfl (fun m hm => possible6_any (hH'.le (by repeat (first | exact hm.1 | replace hm := hm.2))) hV' hs' (show IsInts m (.slice none 0 0) [] from IsArr.nil _ _ _))) (show _ = Value.bool (firstQ6 r k) from rfl)) rfl rfl rfl ?_
    refine WL.val (OpVal.opv rfl) rfl rfl rfl ?_
    refine WL.nil ?_
    refine Kseq.go ?_
    refine W.cond rfl rfl (fun hb => ?_) (fun hb => ?_)
    · have hno : firstQ6 r k = false := by simpa using hb
      have hMk : M = k := by rw [← hM]; exact fstNo_at hkl hall hno
      refine W.seq ?_
      refine W.region ?_
      refine WL.val (OpVal.opv rfl) rfl rfl rfl ?_
      refine WL.val (OpVal.opv rfl) rfl rfl rfl ?_
      refine WL.val (OpVal.opv rfl) rfl rfl rfl ?_
      refine WL.nil ?_
      refine Kseq.go ?_
      refine W.ret ?_; refine Kblock.ret (Kseq.ret (Kloop.ret (Kblock.ret (Kseq.ret ?_)))); refine ⟨.inl rfl, [_, _], h, ⟨.tmp rfl, .tmp rfl, trivial⟩, (by repeat (first | exact .head _ | refine .tail _ ?_)), ?_⟩
      rw [hres, hMk, if_pos hkl]; rfl
    · have hyes : firstQ6 r k = true := by simpa using hb
      refine W.skip (Kblock.normal (Kseq.go ?_))
      skip
      refine W.region ?_
      refine WL.val (OpVal.incr rfl (by omega)) rfl rfl rfl ?_
      refine WL.val (OpVal.opv rfl) rfl rfl rfl ?_
      refine WL.nil ?_
      skip
      refine Kloop.next (k + 1, _) ⟨by omega, fun j hj => ?_⟩ (by omega) ⟨rfl, rfl, rfl, rfl, trivial⟩ (by simp) (by repeat (first | exact List.Sublist.refl _ | refine List.Sublist.cons _ ?_ | refine List.Sublist.cons_cons _ ?_))
      rcases Nat.lt_succ_iff_lt_or_eq.1 hj with h2 | rfl
      · exact hall j h2
      · exact hyes
  · have hkk : k = r.signs.length := by omega
    subst hkk
    have hMk : M = r.signs.length := by rw [← hM]; exact fstNo_all hall
    refine W.exit (Kseq.exit (Kloop.exit (Kblock.here (Kseq.go (W.seq ?_)))))
    skip
    refine W.region ?_
    refine WL.val (OpVal.opv rfl) rfl rfl rfl ?_
    refine WL.val (OpVal.opv rfl) rfl rfl rfl ?_
    refine WL.nil ?_
    refine Kseq.go ?_
    refine W.ret ?_; skip; refine ⟨.inl rfl, [_, _], h, ⟨.tmp rfl, .tmp rfl, trivial⟩, (by repeat (first | exact .head _ | refine .tail _ ?_)), ?_⟩
    rw [hres, hMk, if_neg (by omega)]; rfl
end Go.Proofs.YtdnbkjgbehakpaaGreat
