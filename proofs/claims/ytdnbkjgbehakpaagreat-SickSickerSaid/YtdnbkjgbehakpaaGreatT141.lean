/- The statement SickSicker: its contract. -/
import Derived.Test.YtdnbkjgbehakpaaGreatP37
import Derived.Test.YtdnbkjgbehakpaaGreatE19
import Derived.Test.YtdnbkjgbehakpaaGreatT134
namespace Go.Proofs.YtdnbkjgbehakpaaGreat
open Go Go.Eng Go.RowKit

theorem withSick_sm {r : House} (hs : SmH r) {l : List Int} (hl : l.length ≤ 20) : SmH (withSick r l) := ⟨hs.table, hl, hs.touches, hs.boiled, Nat.zero_le _⟩
theorem ask6E_sick {r : House} (hV : ValidH r) {l : List Int} (hl : risingB l r.table.women.length = true) : ask6E (withSick r l) true = 0 := by
  rw [ask6E_with (withSick_valid hV hl), ask_noSigns, if_neg (scenes_some hV)]
/-- SickSicker -/
theorem sickSicker_any {h : Mem} {v : Value} {r : House} {n : Nat} (hv : IsHouse h v r) (hn : n < 256) : FnV Tryz.prog 9 #[v, .int .u8 n] h (.bool true) := by
  have hv' := hv
  obtain ⟨wv, pv, kv, tv, bv, sv, f, rfl, hA⟩ := hv
  have hW := hA.W
  have hK := hA.K
  refine FnR.val ?_
  refine FnR.of_W (n := 133) Tryz.func9 rfl rfl (Nat.le_of_ble_eq_true rfl) fun c hr hD hF => ?_
  refine W.seq ?_; refine W.region ?_
  refine WL.box rfl rfl rfl rfl (fun b2 => ?_)
  refine .o rfl rfl rfl rfl ?_; refine WL.nil ?_
  refine Kseq.go (W.seq (W.seq ?_))
  refine W.freezeBox (.head _) (fun b hb => (hF b hb).elim) fun m1 h1 => ?_
  cases hR : ready6 r with
  | false =>
    refine W.region ?_; refine .val (.loadPW rfl (by assumption) (by repeat constructor) (by rfl)) rfl rfl rfl ?_; refine .val (.cast (.call rfl (fun m hm => ready6_any (hv'.le (by repeat (first | exact hm.1 | replace hm := hm.2))))) (congrArg Value.bool hR)) rfl rfl rfl ?_
    iterate 2 refine .o rfl rfl rfl rfl ?_
    refine WL.pass rfl rfl rfl ?_; refine WL.pass rfl rfl rfl ?_; refine WL.pass rfl rfl rfl ?_; refine WL.pass rfl rfl rfl ?_; refine WL.pass rfl rfl rfl ?_; refine .o rfl rfl rfl rfl ?_; refine WL.nil ?_; refine Kseq.go ?_; refine W.condT rfl rfl ?_; refine W.seq ?_; refine W.region ?_; refine .val (.call rfl (fun m hm => awake6_any)) rfl rfl rfl ?_; refine .o rfl rfl rfl rfl ?_; refine WL.nil ?_; refine Kseq.go ?_
    refine W.ret ?_; refine Kseq.ret ?_; refine ⟨.inl rfl, [_], h, ⟨.tmp rfl, trivial⟩, (by repeat constructor), ?_⟩
    rfl
  | true =>
  obtain ⟨hVa, hs, hf0, hTh⟩ := ready6_iff hR
  have hsw := hs.table.1
  by_cases hw0 : r.table.women.length = 0
  · skip
    refine W.region ?_; refine .val (.loadPW rfl (by assumption) (by repeat constructor) (by rfl)) rfl rfl rfl ?_; refine .val (.cast (.call rfl (fun m hm => ready6_any (hv'.le (by repeat (first | exact hm.1 | replace hm := hm.2))))) (congrArg Value.bool hR)) rfl rfl rfl ?_
    iterate 2 refine .o rfl rfl rfl rfl ?_
    refine .val (.fieldAddrB rfl) rfl rfl rfl ?_; refine .val (.fieldAddrB rfl) rfl rfl rfl ?_; refine .val (.loadP rfl (by assumption) (by repeat constructor) rfl) rfl rfl rfl ?_; refine .val (.len rfl hW) rfl rfl rfl ?_; refine .val (.cast (.opv rfl) (congrArg Value.bool (decide_eq_true (by omega)))) rfl rfl rfl ?_; refine .o rfl rfl rfl rfl ?_; refine WL.nil ?_; refine Kseq.go ?_; refine W.condT rfl rfl ?_; refine W.seq ?_; refine W.region ?_; refine .val (.call rfl (fun m hm => awake6_any)) rfl rfl rfl ?_; refine .o rfl rfl rfl rfl ?_; refine WL.nil ?_; refine Kseq.go ?_
    refine W.ret ?_; refine Kseq.ret ?_; refine ⟨.inl rfl, [_], h, ⟨.tmp rfl, trivial⟩, (by repeat constructor), ?_⟩
    rfl
  refine W.region ?_; refine .val (.loadPW rfl (by assumption) (by repeat constructor) (by rfl)) rfl rfl rfl ?_; refine .val (.cast (.call rfl (fun m hm => ready6_any (hv'.le (by repeat (first | exact hm.1 | replace hm := hm.2))))) (congrArg Value.bool hR)) rfl rfl rfl ?_
  iterate 2 refine .o rfl rfl rfl rfl ?_
  refine .val (.fieldAddrB rfl) rfl rfl rfl ?_; refine .val (.fieldAddrB rfl) rfl rfl rfl ?_; refine .val (.loadP rfl (by assumption) (by repeat constructor) rfl) rfl rfl rfl ?_; refine .val (.len rfl hW) rfl rfl rfl ?_; refine .val (.cast (.opv rfl) (congrArg Value.bool (decide_eq_false (by omega)))) rfl rfl rfl ?_; refine .o rfl rfl rfl rfl ?_; refine WL.nil ?_; refine Kseq.go ?_; refine W.condF rfl rfl ?_
  have hwl : n % r.table.women.length < r.table.women.length := Nat.mod_lt _ (by omega)
  refine W.skip (Kseq.go (W.seq ?_))
  refine W.region ?_; refine .o rfl rfl rfl rfl ?_; refine .val (.conv rfl (i64_in (by omega) (by omega))) rfl rfl rfl ?_; refine .val (.fieldAddrB rfl) rfl rfl rfl ?_; refine .val (.fieldAddrB rfl) rfl rfl rfl ?_; refine .val (.loadP rfl (by assumption) (by repeat constructor) rfl) rfl rfl rfl ?_; refine .val (.len rfl hW) rfl rfl rfl ?_; refine .val (.cast (.rem rfl rfl (by omega) (by omega)) (show vi ((n : Int) % (r.table.women.length : Int)) = vi ((n % r.table.women.length : Nat) : Int) from rfl)) rfl rfl rfl ?_; refine .o rfl rfl rfl rfl ?_; refine WL.nil ?_
  refine Kseq.go (W.seq ?_)
  generalize n % r.table.women.length = w at *
  refine W.weaken [(2, .pointer (some ⟨b2, 0, none⟩)), (5, vi (w : Int))] [m1, h] [] (by repeat (first | exact trivial | refine ⟨rfl, ?_⟩)) (by simp) (List.nil_sublist _) ?_
  let Z9 : Array Value := #[.slice none 0 0, .slice none 0 0, .int .i64 0, .slice none 0 0, .int .i64 0, .int .i64 0, .slice none 0 0, .slice none 0 0, .slice none 0 0]
  refine W.drawY (γ := Two) .n 5 [2, 3, 4] (Two.L 6 7 [(2, .pointer (some ⟨b2, 0, none⟩)), (5, vi (w : Int))]) (fun _ => [m1, h]) (Two.M Z9 (hcs wv pv kv tv bv sv r) 31 []) (Two.tn 2 3 4) (by kernel_rfl) (by kernel_rfl) (by kernel_rfl) (fun _ _ => rfl) (fun g => by cases g <;> rfl) rfl rfl rfl ?_; refine DJY.val [] (fun g _ => by cases g <;> exact OpVal.loadPW rfl h1 (by repeat constructor) (by rfl)) (fun g _ => by cases g <;> rfl) rfl rfl (fun g => by cases g <;> rfl) rfl ?_; refine DJY.val [] (fun g _ => by cases g <;> exact OpVal.loadPW rfl h1 (by repeat constructor) (by rfl)) (fun g _ => by cases g <;> rfl) rfl rfl (fun g => by cases g <;> rfl) rfl ?_; refine DJY.eff [] trivial rfl rfl [] trivial (fun g ha hn => ?_) ?_
  · cases g with
    | n => exact ⟨rfl, fun M2 hM2 => by refine WL.alloc rfl rfl rfl (fun bx => ?_); exact WL.nil ⟨.a bx, (by intro q hq; simp at hq; rcases hq with rfl | rfl | rfl <;> rfl), (Keff.intro (by repeat (first | exact trivial | refine ⟨rfl, ?_⟩)) (fun x hx => (List.mem_append.1 hx).elim (fun h => h) (hM2 x)) (.refl _))⟩⟩
    | a x => exact Bool.noConfusion (show true = false from hn)
    | b y => exact ⟨rfl, fun M2 hM2 => by refine WL.alloc rfl rfl rfl (fun bx => ?_); refine WL.swap rfl ?_; exact WL.nil ⟨.ab bx y, (by intro q hq; simp at hq; rcases hq with rfl | rfl | rfl <;> rfl), (Keff.intro (by repeat (first | exact trivial | refine ⟨rfl, ?_⟩)) (fun x hx => (List.mem_append.1 hx).elim (fun h => h) (hM2 x)) (.refl _))⟩⟩
    | ab x y => exact Bool.noConfusion (show true = false from hn)
    | s x y => exact Bool.noConfusion (show true = false from hn)
  refine DJY.eff [] trivial rfl rfl [] trivial (fun g ha hn => ?_) ?_
  · cases g with
    | n => exact ⟨rfl, fun M2 hM2 => by refine WL.alloc rfl rfl rfl (fun bx => ?_); exact WL.nil ⟨.b bx, (by intro q hq; simp at hq; rcases hq with rfl | rfl | rfl <;> rfl), (Keff.intro (by repeat (first | exact trivial | refine ⟨rfl, ?_⟩)) (fun x hx => (List.mem_append.1 hx).elim (fun h => h) (hM2 x)) (.refl _))⟩⟩
    | a x => exact ⟨rfl, fun M2 hM2 => by refine WL.alloc rfl rfl rfl (fun bx => ?_); exact WL.nil ⟨.ab x bx, (by intro q hq; simp at hq; rcases hq with rfl | rfl | rfl <;> rfl), (Keff.intro (by repeat (first | exact trivial | refine ⟨rfl, ?_⟩)) (fun x hx => (List.mem_append.1 hx).elim (fun h => h) (hM2 x)) (.refl _))⟩⟩
    | b y => exact Bool.noConfusion (show true = false from hn)
    | ab x y => exact Bool.noConfusion (show true = false from hn)
    | s x y => exact Bool.noConfusion (show true = false from hn)
  refine DJY.eff [(32, _)] ⟨rfl, trivial⟩ rfl rfl [] trivial (fun g ha hn => ?_) ?_
  · cases g with
    | n => exact Bool.noConfusion (show false = true from ha)
    | a x => exact Bool.noConfusion (show false = true from ha)
    | b y => exact Bool.noConfusion (show false = true from ha)
    | ab x y => exact ⟨rfl, fun M2 hM2 => by refine WL.store [wv, pv, vi r.table.wrong, kv, vi r.others, vi r.last, tv, bv, sv] rfl (.tail _ (.head _)) rfl rfl rfl (Nat.le_of_ble_eq_true rfl) (by simp [Value.cells]; exact ⟨IsArr.one hA.W, IsArr.one hA.P, rfl, IsArr.one hA.K, rfl, rfl, IsArr.one hA.T, IsArr.one hA.B, IsArr.one hA.S⟩) rfl ?_; exact WL.nil ⟨.s x y, (by intro q hq; simp at hq; rcases hq with rfl | rfl | rfl <;> rfl), (Keff.intro (by repeat (first | exact trivial | refine ⟨rfl, ?_⟩)) (fun x hx => (List.mem_append.1 hx).elim (fun h => h) (hM2 x)) (.refl _))⟩⟩
    | s x y => exact Bool.noConfusion (show true = false from hn)
  refine DJY.nil (fun g hg => ?_)
  cases g with
  | n => exact Bool.noConfusion (show false = true from hg 4 (by simp))
  | a x => exact Bool.noConfusion (show false = true from hg 4 (by simp))
  | b y => exact Bool.noConfusion (show false = true from hg 4 (by simp))
  | ab x y => exact Bool.noConfusion (show false = true from hg 4 (by simp))
  | s b6 b7 =>
  refine WL.store [wv, pv, vi r.table.wrong, kv, vi r.others, vi r.last, tv, bv, sv] rfl (.head _) rfl rfl rfl (Nat.le_of_ble_eq_true rfl) (by simp [Value.cells]; exact ⟨IsArr.one hA.W, IsArr.one hA.P, rfl, IsArr.one hA.K, rfl, rfl, IsArr.one hA.T, IsArr.one hA.B, IsArr.one hA.S⟩) rfl ?_
  refine WL.nil ?_
  refine Kseq.go (W.seq ?_)
  refine W.region ?_; refine .val (.fieldAddrB rfl) rfl rfl rfl ?_
  refine WL.store [_, _, _, _, _, _, _, _, _] rfl (.tail _ (.head _)) rfl rfl rfl (Nat.le_of_ble_eq_true rfl) (by first | (simp [Value.cells, Value.oneCell']; done) | exact IsArr.ones hW (by omega) | exact IsArr.ones hP (by omega) | exact IsArr.ones hS (by omega) | exact IsArr.ones hH (by omega) | exact IsArr.ones hL (by omega) | exact IsArr.ones hB (by omega) | exact IsArr.ones hT (by omega) | exact IsArr.ones hm (by omega)) rfl ?_
  refine .val (.fieldAddrB rfl) rfl rfl rfl ?_
  refine WL.store [_, _, _, _, _, _, _, _, _] rfl (.head _) rfl rfl rfl (Nat.le_of_ble_eq_true rfl) (by first | (simp [Value.cells, Value.oneCell']; done) | exact IsArr.ones hW (by omega) | exact IsArr.ones hP (by omega) | exact IsArr.ones hS (by omega) | exact IsArr.ones hH (by omega) | exact IsArr.ones hL (by omega) | exact IsArr.ones hB (by omega) | exact IsArr.ones hT (by omega) | exact IsArr.ones hm (by omega)) rfl ?_
  refine .val (.fieldAddrB rfl) rfl rfl rfl ?_
  refine WL.store [_, _, _, _, _, _, _, _, _] rfl (.head _) rfl rfl rfl (Nat.le_of_ble_eq_true rfl) (by first | (simp [Value.cells, Value.oneCell']; done) | exact IsArr.ones hW (by omega) | exact IsArr.ones hP (by omega) | exact IsArr.ones hS (by omega) | exact IsArr.ones hH (by omega) | exact IsArr.ones hL (by omega) | exact IsArr.ones hB (by omega) | exact IsArr.ones hT (by omega) | exact IsArr.ones hm (by omega)) rfl ?_
  refine WL.nil ?_
  refine Kseq.go (W.seq (W.seq ?_))
  refine W.region ?_; refine .o rfl rfl rfl rfl ?_; refine WL.nil ?_
  refine Kseq.go (W.block ?_)
  refine W.freezeBox (.tail _ (.head _)) (fun b hb => (hF b hb).elim) fun m6 h6 => ?_
  refine W.nilRow 3 1 ?_
  let p : Nat → Bool := fun i => decide (i = w) || decide ((i : Int) ∈ r.sick)
  refine W.loop (σ := Nat × Value) (fun s => [(2, .pointer (some ⟨b2, 0, none⟩)), (5, vi (w : Int)), (6, .pointer (some ⟨b6, 0, none⟩)), (7, .pointer (some ⟨b7, 0, none⟩)), (8, vi (s.1 : Int))]) (fun _ => [m6, m1, h]) (fun s => [ir 3 s.2 (sel s.1 p), .blk b7 #[wv, pv, vi r.table.wrong, s.2, vi r.others, vi r.last, tv, bv, .slice none 0 0] 31]) (fun s => s.1 ≤ r.table.women.length) (fun s => r.table.women.length - s.1) (0, .slice none 0 0) ⟨rfl, rfl, rfl, rfl, rfl, trivial⟩ (by simp) (.refl _) (Nat.zero_le _) ?_
  rintro ⟨k, a⟩ hk
  dsimp only at hk ⊢
  have hlen := sel_len k p
  refine W.seq (W.seq ?_)
  refine W.region ?_; refine .o rfl rfl rfl rfl ?_; refine .val (.fieldAddrB rfl) rfl rfl rfl ?_; refine .val (.fieldAddrB rfl) rfl rfl rfl ?_; refine .val (.loadP rfl (by assumption) (by repeat constructor) rfl) rfl rfl rfl ?_; refine .val (.len rfl hW) rfl rfl rfl ?_; refine .o rfl rfl rfl rfl ?_; refine WL.nil ?_; refine Kseq.go ?_
  refine W.condD rfl rfl (fun hlt => ?_) (fun hge => ?_)
  · have hkl : k < r.table.women.length := by omega
    refine W.skip (Kseq.go (W.seq (W.block (W.seq ?_))))
    refine W.toS [(2, .pointer (some ⟨b2, 0, none⟩)), (5, vi (w : Int)), (6, .pointer (some ⟨b6, 0, none⟩)), (7, .pointer (some ⟨b7, 0, none⟩)), (8, vi (k : Int)), (53, .bool (p k))] ?_ ?_
    · skip
      refine W.region ?_
      iterate 4 refine .o rfl rfl rfl rfl ?_
      refine WL.split rfl rfl (fun g48 => ?_) (fun g48 => ?_)
      · refine WL.pass rfl rfl rfl ?_
        refine WL.pass rfl rfl rfl ?_; refine WL.pass rfl rfl rfl ?_; refine WL.pass rfl rfl rfl ?_; refine .o rfl rfl rfl rfl ?_; refine WL.nil ?_
        exact Keff.intro ⟨rfl, rfl, rfl, rfl, rfl, congrArg (fun b => some (Value.bool b)) (by show _ = (decide (k = w) || decide ((k : Int) ∈ r.sick)); first | exact (by first | (simp [-List.getD_eq_getElem?_getD]; done) | (simp_all [-List.getD_eq_getElem?_getD]; done) | (simp [-List.getD_eq_getElem?_getD]; omega) | (rw [Bool.eq_iff_iff]; simp [-List.getD_eq_getElem?_getD]; omega) | (simp [-List.getD_eq_getElem?_getD] at *; omega)) | (simp [*]; done) | (rw [Bool.eq_iff_iff]; simp_all; omega)), trivial⟩ (by simp) (by repeat (first | exact List.Sublist.refl _ | refine List.Sublist.cons _ ?_ | refine List.Sublist.cons_cons _ ?_))
      · refine .val (.fieldAddrB rfl) rfl rfl rfl ?_
        refine .val (.loadP rfl (by assumption) (by repeat constructor) rfl) rfl rfl rfl ?_; refine .o rfl rfl rfl rfl ?_; refine .val (.call rfl (fun m hm => has_any _ (hK.le (by repeat (first | exact hm.1 | replace hm := hm.2))))) rfl rfl rfl ?_; refine .o rfl rfl rfl rfl ?_; refine WL.nil ?_
        exact Keff.intro ⟨rfl, rfl, rfl, rfl, rfl, congrArg (fun b => some (Value.bool b)) (by show _ = (decide (k = w) || decide ((k : Int) ∈ r.sick)); first | exact (by first | (simp [-List.getD_eq_getElem?_getD]; done) | (simp_all [-List.getD_eq_getElem?_getD]; done) | (simp [-List.getD_eq_getElem?_getD]; omega) | (rw [Bool.eq_iff_iff]; simp [-List.getD_eq_getElem?_getD]; omega) | (simp [-List.getD_eq_getElem?_getD] at *; omega)) | (simp [*]; done) | (rw [Bool.eq_iff_iff]; simp_all; omega)), trivial⟩ (by simp) (by repeat (first | exact List.Sublist.refl _ | refine List.Sublist.cons _ ?_ | refine List.Sublist.cons_cons _ ?_))
    refine Kseq.go ?_
    refine W.cond rfl rfl (fun hb => ?_) (fun hb => ?_)
    · skip
      refine W.region ?_; refine .val (.fieldAddrB rfl) rfl rfl rfl ?_; refine .val (.loadB rfl (.tail _ (.head _)) rfl) rfl rfl rfl ?_; refine .o rfl rfl rfl rfl ?_
      refine WL.abs (OpAbs.lit [_] rfl (Nat.le_of_ble_eq_true rfl) rfl rfl (by simp [Value.cells]) (Nat.le_of_ble_eq_true rfl) rfl (by first | (simp [Value.oneCell']; done) | exact List.all_eq_true.1 rfl)) rfl rfl rfl ?_
      rintro m57 _ ⟨hc57, a57, rfl⟩
      refine WL.appInt rfl (fun _ => (.head _)) rfl (by assumption) (by repeat constructor) (by omega) rfl rfl rfl ?_
      intro a58 cp58
      refine .val (.fieldAddrB rfl) rfl rfl rfl ?_
      refine WL.store [_, _, _, _, _, _, _, _, _] rfl (.tail _ (.head _)) rfl rfl rfl (Nat.le_of_ble_eq_true rfl) (by first | (simp [Value.cells, Value.oneCell']; done) | exact IsArr.ones hW (by omega) | exact IsArr.ones hP (by omega) | exact IsArr.ones hS (by omega) | exact IsArr.ones hH (by omega) | exact IsArr.ones hL (by omega) | exact IsArr.ones hB (by omega) | exact IsArr.ones hT (by omega) | exact IsArr.ones hm (by omega)) rfl ?_
      refine WL.nil ?_
      refine Kblock.normal (Kseq.go ?_)
      refine W.region ?_; refine .o rfl rfl rfl rfl ?_; refine .val (.incr rfl (by omega)) rfl rfl rfl ?_; refine .o rfl rfl rfl rfl ?_; refine WL.nil ?_
      exact Kloop.next (k + 1, _) (by dsimp only; omega) (by dsimp only; omega) ⟨rfl, rfl, rfl, rfl, rfl, trivial⟩ (by simp) (by dsimp only; rw [sel_yes hb]; exact (by repeat (first | exact List.Sublist.refl _ | refine List.Sublist.cons _ ?_ | refine List.Sublist.cons_cons _ ?_)))
    · refine W.skip (Kblock.normal (Kseq.go ?_))
      refine W.region ?_; refine .o rfl rfl rfl rfl ?_; refine .val (.incr rfl (by omega)) rfl rfl rfl ?_; refine .o rfl rfl rfl rfl ?_; refine WL.nil ?_
      exact Kloop.next (k + 1, a) (by dsimp only; omega) (by dsimp only; omega) ⟨rfl, rfl, rfl, rfl, rfl, trivial⟩ (by simp) (by dsimp only; rw [sel_no hb]; exact (by repeat (first | exact List.Sublist.refl _ | refine List.Sublist.cons _ ?_ | refine List.Sublist.cons_cons _ ?_)))
  refine W.exit (Kseq.exit (Kloop.exit (Kblock.here (Kseq.go (W.seq ?_)))))
  have hkk : k = r.table.women.length := by omega
  subst hkk
  refine W.freezeInts (.head _) (fun b hb => (hF b hb).elim) fun m8 hm8 => ?_
  refine W.freezeBox (.head _) (fun b hb => (hF b hb).elim) fun m7 h7 => ?_
  refine W.join fun mj hj => ?_
  have hm8' : IsInts mj a (sickMore r w) := hm8.le (hj _ (by simp))
  have hrise := sickMore_rising r w
  have hsub := sickMore_sub hVa w
  have hth := hVa.thW
  have hcar := fun i (hi : i < r.th) => sicker_carry hVa hsub hi
  have hAj := hA.le (hj h (by simp))
  have hx : IsHouse mj (.agg #[wv, pv, vi r.table.wrong, kv, vi r.others, vi r.last, tv, bv, .slice none 0 0]) (withSick r r.sick) := ⟨wv, pv, kv, tv, bv, .slice none 0 0, f, rfl, ⟨hAj.W, hAj.P, hAj.M, hAj.K, hAj.T, hAj.B, IsSigns.nil _⟩⟩
  have hy : IsHouse mj (.agg #[wv, pv, vi r.table.wrong, a, vi r.others, vi r.last, tv, bv, .slice none 0 0]) (withSick r (sickMore r w)) := ⟨wv, pv, a, tv, bv, .slice none 0 0, f, rfl, ⟨hAj.W, hAj.P, hAj.M, hm8', hAj.T, hAj.B, IsSigns.nil _⟩⟩
  have hsl : (sickMore r w).length ≤ 20 := by have h1 := sel_len r.table.women.length p; have h2 := hVa.table.women; show (sel r.table.women.length p).length ≤ 20; omega
  have hE1 := ask6E_sick hVa hVa.sick
  have hE2 := ask6E_sick hVa hrise
  have hl1 : (carry6 (withSick r r.sick)).length = r.th := carry6_len _
  have hl2 : (carry6 (withSick r (sickMore r w))).length = r.th := carry6_len _
  have h6j := h6.le (hj m6 (by simp))
  have h7j := h7.le (hj m7 (by simp))
  have h1j := h1.le (hj m1 (by simp))
  have hvj := hv'.le (hj h (by simp))
  clear h6 h7 h1 hm8
  refine W.region ?_; refine .val (.loadPW rfl h6j (by repeat constructor) rfl) rfl rfl rfl ?_; refine WL.abs (OpAbs.call rfl (fun m hm => houseL_any (hx.le (by repeat (first | exact hm.1 | replace hm := hm.2))) (withSick_sm hs hs.sick))) rfl rfl rfl ?_
  rintro m62 v62 h62
  refine WL.abs (OpAbs.call rfl (fun m hm => carry6_any (h62.le (by repeat (first | exact hm.1 | replace hm := hm.2))) (withSick_sm hs hs.sick))) rfl rfl rfl ?_
  rintro m63 _ ⟨lv1, rfl, hlv1⟩
  rw [hE1, if_pos rfl] at hlv1
  rw [hE1]
  iterate 5 refine .o rfl rfl rfl rfl ?_
  refine WL.nil ?_
  refine Kseq.go (W.seq ?_)
  refine W.region ?_; refine .val (.loadPW rfl h7j (by repeat constructor) rfl) rfl rfl rfl ?_; refine WL.abs (OpAbs.call rfl (fun m hm => houseL_any (hy.le (by repeat (first | exact hm.1 | replace hm := hm.2))) (withSick_sm hs hsl))) rfl rfl rfl ?_
  rintro m68 v68 h68
  refine WL.abs (OpAbs.call rfl (fun m hm => carry6_any (h68.le (by repeat (first | exact hm.1 | replace hm := hm.2))) (withSick_sm hs hsl))) rfl rfl rfl ?_
  rintro m69 _ ⟨lv2, rfl, hlv2⟩
  rw [hE2, if_pos rfl] at hlv2
  rw [hE2]
  iterate 5 refine .o rfl rfl rfl rfl ?_
  refine WL.nil ?_
  refine Kseq.go (W.seq (W.seq ?_))
  refine W.join fun mk hk => ?_
  have g1 := hlv1.le (hk _ (by simp))
  have g2 := hlv2.le (hk _ (by simp))
  have hvk := hvj.le (hk mj (by simp))
  have h1k := h1j.le (hk mj (by simp))
  refine W.weaken [(2, .pointer (some ⟨b2, 0, none⟩)), (9, lv1), (10, vi 0), (11, lv2), (12, vi 0)] [mk] [] (by repeat (first | exact trivial | refine ⟨rfl, ?_⟩)) (by simp) (List.nil_sublist _) ?_
  clear hlv1 hlv2 h62 h68 hx hy h6j h7j hAj
  generalize carry6 (withSick r r.sick) = U at *
  generalize carry6 (withSick r (sickMore r w)) = V at *
  refine W.region ?_; refine .o rfl rfl rfl rfl ?_; refine .val (OpVal.neqF6 rfl rfl) rfl rfl rfl ?_
  iterate 2 refine .o rfl rfl rfl rfl ?_
  refine .val (OpVal.neqF6 rfl rfl) rfl rfl rfl ?_
  iterate 3 refine .o rfl rfl rfl rfl ?_
  refine .val (.len rfl g1) rfl rfl rfl ?_; refine .val (.loadPW rfl h1k (by repeat constructor) rfl) rfl rfl rfl ?_; refine .val (.cast (.call rfl (fun m hm => thingsR_any (hvk.le (by repeat (first | exact hm.1 | replace hm := hm.2))))) (congrArg (Value.int .i64) hth)) rfl rfl rfl ?_; refine .val (.cast (.opv rfl) (show _ = Value.bool false from congrArg (fun b => Value.bool (!b)) (decide_eq_true (by omega)))) rfl rfl rfl ?_
  iterate 3 refine .o rfl rfl rfl rfl ?_
  refine .val (.len rfl g2) rfl rfl rfl ?_; refine .o rfl rfl rfl rfl ?_; refine .val (.len rfl g1) rfl rfl rfl ?_; refine .val (.cast (.opv rfl) (show _ = Value.bool false from congrArg (fun b => Value.bool (!b)) (decide_eq_true (by omega)))) rfl rfl rfl ?_; refine .o rfl rfl rfl rfl ?_; refine WL.nil ?_; refine Kseq.go ?_
  have hgU := g1.bd
  have hgV := g2.bd
  refine W.condF rfl rfl ?_
  refine W.skip (Kseq.go (W.seq (W.seq ?_)))
  refine W.region ?_; refine .o rfl rfl rfl rfl ?_; refine WL.nil ?_
  refine Kseq.go (W.block ?_)
  refine W.loop (σ := Nat) (fun k => [(9, lv1), (11, lv2), (13, vi (k : Int))]) (fun _ => [mk]) (fun _ => []) (fun k => k ≤ r.th) (fun k => r.th - k) 0 ⟨rfl, rfl, rfl, trivial⟩ (by simp) (List.nil_sublist _) (Nat.zero_le _) ?_
  rintro k hk
  try dsimp only at hk ⊢
  refine W.seq (W.seq ?_)
  refine W.region ?_
  iterate 2 refine .o rfl rfl rfl rfl ?_
  refine .val (.len rfl g1) rfl rfl rfl ?_; refine .o rfl rfl rfl rfl ?_; refine WL.nil ?_; refine Kseq.go ?_
  refine W.condD rfl rfl (fun hlt => ?_) (fun hge => ?_)
  · have hkl : k < r.th := by omega
    have hkU : k < U.length := by omega
    have hkV : k < V.length := by omega
    obtain ⟨c1, c2⟩ := hcar k hkl
    refine W.skip (Kseq.go (W.seq (W.block (W.seq ?_))))
    refine W.toS [(9, lv1), (11, lv2), (13, vi (k : Int)), (131, .bool false)] ?_ ?_
    · obtain ⟨u, hu⟩ : ∃ u, U.getD k 0 = u := ⟨_, rfl⟩
      obtain ⟨z, hz⟩ : ∃ z, V.getD k 0 = z := ⟨_, rfl⟩
      rw [hu, hz] at c1 c2
      refine W.draw 31 (by kernel_rfl) (by kernel_rfl) (by kernel_rfl) rfl ?_; refine .val [] (.opv rfl) rfl rfl rfl rfl ?_; refine .val [] (.opv rfl) rfl rfl rfl rfl ?_; refine .val [] (.indexAddrN rfl rfl g1 hkU) rfl rfl rfl rfl ?_; refine .val [] (.cast (.loadE rfl g1 (by repeat constructor) hkU (by omega)) (congrArg vi hu)) rfl rfl rfl rfl ?_; refine .val [] (.opv rfl) rfl rfl rfl rfl ?_; refine .val [] (.opv rfl) rfl rfl rfl rfl ?_
      refine DJ.split rfl rfl (fun g103 => ?_) (fun g103 => ?_)
      · refine .val [] (.opv rfl) rfl rfl rfl rfl ?_
        refine .val [] (.opv rfl) rfl rfl rfl rfl ?_; refine .val [] (.indexAddrN rfl rfl g2 hkV) rfl rfl rfl rfl ?_; refine .val [] (.cast (.loadE rfl g2 (by repeat constructor) hkV (by omega)) (congrArg vi hz)) rfl rfl rfl rfl ?_; refine .val [] (.opv rfl) rfl rfl rfl rfl ?_; refine .val [] (.opv rfl) rfl rfl rfl rfl ?_; refine .val [] (.indexAddrN rfl rfl g1 hkU) rfl rfl rfl rfl ?_; refine .val [] (.cast (.loadE rfl g1 (by repeat constructor) hkU (by omega)) (congrArg vi hu)) rfl rfl rfl rfl ?_; refine .val [] (.opv rfl) rfl rfl rfl rfl ?_; refine .val [] (.opv rfl) rfl rfl rfl rfl ?_; refine .val [] (.opv rfl) rfl rfl rfl rfl ?_
        refine DJ.splitN rfl rfl (fun g114 => ?_) (fun g114 => ?_)
        · refine DJ.pass rfl rfl rfl rfl ?_
          refine DJ.pass rfl rfl rfl rfl ?_; refine DJ.pass rfl rfl rfl rfl ?_; refine DJ.pass rfl rfl rfl rfl ?_; refine DJ.pass rfl rfl rfl rfl ?_; refine DJ.pass rfl rfl rfl rfl ?_; refine DJ.pass rfl rfl rfl rfl ?_; refine DJ.pass rfl rfl rfl rfl ?_; refine DJ.pass rfl rfl rfl rfl ?_; refine DJ.pass rfl rfl rfl rfl ?_; refine DJ.pass rfl rfl rfl rfl ?_; refine DJ.pass rfl rfl rfl rfl ?_; refine DJ.pass rfl rfl rfl rfl ?_; refine DJ.pass rfl rfl rfl rfl ?_; refine DJ.nil ?_; refine WL.pass rfl rfl rfl ?_; refine WL.pass rfl rfl rfl ?_; refine .o rfl rfl rfl rfl ?_; refine WL.nil ?_
          exact Keff.intro ⟨rfl, rfl, rfl, congrArg (fun b => some (Value.bool b)) (by first | (simp_all; done) | (simp_all; omega) | (exfalso; simp_all; omega)), trivial⟩ (by simp) (by repeat (first | exact List.Sublist.refl _ | refine List.Sublist.cons _ ?_ | refine List.Sublist.cons_cons _ ?_))
        · refine .val [] (.opv rfl) rfl rfl rfl rfl ?_
          refine .val [] (.opv rfl) rfl rfl rfl rfl ?_; refine .val [] (.indexAddrN rfl rfl g2 hkV) rfl rfl rfl rfl ?_; refine .val [] (.cast (.loadE rfl g2 (by repeat constructor) hkV (by omega)) (congrArg vi hz)) rfl rfl rfl rfl ?_; refine .val [] (.opv rfl) rfl rfl rfl rfl ?_; refine .val [] (.opv rfl) rfl rfl rfl rfl ?_
          refine DJ.split rfl rfl (fun g120 => ?_) (fun g120 => ?_)
          · refine .val [] (.opv rfl) rfl rfl rfl rfl ?_
            refine .val [] (.opv rfl) rfl rfl rfl rfl ?_; refine .val [] (.indexAddrN rfl rfl g1 hkU) rfl rfl rfl rfl ?_; refine .val [] (.cast (.loadE rfl g1 (by repeat constructor) hkU (by omega)) (congrArg vi hu)) rfl rfl rfl rfl ?_; refine .val [] (.opv rfl) rfl rfl rfl rfl ?_; refine .val [] (.opv rfl) rfl rfl rfl rfl ?_; refine .val [] (.indexAddrN rfl rfl g2 hkV) rfl rfl rfl rfl ?_; refine .val [] (.cast (.loadE rfl g2 (by repeat constructor) hkV (by omega)) (congrArg vi hz)) rfl rfl rfl rfl ?_; refine DJ.nil ?_
            iterate 3 refine .o rfl rfl rfl rfl ?_
            refine WL.nil ?_
            exact Keff.intro ⟨rfl, rfl, rfl, congrArg (fun b => some (Value.bool b)) (by first | (simp_all; done) | (simp_all; omega) | (exfalso; simp_all; omega)), trivial⟩ (by simp) (by repeat (first | exact List.Sublist.refl _ | refine List.Sublist.cons _ ?_ | refine List.Sublist.cons_cons _ ?_))
          · refine DJ.pass rfl rfl rfl rfl ?_
            refine DJ.pass rfl rfl rfl rfl ?_; refine DJ.pass rfl rfl rfl rfl ?_; refine DJ.pass rfl rfl rfl rfl ?_; refine DJ.pass rfl rfl rfl rfl ?_; refine DJ.pass rfl rfl rfl rfl ?_; refine DJ.pass rfl rfl rfl rfl ?_; refine DJ.pass rfl rfl rfl rfl ?_; refine DJ.nil ?_; refine WL.pass rfl rfl rfl ?_
            iterate 2 refine .o rfl rfl rfl rfl ?_
            refine WL.nil ?_
            exact Keff.intro ⟨rfl, rfl, rfl, congrArg (fun b => some (Value.bool b)) (by first | (simp_all; done) | (simp_all; omega) | (exfalso; simp_all; omega)), trivial⟩ (by simp) (by repeat (first | exact List.Sublist.refl _ | refine List.Sublist.cons _ ?_ | refine List.Sublist.cons_cons _ ?_))
      · refine DJ.pass rfl rfl rfl rfl ?_
        refine DJ.pass rfl rfl rfl rfl ?_; refine DJ.pass rfl rfl rfl rfl ?_; refine DJ.pass rfl rfl rfl rfl ?_; refine DJ.pass rfl rfl rfl rfl ?_; refine DJ.pass rfl rfl rfl rfl ?_; refine DJ.pass rfl rfl rfl rfl ?_; refine DJ.pass rfl rfl rfl rfl ?_; refine DJ.pass rfl rfl rfl rfl ?_; refine .val [] (.opv rfl) rfl rfl rfl rfl ?_; refine .val [] (.opv rfl) rfl rfl rfl rfl ?_; refine .val [] (.opv rfl) rfl rfl rfl rfl ?_; refine .val [] (.opv rfl) rfl rfl rfl rfl ?_; refine .val [] (.indexAddrN rfl rfl g2 hkV) rfl rfl rfl rfl ?_; refine .val [] (.cast (.loadE rfl g2 (by repeat constructor) hkV (by omega)) (congrArg vi hz)) rfl rfl rfl rfl ?_; refine .val [] (.opv rfl) rfl rfl rfl rfl ?_; refine .val [] (.opv rfl) rfl rfl rfl rfl ?_
        refine DJ.split rfl rfl (fun g120 => ?_) (fun g120 => ?_)
        · refine .val [] (.opv rfl) rfl rfl rfl rfl ?_
          refine .val [] (.opv rfl) rfl rfl rfl rfl ?_; refine .val [] (.indexAddrN rfl rfl g1 hkU) rfl rfl rfl rfl ?_; refine .val [] (.cast (.loadE rfl g1 (by repeat constructor) hkU (by omega)) (congrArg vi hu)) rfl rfl rfl rfl ?_; refine .val [] (.opv rfl) rfl rfl rfl rfl ?_; refine .val [] (.opv rfl) rfl rfl rfl rfl ?_; refine .val [] (.indexAddrN rfl rfl g2 hkV) rfl rfl rfl rfl ?_; refine .val [] (.cast (.loadE rfl g2 (by repeat constructor) hkV (by omega)) (congrArg vi hz)) rfl rfl rfl rfl ?_; refine DJ.nil ?_
          iterate 3 refine .o rfl rfl rfl rfl ?_
          refine WL.nil ?_
          exact Keff.intro ⟨rfl, rfl, rfl, congrArg (fun b => some (Value.bool b)) (by first | (simp_all; done) | (simp_all; omega) | (exfalso; simp_all; omega)), trivial⟩ (by simp) (by repeat (first | exact List.Sublist.refl _ | refine List.Sublist.cons _ ?_ | refine List.Sublist.cons_cons _ ?_))
        · refine DJ.pass rfl rfl rfl rfl ?_
          refine DJ.pass rfl rfl rfl rfl ?_; refine DJ.pass rfl rfl rfl rfl ?_; refine DJ.pass rfl rfl rfl rfl ?_; refine DJ.pass rfl rfl rfl rfl ?_; refine DJ.pass rfl rfl rfl rfl ?_; refine DJ.pass rfl rfl rfl rfl ?_; refine DJ.pass rfl rfl rfl rfl ?_; refine DJ.nil ?_; refine WL.pass rfl rfl rfl ?_
          iterate 2 refine .o rfl rfl rfl rfl ?_
          refine WL.nil ?_
          exact Keff.intro ⟨rfl, rfl, rfl, congrArg (fun b => some (Value.bool b)) (by first | (simp_all; done) | (simp_all; omega) | (exfalso; simp_all; omega)), trivial⟩ (by simp) (by repeat (first | exact List.Sublist.refl _ | refine List.Sublist.cons _ ?_ | refine List.Sublist.cons_cons _ ?_))
    refine Kseq.go ?_; refine W.condF rfl rfl ?_
    refine W.skip (Kblock.normal (Kseq.go ?_))
    refine W.region ?_; refine .o rfl rfl rfl rfl ?_; refine .val (.incr rfl (by omega)) rfl rfl rfl ?_; refine .o rfl rfl rfl rfl ?_; refine WL.nil ?_
    exact Kloop.next (k + 1) (by omega) (by omega) ⟨rfl, rfl, rfl, trivial⟩ (by simp) (by repeat (first | exact List.Sublist.refl _ | refine List.Sublist.cons _ ?_ | refine List.Sublist.cons_cons _ ?_))
  · refine W.exit (Kseq.exit (Kloop.exit (Kblock.here (Kseq.go (W.seq ?_)))))
    refine W.region ?_; refine .val (.call rfl (fun m hm => awake6_any)) rfl rfl rfl ?_; refine .o rfl rfl rfl rfl ?_; refine WL.nil ?_; refine Kseq.go ?_
    refine W.ret ?_; refine ⟨.inl rfl, [_], mk, ⟨.tmp rfl, trivial⟩, (by repeat constructor), ?_⟩
    rfl
end Go.Proofs.YtdnbkjgbehakpaaGreat
