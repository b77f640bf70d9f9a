/- The reference's functions of chapter 6: Right, IsCourse, IsTruth. -/
import Derived.Test.YtdnbkjgbehakpaaGreatT137
import Derived.Test.YtdnbkjgbehakpaaGreatT135
namespace Go.Proofs.YtdnbkjgbehakpaaGreat
open Go Go.Eng Go.RowKit

section
variable {P : Program} {n : Nat} {c : Cx P n} {l : List (Nat × Value)} {Ms : List Mem} {μ : List Res} {dst : Option Tmp} {x y : Operand} {t t' ty : TypeId} {pos : String} {af : Array Edge} {gd : Option (Nat × Bool)}
theorem OpVal.eqB6 {p q : Bool} [ht : TU P t .bool] (hx : lk l x = some (.bool p)) (hy : lk l y = some (.bool q)) : OpVal c ⟨dst, .binOp .eql t x y t', ty, pos, af, gd⟩ l Ms μ (.bool (decide (p = q))) :=
  OpVal.of_runs (by simp) (by simp) fun a w hh => by
    have h1 : (Op.equal t (.bool p) (.bool q)).run P w = .ok (p == q) w := run_equalIn_bool' w 9999 t p q ht.u
    simp [execOp, hh.lk hx, hh.lk hy, eqGuard, binOp, h1]
    cases p <;> cases q <;> rfl
end
theorem and_one6 {s A : Nat} : (s &&& 2 ^ A ≠ 0) ↔ s.testBit A = true := by
  have h := and_pair (s := s) (A := A) (B := A)
  rw [Nat.or_self] at h
  rw [h]; exact ⟨fun h => h.elim id id, .inl⟩
/-- Right -/
theorem rightR_any6 {h : Mem} {v cv : Value} {r : House} {q : Course} (hv : IsHouse h v r) (hV : ValidH r) (hc : IsCourseV h cv q) (hq1 : q.owners.length = r.np) (hq2 : q.hours.length = r.tn) :
    FnV Tryz.prog 98 #[v, cv] h (vi (right6 r q : Nat)) := by
  have hv' := hv
  have hc' := hc
  obtain ⟨wv, pv, kv, tv, bv, sv, f, rfl, hA⟩ := hv
  obtain ⟨ov, hv2, rfl, hO, hH⟩ := hc
  have hS := hA.S
  have h5 := hV.signN
  have hL := lastN_lt hV hq1 []
  have h10 := hV.th.2.2
  have hp10 : 2 ^ r.th ≤ 2 ^ 10 := Nat.pow_le_pow_right (by omega) h10
  obtain ⟨s, hs⟩ : ∃ s, lastN r q [] = s := ⟨_, rfl⟩
  rw [hs] at hL
  refine FnR.val ?_
  refine FnR.of_W (n := 42) Tryz.func98 rfl rfl (Nat.le_of_ble_eq_true rfl) fun c hr hD hF => ?_
  refine W.seq ?_; refine W.region ?_
  refine WL.box rfl rfl rfl rfl (fun b2 => ?_)
  refine WL.box rfl rfl rfl rfl (fun b3 => ?_)
  refine .o rfl rfl rfl rfl ?_; refine WL.nil ?_
  refine Kseq.go (W.seq ?_)
  refine W.region ?_; refine .val (.loadBW rfl (.tail _ (.head _)) rfl) rfl rfl rfl ?_; refine .val (.loadBW rfl (.head _) rfl) rfl rfl rfl ?_; refine .val (.cast (.call rfl (fun m hm => lastR_any (hv'.le (by repeat (first | exact hm.1 | replace hm := hm.2))) hV (hc'.le (by repeat (first | exact hm.1 | replace hm := hm.2))) hq1 hq2 (IsBoils.nil m) (by simp))) (show _ = vi (s : Nat) from by rw [hs])) rfl rfl rfl ?_
  iterate 2 refine .o rfl rfl rfl rfl ?_
  refine WL.nil ?_
  refine Kseq.go (W.seq (W.seq ?_))
  refine W.region ?_; refine .o rfl rfl rfl rfl ?_; refine WL.nil ?_
  refine Kseq.go (W.block ?_)
  let p : Nat → Bool := signS r.signs s
  refine W.loop (σ := Nat) (fun i => [(2, .pointer (some ⟨b2, 0, none⟩)), (5, vi (bset i p : Nat)), (6, vi (s : Nat)), (7, vi (i : Int))]) (fun _ => [h]) (fun _ => [.blk b2 (hcs wv pv kv tv bv sv r) 31]) (fun i => i ≤ r.signs.length) (fun i => r.signs.length - i) 0 ⟨rfl, rfl, rfl, rfl, trivial⟩ (by simp) (by repeat (first | exact List.Sublist.refl _ | refine List.Sublist.cons _ ?_ | refine List.Sublist.cons_cons _ ?_)) (Nat.zero_le _) ?_
  rintro i hi
  try dsimp only at hi ⊢
  have hbl := bset_lt p i
  have hpi : 2 ^ i ≤ 2 ^ 10 := Nat.pow_le_pow_right (by omega) (by omega)
  have hpo : 0 < 2 ^ i := Nat.pow_pos (by omega)
  refine W.seq (W.seq ?_)
  refine W.region ?_; refine .o rfl rfl rfl rfl ?_; refine .val (.fieldAddrB rfl) rfl rfl rfl ?_; refine .val (.loadB rfl (.head _) rfl) rfl rfl rfl ?_; refine .val (.len rfl hS) rfl rfl rfl ?_; refine .o rfl rfl rfl rfl ?_; refine WL.nil ?_; refine Kseq.go ?_
  refine W.condD rfl rfl (fun hlt2 => ?_) (fun hge => ?_)
  · have hil : i < r.signs.length := by omega
    obtain ⟨A, eA, hA10⟩ := hV.signAt hil
    have hpA : 2 ^ A ≤ 2 ^ 10 := Nat.pow_le_pow_right (by omega) (by omega)
    have hpoA : 0 < 2 ^ A := Nat.pow_pos (by omega)
    have hsg : p i = decide (s.testBit A = (r.signs.getD i default).carries) := by show signS r.signs s i = _; unfold signS; rw [eA]; rfl
    refine W.skip (Kseq.go (W.seq (W.block (W.seq ?_))))
    refine W.draw 17 (by kernel_rfl) (by kernel_rfl) (by kernel_rfl) rfl ?_; refine .val [] (.opv rfl) rfl rfl rfl rfl ?_; refine .val [] (.fieldAddrB rfl) rfl rfl rfl rfl ?_; refine .val [] (.loadB rfl (.head _) rfl) rfl rfl rfl rfl ?_; refine .val [] (.opv rfl) rfl rfl rfl rfl ?_; refine .val [] (.indexAddrN rfl rfl hS hil) rfl rfl rfl rfl ?_; refine .val [] (.fieldAddrN rfl hS hil) rfl rfl rfl rfl ?_; refine .val [] (.cast (.loadE rfl hS (by repeat constructor) hil (by omega)) (congrArg (Value.int .i64) eA)) rfl rfl rfl rfl ?_; refine .val [] (.conv rfl (wrap_u64 (by omega) (by omega))) rfl rfl rfl rfl ?_
    refine .val [] ((OpVal.shl rfl rfl (by omega) (by rw [pow_cast]; omega) (by rw [pow_cast]; omega)).cast (congrArg (Value.int .i64) (pow_cast A))) rfl rfl rfl rfl ?_
    refine .val [] (.band rfl rfl (by omega) (by omega)) rfl rfl rfl rfl ?_
    refine .val [] (.cast (.opv rfl) (show _ = Value.bool (s.testBit A) from congrArg Value.bool (by rw [← decide_not, Bool.eq_iff_iff, decide_eq_true_eq, ← and_one6]; omega))) rfl rfl rfl rfl ?_
    refine .val [] (.fieldAddrB rfl) rfl rfl rfl rfl ?_; refine .val [] (.loadB rfl (.head _) rfl) rfl rfl rfl rfl ?_; refine .val [] (.opv rfl) rfl rfl rfl rfl ?_; refine .val [] (.indexAddrN rfl rfl hS hil) rfl rfl rfl rfl ?_; refine .val [] (.fieldAddrN rfl hS hil) rfl rfl rfl rfl ?_; refine .val [] (.cast (.loadE rfl hS (by repeat constructor) hil (by omega)) (show _ = Value.bool (r.signs.getD i default).carries from rfl)) rfl rfl rfl rfl ?_; refine DJ.nil ?_; refine .val (.cast (OpVal.eqB6 rfl rfl) (congrArg Value.bool hsg.symm)) rfl rfl rfl ?_; refine WL.nil ?_; refine Kseq.go ?_
    refine W.cond rfl rfl (fun hb2 => ?_) (fun hb2 => ?_)
    · have e : bset (i + 1) p = bset i p ||| 2 ^ i := by simp only [bset]; rw [if_pos hb2]
      refine W.region ?_
      iterate 2 refine .o rfl rfl rfl rfl ?_
      refine .val (.conv rfl (wrap_u64 (by omega) (by omega))) rfl rfl rfl ?_
      refine .val ((OpVal.shl rfl rfl (by omega) (by rw [pow_cast]; omega) (by rw [pow_cast]; omega)).cast (congrArg (Value.int .i64) (pow_cast i))) rfl rfl rfl ?_
      refine .val (.bor rfl rfl (by omega) (by omega)) rfl rfl rfl ?_; refine .o rfl rfl rfl rfl ?_; refine WL.nil ?_
      refine Kblock.normal (Kseq.go ?_)
      refine W.region ?_; refine .o rfl rfl rfl rfl ?_; refine .val (.incr rfl (by omega)) rfl rfl rfl ?_; refine .o rfl rfl rfl rfl ?_; refine WL.nil ?_
      exact Kloop.next (i + 1) (by omega) (by omega) ⟨rfl, congrArg (fun x : Nat => some (Value.int .i64 (x : Int))) e.symm, rfl, rfl, trivial⟩ (by simp) (by repeat (first | exact List.Sublist.refl _ | refine List.Sublist.cons _ ?_ | refine List.Sublist.cons_cons _ ?_))
    · have e : bset (i + 1) p = bset i p := by simp only [bset]; rw [if_neg (by rw [hb2]; exact Bool.false_ne_true)]
      refine W.skip (Kblock.normal (Kseq.go ?_))
      refine W.region ?_; refine .o rfl rfl rfl rfl ?_; refine .val (.incr rfl (by omega)) rfl rfl rfl ?_; refine .o rfl rfl rfl rfl ?_; refine WL.nil ?_
      exact Kloop.next (i + 1) (by omega) (by omega) ⟨rfl, congrArg (fun x : Nat => some (Value.int .i64 (x : Int))) e.symm, rfl, rfl, trivial⟩ (by simp) (by repeat (first | exact List.Sublist.refl _ | refine List.Sublist.cons _ ?_ | refine List.Sublist.cons_cons _ ?_))
  · have hii : i = r.signs.length := by omega
    subst hii
    refine W.exit (Kseq.exit (Kloop.exit (Kblock.here (Kseq.go (W.seq ?_)))))
    refine W.region ?_
    iterate 2 refine .o rfl rfl rfl rfl ?_
    refine WL.nil ?_; refine Kseq.go ?_
    refine W.ret ?_; refine ⟨.inl rfl, [_], h, ⟨.tmp rfl, trivial⟩, (by repeat constructor), ?_⟩
    show _ = vi (right6 r q : Nat)
    unfold right6
    rw [hs]; rfl
def hourBadR (r : House) (q : Course) (i : Nat) : Bool := !decide ((r.touches.getD i default).lo ≤ q.hours.getD i 0 ∧ q.hours.getD i 0 ≤ (r.touches.getD i default).hi)
/-- IsCourse -/
theorem isCourseR_any {h : Mem} {v cv : Value} {r : House} {q : Course} (hv : IsHouse h v r) (hs : SmH r) (hc : IsCourseV h cv q) : FnV Tryz.prog 67 #[v, cv] h (.bool (isCourse r q)) := by
  have hst := hs.table
  obtain ⟨wv, pv, kv, tv, bv, sv, f, rfl, hA⟩ := hv
  obtain ⟨ov, hv2, rfl, hO, hH⟩ := hc
  have hT := hA.T
  have hTab := hA.table
  have hHb := hH.bd
  refine FnR.val ?_
  refine FnR.of_W (n := 49) Tryz.func67 rfl rfl (Nat.le_of_ble_eq_true rfl) fun c hr hD hF => ?_
  refine W.seq ?_; refine W.region ?_
  refine WL.box rfl rfl rfl rfl (fun b2 => ?_)
  refine WL.box rfl rfl rfl rfl (fun b3 => ?_)
  refine .o rfl rfl rfl rfl ?_; refine WL.nil ?_
  refine Kseq.go (W.seq (W.seq ?_))
  obtain ⟨tb, htb⟩ : ∃ tb, isTruth r.table q.owners = tb := ⟨_, rfl⟩
  refine W.toS [(2, .pointer (some ⟨b2, 0, none⟩)), (3, .pointer (some ⟨b3, 0, none⟩)), (20, .bool (!(tb && decide (q.hours.length = r.tn))))] ?_ ?_
  · skip
    refine W.region ?_; refine .val (.fieldAddrB rfl) rfl rfl rfl ?_; refine .val (.loadBA (vs := [wv, pv, vi r.table.wrong]) rfl (.tail _ (.head _)) rfl rfl) rfl rfl rfl ?_; refine .val (.fieldAddrB rfl) rfl rfl rfl ?_; refine .val (.loadB rfl (.head _) rfl) rfl rfl rfl ?_; refine .val (.cast (.call rfl (fun m hm => isTruth_any (hTab.le (by repeat (first | exact hm.1 | replace hm := hm.2))) hst (hO.le (by repeat (first | exact hm.1 | replace hm := hm.2))))) (congrArg Value.bool htb)) rfl rfl rfl ?_
    iterate 2 refine .o rfl rfl rfl rfl ?_
    refine WL.splitB rfl rfl (fun g12 => ?_) (fun g12 => ?_)
    · refine WL.pass rfl rfl rfl ?_
      refine WL.pass rfl rfl rfl ?_; refine WL.pass rfl rfl rfl ?_; refine WL.pass rfl rfl rfl ?_; refine WL.pass rfl rfl rfl ?_; refine WL.pass rfl rfl rfl ?_; refine WL.pass rfl rfl rfl ?_; refine .o rfl rfl rfl rfl ?_; refine WL.nil ?_
      exact Keff.intro ⟨rfl, rfl, congrArg (fun b => some (Value.bool b)) (by first | exact (by first | (simp [-List.getD_eq_getElem?_getD]; done) | (simp_all [-List.getD_eq_getElem?_getD]; done) | (simp [-List.getD_eq_getElem?_getD]; omega) | (rw [Bool.eq_iff_iff]; simp [-List.getD_eq_getElem?_getD]; omega) | (simp [-List.getD_eq_getElem?_getD] at *; omega)) | simp [*]), trivial⟩ (by simp) (by repeat (first | exact List.Sublist.refl _ | refine List.Sublist.cons _ ?_ | refine List.Sublist.cons_cons _ ?_))
    · refine .val (.fieldAddrB rfl) rfl rfl rfl ?_
      refine .val (.loadB rfl (.head _) rfl) rfl rfl rfl ?_; refine .val (.len rfl hH) rfl rfl rfl ?_; refine .val (.fieldAddrB rfl) rfl rfl rfl ?_; refine .val (.loadB rfl (.tail _ (.head _)) rfl) rfl rfl rfl ?_; refine .val (.len rfl hT) rfl rfl rfl ?_
      refine .val (.cast (.opv rfl) (show _ = Value.bool (!decide (q.hours.length = r.tn)) from congrArg (fun b => Value.bool (!b)) (decide_eq_decide.2 (by unfold House.tn; omega)))) rfl rfl rfl ?_
      refine .o rfl rfl rfl rfl ?_; refine WL.nil ?_
      exact Keff.intro ⟨rfl, rfl, congrArg (fun b => some (Value.bool b)) (by first | exact (by first | (simp [-List.getD_eq_getElem?_getD]; done) | (simp_all [-List.getD_eq_getElem?_getD]; done) | (simp [-List.getD_eq_getElem?_getD]; omega) | (rw [Bool.eq_iff_iff]; simp [-List.getD_eq_getElem?_getD]; omega) | (simp [-List.getD_eq_getElem?_getD] at *; omega)) | simp [*]), trivial⟩ (by simp) (by repeat (first | exact List.Sublist.refl _ | refine List.Sublist.cons _ ?_ | refine List.Sublist.cons_cons _ ?_))
  refine Kseq.go ?_
  refine W.cond rfl rfl (fun hb => ?_) (fun hb => ?_)
  · have hno : isCourse r q = false := by
      unfold isCourse
      rw [Bool.not_eq_true'] at hb
      rw [htb, hb]; rfl
    refine W.seq ?_; refine W.region ?_; refine .o rfl rfl rfl rfl ?_; refine WL.nil ?_; refine Kseq.go ?_
    refine W.ret ?_; refine Kseq.ret ?_; refine ⟨.inl rfl, [_], h, ⟨.tmp rfl, trivial⟩, (by repeat constructor), ?_⟩
    rw [hno]; rfl
  rw [Bool.not_eq_false', Bool.and_eq_true, decide_eq_true_eq] at hb
  obtain ⟨hb1, hb2⟩ := hb
  have hcr : isCourse r q = !ex q.hours.length (hourBadR r q) := by unfold isCourse; rw [htb, hb1, decide_eq_true hb2]; rfl
  refine W.skip (Kseq.go (W.seq (W.seq ?_)))
  refine W.region ?_; refine .o rfl rfl rfl rfl ?_; refine WL.nil ?_
  refine Kseq.go (W.block ?_)
  refine W.loop (σ := Nat) (fun k => [(2, .pointer (some ⟨b2, 0, none⟩)), (3, .pointer (some ⟨b3, 0, none⟩)), (5, vi (k : Int))]) (fun _ => [h]) (fun _ => [.blk b3 #[ov, hv2] 76, .blk b2 (hcs wv pv kv tv bv sv r) 31])
    (fun k => k ≤ q.hours.length ∧ ∀ i, i < k → hourBadR r q i = false) (fun k => q.hours.length - k) 0 ⟨rfl, rfl, rfl, trivial⟩ (by simp) (.refl _) ⟨Nat.zero_le _, fun i hi => absurd hi (Nat.not_lt_zero _)⟩ ?_
  rintro k ⟨hk, hall⟩
  refine W.seq (W.seq ?_)
  refine W.region ?_; refine .o rfl rfl rfl rfl ?_; refine .val (.fieldAddrB rfl) rfl rfl rfl ?_; refine .val (.loadB rfl (.head _) rfl) rfl rfl rfl ?_; refine .val (.len rfl hH) rfl rfl rfl ?_; refine .o rfl rfl rfl rfl ?_; refine WL.nil ?_; refine Kseq.go ?_
  refine W.condD rfl rfl (fun hlt => ?_) (fun hge => ?_)
  · have hkl : k < q.hours.length := by omega
    have hkt : k < r.touches.length := by rw [hb2] at hkl; exact hkl
    refine W.skip (Kseq.go (W.seq (W.block (W.seq ?_))))
    refine W.draw 19 (by kernel_rfl) (by kernel_rfl) (by kernel_rfl) rfl ?_; refine .val [] (.fieldAddrB rfl) rfl rfl rfl rfl ?_; refine .val [] (.loadB rfl (.head _) rfl) rfl rfl rfl rfl ?_; refine .val [] (.opv rfl) rfl rfl rfl rfl ?_; refine .val [] (.indexAddrN rfl rfl hH hkl) rfl rfl rfl rfl ?_; refine .val [] (.loadE rfl hH (by repeat constructor) hkl (by omega)) rfl rfl rfl rfl ?_; refine .val [] (.fieldAddrB rfl) rfl rfl rfl rfl ?_; refine .val [] (.loadB rfl (.tail _ (.head _)) rfl) rfl rfl rfl rfl ?_; refine .val [] (.opv rfl) rfl rfl rfl rfl ?_; refine .val [] (.indexAddrN rfl rfl hT hkt) rfl rfl rfl rfl ?_; refine .val [] (.fieldAddrN rfl hT hkt) rfl rfl rfl rfl ?_; refine .val [] (.fieldAddrN rfl hT hkt) rfl rfl rfl rfl ?_; refine .val [] (.loadE rfl hT (by repeat constructor) hkt (by omega)) rfl rfl rfl rfl ?_; refine .val [] (.fieldAddrB rfl) rfl rfl rfl rfl ?_; refine .val [] (.loadB rfl (.tail _ (.head _)) rfl) rfl rfl rfl rfl ?_
    refine .val [] (.opv rfl) rfl rfl rfl rfl ?_; refine .val [] (.indexAddrN rfl rfl hT hkt) rfl rfl rfl rfl ?_; refine .val [] (.fieldAddrN rfl hT hkt) rfl rfl rfl rfl ?_; refine .val [] (.fieldAddrN rfl hT hkt) rfl rfl rfl rfl ?_; refine .val [] (.loadE rfl hT (by repeat constructor) hkt (by omega)) rfl rfl rfl rfl ?_; refine DJ.nil ?_; refine .val (.call rfl (fun m hm => in_any _ _ _)) rfl rfl rfl ?_; refine .o rfl rfl rfl rfl ?_; refine WL.nil ?_; refine Kseq.go ?_
    refine W.cond rfl rfl (fun hb => ?_) (fun hb => ?_)
    · have hno : isCourse r q = false := by rw [hcr, ex_iff.2 ⟨k, hkl, hb⟩]; rfl
      refine W.seq ?_; refine W.region ?_; refine .o rfl rfl rfl rfl ?_; refine WL.nil ?_; refine Kseq.go ?_
      refine W.ret ?_; refine Kblock.ret (Kseq.ret (Kloop.ret (Kblock.ret (Kseq.ret ?_)))); refine ⟨.inl rfl, [_], h, ⟨.tmp rfl, trivial⟩, (by repeat constructor), ?_⟩
      rw [hno]; rfl
    · refine W.skip (Kblock.normal (Kseq.go ?_))
      refine W.region ?_; refine .o rfl rfl rfl rfl ?_; refine .val (.incr rfl (by omega)) rfl rfl rfl ?_; refine .o rfl rfl rfl rfl ?_; refine WL.nil ?_
      refine Kloop.next (k + 1) ⟨hkl, fun i hi => ?_⟩ (by omega) ⟨rfl, rfl, rfl, trivial⟩ (by simp) (by repeat (first | exact List.Sublist.refl _ | refine List.Sublist.cons _ ?_ | refine List.Sublist.cons_cons _ ?_))
      rcases Nat.lt_succ_iff_lt_or_eq.1 hi with h2 | rfl
      · exact hall i h2
      · exact hb
  · have : k = q.hours.length := by omega
    subst this
    have hyes : isCourse r q = true := by rw [hcr, ex_no.2 hall]; rfl
    refine W.exit (Kseq.exit (Kloop.exit (Kblock.here (Kseq.go (W.seq ?_)))))
    refine W.region ?_; refine .o rfl rfl rfl rfl ?_; refine WL.nil ?_; refine Kseq.go ?_
    refine W.ret ?_; refine ⟨.inl rfl, [_], h, ⟨.tmp rfl, trivial⟩, (by repeat constructor), ?_⟩
    rw [hyes]; rfl
theorem isCourse_fit {r : House} {q : Course} (h : isCourse r q = true) : q.owners.length = r.np ∧ q.hours.length = r.tn := by
  unfold isCourse isTruth at h
  simp only [Bool.and_eq_true, decide_eq_true_eq] at h
  exact ⟨(areOwners_iff.1 h.1.1.1).1, h.1.2⟩
def isTruth6 (r : House) (q : Course) : Bool := isCourse r q && decide (right6 r q = full6 r)
/-- IsTruth -/
theorem isTruthR6_any {h : Mem} {v cv : Value} {r : House} {q : Course} (hv : IsHouse h v r) (hV : ValidH r) (hs : SmH r) (hc : IsCourseV h cv q) : FnV Tryz.prog 66 #[v, cv] h (.bool (isTruth6 r q)) := by
  have hv' := hv
  have hc' := hc
  obtain ⟨wv, pv, kv, tv, bv, sv, f, rfl, hA⟩ := hv
  obtain ⟨ov, hv2, rfl, hO, hH⟩ := hc
  have h5 := hs.signs
  refine FnR.val ?_
  refine FnR.of_W (n := 16) Tryz.func66 rfl rfl (Nat.le_of_ble_eq_true rfl) fun c hr hD hF => ?_
  refine W.seq ?_; refine W.region ?_
  refine WL.box rfl rfl rfl rfl (fun b2 => ?_)
  refine WL.box rfl rfl rfl rfl (fun b3 => ?_)
  refine .o rfl rfl rfl rfl ?_; refine WL.nil ?_
  refine Kseq.go (W.seq ?_)
  cases hic : isCourse r q with
  | false =>
    refine W.draw 8 (by kernel_rfl) (by kernel_rfl) (by kernel_rfl) rfl ?_; refine .val [] (.loadBW rfl (.tail _ (.head _)) rfl) rfl rfl rfl rfl ?_; refine .val [] (.loadBW rfl (.head _) rfl) rfl rfl rfl rfl ?_; refine .val [] (.cast (.call rfl (fun m hm => isCourseR_any (hv'.le (by repeat (first | exact hm.1 | replace hm := hm.2))) hs (hc'.le (by repeat (first | exact hm.1 | replace hm := hm.2))))) (congrArg Value.bool hic)) rfl rfl rfl rfl ?_; refine .val [] (.opv rfl) rfl rfl rfl rfl ?_; refine DJ.pass rfl rfl rfl rfl ?_; refine DJ.pass rfl rfl rfl rfl ?_; refine DJ.pass rfl rfl rfl rfl ?_; refine DJ.pass rfl rfl rfl rfl ?_; refine DJ.nil ?_; refine WL.pass rfl rfl rfl ?_; refine WL.pass rfl rfl rfl ?_
    iterate 2 refine .o rfl rfl rfl rfl ?_
    refine WL.nil ?_; refine Kseq.go ?_
    refine W.ret ?_; refine ⟨.inl rfl, [_], h, ⟨.tmp rfl, trivial⟩, (by repeat constructor), ?_⟩
    exact congrArg Value.bool (by unfold isTruth6; rw [hic]; rfl)
  | true =>
    obtain ⟨hq1, hq2⟩ := isCourse_fit hic
    refine W.draw 8 (by kernel_rfl) (by kernel_rfl) (by kernel_rfl) rfl ?_; refine .val [] (.loadBW rfl (.tail _ (.head _)) rfl) rfl rfl rfl rfl ?_; refine .val [] (.loadBW rfl (.head _) rfl) rfl rfl rfl rfl ?_; refine .val [] (.cast (.call rfl (fun m hm => isCourseR_any (hv'.le (by repeat (first | exact hm.1 | replace hm := hm.2))) hs (hc'.le (by repeat (first | exact hm.1 | replace hm := hm.2))))) (congrArg Value.bool hic)) rfl rfl rfl rfl ?_; refine .val [] (.opv rfl) rfl rfl rfl rfl ?_; refine .val [] (.loadBW rfl (.tail _ (.head _)) rfl) rfl rfl rfl rfl ?_; refine .val [] (.loadBW rfl (.head _) rfl) rfl rfl rfl rfl ?_; refine .val [] (.call rfl (fun m hm => rightR_any6 (hv'.le (by repeat (first | exact hm.1 | replace hm := hm.2))) hV (hc'.le (by repeat (first | exact hm.1 | replace hm := hm.2))) hq1 hq2)) rfl rfl rfl rfl ?_; refine .val [] (.loadBW rfl (.tail _ (.head _)) rfl) rfl rfl rfl rfl ?_
    refine DJ.nil ?_; refine .val (.call rfl (fun m hm => full6R_any (hv'.le (by repeat (first | exact hm.1 | replace hm := hm.2))) (by omega))) rfl rfl rfl ?_; refine .val (.cast (.opv rfl) (show _ = Value.bool (decide (right6 r q = full6 r)) from congrArg Value.bool (decide_eq_decide.2 (by omega)))) rfl rfl rfl ?_
    iterate 2 refine .o rfl rfl rfl rfl ?_
    refine WL.nil ?_; refine Kseq.go ?_
    refine W.ret ?_; refine ⟨.inl rfl, [_], h, ⟨.tmp rfl, trivial⟩, (by repeat constructor), ?_⟩
    exact congrArg Value.bool (by unfold isTruth6; rw [hic]; rfl)
end Go.Proofs.YtdnbkjgbehakpaaGreat
