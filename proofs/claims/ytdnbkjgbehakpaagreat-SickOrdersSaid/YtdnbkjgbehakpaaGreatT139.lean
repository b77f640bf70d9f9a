/- The reference's functions of chapter 6: Right, IsCourse, IsTruth. -/
import Derived.Test.YtdnbkjgbehakpaaGreatT137
import Derived.Test.YtdnbkjgbehakpaaGreatT135
namespace Go.Proofs.YtdnbkjgbehakpaaGreat
open Go Go.Eng Go.RowKit

section
variable {P : Program} {n : Nat} {c : Cx P n} {l : List (Nat × Value)} {Ms : List Mem} {μ : List Res} {dst : Option Tmp} {x y : Operand} {t t' ty : TypeId} {pos : String} {af : Array Edge} {gd : Option (Nat × Bool)}
theorem OpVal.eqB6 {p q : Bool} [ht : TU P t .bool] (hx : lk l x = some (.bool p)) (hy : lk l y = some (.bool q)) : OpVal c ⟨dst, .binOp .eql t x y t', ty, pos, af, gd⟩ l Ms μ (.bool (decide (p = q))) :=
  OpVal.of_runs (by simp) (by simp) fun a w hh => by
    have h1 : (Op.equal t (.bool p) (.bool q)).run P w = .ok (p == q) w := run_equalIn_bool' w 9999 t p q ht.u
    simp [execOp, hh.lk hx, hh.lk hy, eqGuard, binOp, h1]
    cases p <;> cases q <;> rfl
end
theorem and_one6 {s A : Nat} : (s &&& 2 ^ A ≠ 0) ↔ s.testBit A = true := by
  have h := and_pair (s := s) (A := A) (B := A)
  rw [Nat.or_self] at h
  rw [h]; exact ⟨fun h => h.elim id id, .inl⟩
/-- Right -/
theorem rightR_any6 {h : Mem} {v cv : Value} {r : House} {q : Course} (hv : IsHouse h v r) (hV : ValidH r) (hc : IsCourseV h cv q) (hq1 : q.owners.length = r.np) (hq2 : q.hours.length = r.tn) :
    FnV Tryz.prog 98 #[v, cv] h (vi (right6 r q : Nat)) := by
  have hv' := hv
  have hc' := hc
  obtain ⟨wv, pv, kv, tv, bv, sv, f, rfl, hA⟩ := hv
  obtain ⟨ov, hv2, rfl, hO, hH⟩ := hc
  have hS := hA.S
  have h5 := hV.signN
  have hL := lastN_lt hV hq1 []
  have h10 := hV.th.2.2
  have hp10 : 2 ^ r.th ≤ 2 ^ 10 := Nat.pow_le_pow_right (by omega) h10
  obtain ⟨s, hs⟩ : ∃ s, lastN r q [] = s := ⟨_, rfl⟩
  rw [hs] at hL
  refine FnR.val ?_
  refine FnR.of_W (n := 42) Tryz.func98 rfl rfl (Nat.le_of_ble_eq_true rfl) fun c hr hD hF => ?_
  refine W.seq ?_; refine W.region ?_
  refine WL.box rfl rfl rfl rfl (fun b2 => ?_)
  refine WL.box rfl rfl rfl rfl (fun b3 => ?_)
  refine .o rfl ?_; refine WL.nil ?_
  refine Kseq.go (W.seq ?_)
  refine W.region ?_; refine .val (.loadBW rfl (.tail _ (.head _)) rfl) rfl rfl rfl ?_; refine .val (.loadBW rfl (.head _) rfl) rfl rfl rfl ?_; refine .val (.cast (.call rfl (fun m hm => lastR_any (hv'.le (by repeat first | exact hm.1 | replace hm := hm.2)) hV (hc'.le (by repeat first | exact hm.1 | replace hm := hm.2)) hq1 hq2 (IsBoils.nil m) (by simp))) (show _ = vi (s : Nat) from by rw [hs])) rfl rfl rfl ?_
  iterate 2 refine .o rfl ?_
  refine WL.nil ?_
  refine Kseq.go (W.seq (W.seq ?_))
  refine W.region ?_; refine .o rfl ?_; refine WL.nil ?_
  refine Kseq.go (W.block ?_)
  let p : Nat → Bool := signS r.signs s
  refine W.loop (σ := Nat) (fun i => [(2, .pointer (some ⟨b2, 0, none⟩)), (5, vi (bset i p : Nat)), (6, vi (s : Nat)), (7, vi (i : Int))]) (fun _ => [h]) (fun _ => [.blk b2 (hcs wv pv kv tv bv sv r) 31]) (fun i => i ≤ r.signs.length) (fun i => r.signs.length - i) 0 ⟨rfl, rfl, rfl, rfl, trivial⟩ (by simp) (by repeat first | exact .refl _ | refine .cons _ ?_) (Nat.zero_le _) ?_
  rintro i hi
  try dsimp only at hi ⊢
  have hbl := bset_lt p i
  have hpi : 2 ^ i ≤ 2 ^ 10 := Nat.pow_le_pow_right (by omega) (by omega)
  have hpo : 0 < 2 ^ i := Nat.pow_pos (by omega)
  refine W.seq (W.seq ?_)
  refine W.region ?_; refine .o rfl ?_; refine .val (.fieldAddrB rfl) rfl rfl rfl ?_; refine .val (.loadB rfl (.head _) rfl) rfl rfl rfl ?_; refine .val (.len rfl hS) rfl rfl rfl ?_; refine .o rfl ?_; refine WL.nil ?_; refine Kseq.go ?_
  refine W.condD rfl rfl (fun hlt2 => ?_) (fun hge => ?_)
  · have hil : i < r.signs.length := by omega
    obtain ⟨A, eA, hA10⟩ := hV.signAt hil
    have hpA : 2 ^ A ≤ 2 ^ 10 := Nat.pow_le_pow_right (by omega) (by omega)
    have hpoA : 0 < 2 ^ A := Nat.pow_pos (by omega)
    have hsg : p i = decide (s.testBit A = (r.signs.getD i default).carries) := by show signS r.signs s i = _; unfold signS; rw [eA]; rfl
    refine W.skip (Kseq.go (W.seq (W.block (W.seq ?_))))
    refine W.draw 17 (by kernel_rfl) (by kernel_rfl) (by kernel_rfl) rfl ?_; refine .val [] (.opv rfl) rfl rfl rfl rfl ?_; refine .val [] (.fieldAddrB rfl) rfl rfl rfl rfl ?_; refine .val [] (.loadB rfl (.head _) rfl) rfl rfl rfl rfl ?_; refine .val [] (.opv rfl) rfl rfl rfl rfl ?_; refine .val [] (.indexAddrN rfl rfl hS hil) rfl rfl rfl rfl ?_; refine .val [] (.fieldAddrN rfl hS hil) rfl rfl rfl rfl ?_; refine .val [] (.cast (.loadE rfl hS (by repeat constructor) hil (by omega)) (congrArg (Value.int .i64) eA)) rfl rfl rfl rfl ?_; refine .val [] (.conv rfl (wrap_u64 (by omega) (by omega))) rfl rfl rfl rfl ?_
    refine .val [] ((OpVal.shl rfl rfl (by omega) (by rw [pow_cast]; omega) (by rw [pow_cast]; omega)).cast (congrArg (Value.int .i64) (pow_cast A))) rfl rfl rfl rfl ?_
    refine .val [] (.band rfl rfl (by omega) (by omega)) rfl rfl rfl rfl ?_
    refine .val [] (.cast (.opv rfl) (show _ = Value.bool (s.testBit A) from congrArg Value.bool (by rw [← decide_not, Bool.eq_iff_iff, decide_eq_true_eq, ← and_one6]; omega))) rfl rfl rfl rfl ?_
    refine .val [] (.fieldAddrB rfl) rfl rfl rfl rfl ?_; refine .val [] (.loadB rfl (.head _) rfl) rfl rfl rfl rfl ?_; refine .val [] (.opv rfl) rfl rfl rfl rfl ?_; refine .val [] (.indexAddrN rfl rfl hS hil) rfl rfl rfl rfl ?_; refine .val [] (.fieldAddrN rfl hS hil) rfl rfl rfl rfl ?_; refine .val [] (.cast (.loadE rfl hS (by repeat constructor) hil (by omega)) (show _ = Value.bool (r.signs.getD i default).carries from rfl)) rfl rfl rfl rfl ?_; refine DJ.nil ?_; refine .val (.cast (OpVal.eqB6 rfl rfl) (congrArg Value.bool hsg.symm)) rfl rfl rfl ?_; refine WL.nil ?_; refine Kseq.go ?_
    refine W.cond rfl rfl (fun hb2 => ?_) (fun hb2 => ?_)
    · have e : bset (i + 1) p = bset i p ||| 2 ^ i := by simp only [bset]; rw [if_pos hb2]
      refine W.region ?_
      iterate 2 refine .o rfl ?_
      refine .val (.conv rfl (wrap_u64 (by omega) (by omega))) rfl rfl rfl ?_
      refine .val ((OpVal.shl rfl rfl (by omega) (by rw [pow_cast]; omega) (by rw [pow_cast]; omega)).cast (congrArg (Value.int .i64) (pow_cast i))) rfl rfl rfl ?_
      refine .val (.bor rfl rfl (by omega) (by omega)) rfl rfl rfl ?_; refine .o rfl ?_; refine WL.nil ?_
      refine Kblock.normal (Kseq.go ?_)
      refine W.region ?_; refine .o rfl ?_; refine .val (.incr rfl (by omega)) rfl rfl rfl ?_; refine .o rfl ?_; refine WL.nil ?_
      exact Kloop.next (i + 1) (by omega) (by omega) ⟨rfl, congrArg (fun x : Nat => some (Value.int .i64 (x : Int))) e.symm, rfl, rfl, trivial⟩ (by simp) (by repeat first | exact .refl _ | refine .cons _ ?_)
    · have e : bset (i + 1) p = bset i p := by simp only [bset]; rw [if_neg (by rw [hb2]; exact Bool.false_ne_true)]
      refine W.skip (Kblock.normal (Kseq.go ?_))
      refine W.region ?_; refine .o rfl ?_; refine .val (.incr rfl (by omega)) rfl rfl rfl ?_; refine .o rfl ?_; refine WL.nil ?_
      exact Kloop.next (i + 1) (by omega) (by omega) ⟨rfl, congrArg (fun x : Nat => some (Value.int .i64 (x : Int))) e.symm, rfl, rfl, trivial⟩ (by simp) (by repeat first | exact .refl _ | refine .cons _ ?_)
  · have hii : i = r.signs.length := by omega
    subst hii
    refine W.exit (Kseq.exit (Kloop.exit (Kblock.here (Kseq.go (W.seq ?_)))))
    refine W.region ?_
    iterate 2 refine .o rfl ?_
    refine WL.nil ?_; refine Kseq.go ?_
    refine W.ret ?_; refine ⟨.inl rfl, [_], h, ⟨.tmp rfl, trivial⟩, (by repeat constructor), ?_⟩
    show _ = vi (right6 r q : Nat)
    unfold right6
    rw [hs]; rfl
end Go.Proofs.YtdnbkjgbehakpaaGreat
