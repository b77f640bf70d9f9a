/- The reference's comparison of walks: its contract. -/
import Derived.Test.YtjligncpaeeljaaGreatT76
namespace Go.Proofs.YtjligncpaeeljaaGreat
open Go Go.Eng Go.RowKit

/-- ref.Better -/
theorem betterR_any {h : Mem} {av bv : Value} {a b : List Int} (x y : Int) (ha : IsInts h av a) (hb : IsInts h bv b) : FnV Tryz.prog 61 #[av, vi x, bv, vi y] h (.bool (better a x b y)) := by
  have hab := ha.bd
  have hbb := hb.bd
  refine FnR.val ?_
  refine FnR.of_W (n := 32) Tryz.func61 rfl rfl (Nat.le_of_ble_eq_true rfl) fun c hr hD hF => ?_
  refine W.seq ?_
  refine W.region ?_
  refine WL.val (OpVal.opv rfl) rfl rfl rfl ?_
  refine WL.nil ?_
  refine Kseq.go (W.seq (W.seq ?_))
  skip
  refine W.region ?_
  refine WL.val (OpVal.opv rfl) rfl rfl rfl ?_
  refine WL.val (OpVal.len rfl (by assumption)) rfl rfl rfl ?_
  refine WL.val (OpVal.opv rfl) rfl rfl rfl ?_
  refine WL.val (OpVal.len rfl (by assumption)) rfl rfl rfl ?_
  refine WL.val (OpVal.opv rfl) rfl rfl rfl ?_
  refine WL.nil ?_
  refine Kseq.go ?_
  refine W.cond rfl rfl (fun he => ?_) (fun hne => ?_)
  · refine W.seq ?_
    refine W.region ?_
    refine WL.val (OpVal.opv rfl) rfl rfl rfl ?_
    refine WL.val (OpVal.len rfl (by assumption)) rfl rfl rfl ?_
    refine WL.val (OpVal.opv rfl) rfl rfl rfl ?_
    refine WL.val (OpVal.len rfl (by assumption)) rfl rfl rfl ?_
    refine WL.val (OpVal.opv rfl) rfl rfl rfl ?_
    refine WL.val (OpVal.opv rfl) rfl rfl rfl ?_
    refine WL.nil ?_
    refine Kseq.go ?_
    refine W.ret ?_; refine Kseq.ret ?_; refine ⟨.inl rfl, [_], h, ⟨.tmp rfl, trivial⟩, (by repeat (first | exact .head _ | refine .tail _ ?_)), ?_⟩
    have : a.length ≠ b.length := by simp at he; omega
    unfold better
    rw [if_pos this]
    exact congrArg Value.bool (decide_eq_decide.2 (by omega))
  · have he : a.length = b.length := by simp at hne; omega
    refine W.skip (Kseq.go (W.seq ?_))
    skip
    refine W.region ?_
    refine WL.val (OpVal.opv rfl) rfl rfl rfl ?_
    refine WL.val (OpVal.opv rfl) rfl rfl rfl ?_
    refine WL.val (OpVal.opv rfl) rfl rfl rfl ?_
    refine WL.val (OpVal.opv rfl) rfl rfl rfl ?_
    refine WL.split rfl rfl (fun g22 => ?_) (fun g22 => ?_)
    · refine WL.pass rfl rfl rfl ?_
      refine WL.pass rfl rfl rfl ?_
      refine WL.pass rfl rfl rfl ?_
      refine WL.pass rfl rfl rfl ?_
      refine WL.pass rfl rfl rfl ?_
      refine WL.pass rfl rfl rfl ?_
      refine WL.pass rfl rfl rfl ?_
      refine WL.pass rfl rfl rfl ?_
      refine WL.val (OpVal.opv rfl) rfl rfl rfl ?_
      refine WL.val (OpVal.opv rfl) rfl rfl rfl ?_
      refine WL.nil ?_
      refine Kseq.go ?_
      (refine W.ret ?_; skip; refine ⟨.inl rfl, [_], h, ⟨.tmp rfl, trivial⟩, (by repeat (first | exact .head _ | refine .tail _ ?_)), ?_⟩; exact congrArg Value.bool (by unfold better; rw [if_neg (by omega)]; first | (simp_all; done) | (simp_all; omega)))
    · refine WL.val (OpVal.opv rfl) rfl rfl rfl ?_
      refine WL.val (OpVal.opv rfl) rfl rfl rfl ?_
      refine WL.val (OpVal.opv rfl) rfl rfl rfl ?_
      refine WL.val (OpVal.opv rfl) rfl rfl rfl ?_
      refine WL.split rfl rfl (fun g26 => ?_) (fun g26 => ?_)
      · refine WL.val (OpVal.opv rfl) rfl rfl rfl ?_
        refine WL.val (OpVal.opv rfl) rfl rfl rfl ?_
        refine WL.val (OpVal.call rfl (fun m hm => before_any (ha.le (by repeat (first | exact hm.1 | replace hm := hm.2))) (hb.le (by repeat (first | exact hm.1 | replace hm := hm.2))))) rfl rfl rfl ?_
        refine WL.val (OpVal.opv rfl) rfl rfl rfl ?_
        refine WL.val (OpVal.opv rfl) rfl rfl rfl ?_
        refine WL.val (OpVal.opv rfl) rfl rfl rfl ?_
        refine WL.nil ?_
        refine Kseq.go ?_
        (refine W.ret ?_; skip; refine ⟨.inl rfl, [_], h, ⟨.tmp rfl, trivial⟩, (by repeat (first | exact .head _ | refine .tail _ ?_)), ?_⟩; exact congrArg Value.bool (by unfold better; rw [if_neg (by omega)]; first | (simp_all; done) | (simp_all; omega)))
      · refine WL.pass rfl rfl rfl ?_
        refine WL.pass rfl rfl rfl ?_
        refine WL.pass rfl rfl rfl ?_
        refine WL.val (OpVal.opv rfl) rfl rfl rfl ?_
        refine WL.val (OpVal.opv rfl) rfl rfl rfl ?_
        refine WL.val (OpVal.opv rfl) rfl rfl rfl ?_
        refine WL.nil ?_
        refine Kseq.go ?_
        (refine W.ret ?_; skip; refine ⟨.inl rfl, [_], h, ⟨.tmp rfl, trivial⟩, (by repeat (first | exact .head _ | refine .tail _ ?_)), ?_⟩; exact congrArg Value.bool (by unfold better; rw [if_neg (by omega)]; first | (simp_all; done) | (simp_all; omega)))
end Go.Proofs.YtjligncpaeeljaaGreat
