/- The statements' helpers of chapter 3: their contracts. -/
import Derived.Test.YtbmohbeocnfefaaT30
namespace Go.Proofs.Ytbmohbeocnfefaa
open Go Go.Eng Go.RowKit

section
variable {P : Program} {n : Nat} {c : Cx P n} {l : List (Nat × Value)} {Ms : List Mem} {μ : List Res} {dst : Option Tmp} {x y : Operand} {t t' ty : TypeId} {pos : String} {af : Array Edge} {gd : Option (Nat × Bool)}
end
/-- ready -/
def readyB (t : Table) : Bool := ThinB t && decide (fault t = 0)
theorem readyB_iff {t : Table} : readyB t = true ↔ ThinB t = true ∧ Valid t := by unfold readyB; rw [Bool.and_eq_true, decide_eq_true_eq, fault_zero]
theorem ready_any {h : Mem} {v : Value} {t : Table} (hv : IsTable h v t) : FnV Try.prog 5 #[v] h (.bool (readyB t)) := by
  have hv' := hv
  obtain ⟨wv, pv, f, rfl, hW, hP, hM⟩ := hv
  refine FnR.val ?_
  refine FnR.of_W (n := 10) Try.func5 rfl rfl (Nat.le_of_ble_eq_true rfl) fun c hr hD hF => ?_
  refine W.seq ?_
  refine W.region ?_
  refine WL.box rfl rfl rfl rfl (fun b1 => ?_)
  refine WL.val (OpVal.opv rfl) rfl rfl rfl ?_
  refine WL.nil ?_
  refine Kseq.go (W.seq ?_)
  skip
  refine W.toS [(2, .bool (readyB t))] ?_ ?_
  · skip
    refine W.region ?_
    refine WL.val (OpVal.loadBW rfl (.head _) rfl) rfl rfl rfl ?_
    refine WL.val (OpVal.call rfl (fun m hm => thin_any (hv'.le (by repeat (first | exact hm.1 | replace hm := hm.2))))) rfl rfl rfl ?_
    refine WL.val (OpVal.opv rfl) rfl rfl rfl ?_
    refine WL.splitB rfl rfl (fun g5 => ?_) (fun g5 => ?_)
    · refine WL.val (OpVal.loadBW rfl (.head _) rfl) rfl rfl rfl ?_
      refine WL.val (OpVal.call rfl (fun m hm => faultR_any (hv'.le (by repeat (first | exact hm.1 | replace hm := hm.2))) (ThinB.sm (by assumption)))) rfl rfl rfl ?_
      refine WL.val (OpVal.opv rfl) rfl rfl rfl ?_
      refine WL.val (OpVal.opv rfl) rfl rfl rfl ?_
      refine WL.val (OpVal.opv rfl) rfl rfl rfl ?_
      refine WL.nil ?_
      skip
      exact Keff.intro ⟨congrArg (fun b => some (Value.bool b)) (by simp [readyB, *]), trivial⟩ (fun _ h => h) (by repeat (first | exact List.Sublist.refl _ | refine List.Sublist.cons _ ?_ | refine List.Sublist.cons_cons _ ?_))
    · refine WL.pass rfl rfl rfl ?_
      refine WL.pass rfl rfl rfl ?_
      refine WL.pass rfl rfl rfl ?_
      refine WL.val (OpVal.opv rfl) rfl rfl rfl ?_
      refine WL.val (OpVal.opv rfl) rfl rfl rfl ?_
      refine WL.nil ?_
      skip
      exact Keff.intro ⟨congrArg (fun b => some (Value.bool b)) (by simp [readyB, *]), trivial⟩ (fun _ h => h) (by repeat (first | exact List.Sublist.refl _ | refine List.Sublist.cons _ ?_ | refine List.Sublist.cons_cons _ ?_))
  refine Kseq.go ?_
  refine W.ret ?_; skip; refine ⟨.inl rfl, [_], h, ⟨.tmp rfl, trivial⟩, (by repeat (first | exact .head _ | refine .tail _ ?_)), ?_⟩
  rfl

/-- swap -/
def swapI (n a b : Int) : Int := if n = a then b else if n = b then a else n
theorem swap_any {h : Mem} (n a b : Int) : FnV Try.prog 7 #[.int .i64 n, .int .i64 a, .int .i64 b] h (vi (swapI n a b)) := by
  refine FnR.val ?_
  refine FnR.of_W (n := 16) Try.func7 rfl rfl (Nat.le_of_ble_eq_true rfl) fun c hr hD hF => ?_
  refine W.seq ?_
  refine W.region ?_
  refine WL.val (OpVal.opv rfl) rfl rfl rfl ?_
  refine WL.nil ?_
  refine Kseq.go (W.seq (W.seq ?_))
  skip
  refine W.region ?_
  refine WL.val (OpVal.opv rfl) rfl rfl rfl ?_
  refine WL.val (OpVal.opv rfl) rfl rfl rfl ?_
  refine WL.val (OpVal.opv rfl) rfl rfl rfl ?_
  refine WL.nil ?_
  refine Kseq.go ?_
  refine W.condD rfl rfl (fun he => ?_) (fun hne => ?_)
  · refine W.seq ?_
    refine W.region ?_
    refine WL.val (OpVal.opv rfl) rfl rfl rfl ?_
    refine WL.val (OpVal.opv rfl) rfl rfl rfl ?_
    refine WL.nil ?_
    refine Kseq.go ?_
    refine W.ret ?_; refine Kseq.ret ?_; refine ⟨.inl rfl, [_], h, ⟨.tmp rfl, trivial⟩, (by repeat (first | exact .head _ | refine .tail _ ?_)), ?_⟩
    exact congrArg vi (if_pos he).symm
  · refine W.skip (Kseq.go (W.seq (W.seq ?_)))
    refine W.region ?_
    refine WL.val (OpVal.opv rfl) rfl rfl rfl ?_
    refine WL.val (OpVal.opv rfl) rfl rfl rfl ?_
    refine WL.val (OpVal.opv rfl) rfl rfl rfl ?_
    refine WL.nil ?_
    refine Kseq.go ?_
    refine W.condD rfl rfl (fun he2 => ?_) (fun hne2 => ?_)
    · refine W.seq ?_
      refine W.region ?_
      refine WL.val (OpVal.opv rfl) rfl rfl rfl ?_
      refine WL.val (OpVal.opv rfl) rfl rfl rfl ?_
      refine WL.nil ?_
      refine Kseq.go ?_
      refine W.ret ?_; refine Kseq.ret ?_; refine ⟨.inl rfl, [_], h, ⟨.tmp rfl, trivial⟩, (by repeat (first | exact .head _ | refine .tail _ ?_)), ?_⟩
      unfold swapI
      rw [if_neg hne, if_pos he2]; rfl
    · refine W.skip (Kseq.go (W.seq ?_))
      refine W.region ?_
      refine WL.val (OpVal.opv rfl) rfl rfl rfl ?_
      refine WL.val (OpVal.opv rfl) rfl rfl rfl ?_
      refine WL.nil ?_
      refine Kseq.go ?_
      refine W.ret ?_; skip; refine ⟨.inl rfl, [_], h, ⟨.tmp rfl, trivial⟩, (by repeat (first | exact .head _ | refine .tail _ ?_)), ?_⟩
      unfold swapI
      rw [if_neg hne, if_neg hne2]; rfl
end Go.Proofs.Ytbmohbeocnfefaa
