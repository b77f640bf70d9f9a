/- ProveFewest: its contract; the plain law of the best truth. -/
import Derived.Test.YtbmohbeocnfefaaT42
import Derived.Test.YtbmohbeocnfefaaT38
import Derived.Test.YtbmohbeocnfefaaP9
namespace Go.Proofs.Ytbmohbeocnfefaa
open Go Go.Eng Go.RowKit

/-- ProveFewest -/
theorem proveF_any {h : Mem} {v lv : Value} {t : Table} {l : List Int} (n : Int) (hv : IsTable h v t) (hs : Sm t) (hVa : Valid t) (hl : IsInts h lv l) : FnV Try.prog 20 #[v, lv, .int .i64 n] h (.bool (areOwners t l && (isTruthP t l && decide (((astray t l).length : Int) ≤ n)))) := by
  have hv' := hv
  obtain ⟨wv, pv, f, rfl, hW, hP, hM⟩ := hv
  have hf0 := fault_zero.2 hVa
  refine FnR.val ?_
  refine FnR.of_W (n := 29) Try.func20 rfl rfl (Nat.le_of_ble_eq_true rfl) fun c hr hD hF => ?_
  refine W.seq ?_
  refine W.region ?_
  refine WL.box rfl rfl rfl rfl (fun b3 => ?_)
  refine WL.val (OpVal.opv rfl) rfl rfl rfl ?_
  refine WL.nil ?_
  refine Kseq.go (W.seq ?_)
  refine W.freezeBox (.head _) (fun b hb => (hF b hb).elim) fun m2 h2 => ?_
  skip
  refine W.region ?_
  refine WL.val (OpVal.loadPW rfl (by assumption) (by repeat (first | exact .head _ | refine .tail _ ?_)) (by rfl)) rfl rfl rfl ?_
  refine WL.val (OpVal.opv rfl) rfl rfl rfl ?_
  refine WL.abs (OpAbs.call rfl (fun m hm => listed_any (hv'.le (by repeat (first | exact hm.1 | replace hm := hm.2))) hs hVa.pieces (hl.le (by repeat (first | exact hm.1 | replace hm := hm.2))))) rfl rfl rfl ?_
  rintro m12 _ ⟨q, hq7, rfl, hq⟩
  have hqs : (q.map vi).toArray.size = 7 := by rw [List.size_toArray, List.length_map]; exact hq7
  refine WL.val (OpVal.opv rfl) rfl rfl rfl ?_
  refine WL.val (OpVal.opv rfl) rfl rfl rfl ?_
  refine WL.val (OpVal.opv rfl) rfl rfl rfl ?_
  refine WL.alloc rfl rfl rfl (fun b7 => ?_)
  (refine WL.storeAll rfl (.head _) rfl rfl hqs (by rfl) (by simp [Value.oneCell']) ?_)
  refine WL.val (OpVal.opv rfl) rfl rfl rfl ?_
  refine WL.nil ?_
  refine Kseq.go (W.seq ?_)
  cases hA : areOwners t l with
  | false =>
    skip
    refine W.region ?_
    refine WL.val (OpVal.opv rfl) rfl rfl rfl ?_
    refine WL.val (OpVal.opv rfl) rfl rfl rfl ?_
    refine WL.pass rfl rfl rfl ?_
    refine WL.pass rfl rfl rfl ?_
    refine WL.pass rfl rfl rfl ?_
    refine WL.val (OpVal.opv rfl) rfl rfl rfl ?_
    refine WL.val (OpVal.opv rfl) rfl rfl rfl ?_
    refine WL.pass rfl rfl rfl ?_
    refine WL.pass rfl rfl rfl ?_
    refine WL.pass rfl rfl rfl ?_
    refine WL.pass rfl rfl rfl ?_
    refine WL.pass rfl rfl rfl ?_
    refine WL.pass rfl rfl rfl ?_
    refine WL.val (OpVal.opv rfl) rfl rfl rfl ?_
    refine WL.val (OpVal.opv rfl) rfl rfl rfl ?_
    refine WL.nil ?_
    refine Kseq.go ?_
    refine W.ret ?_; skip; refine ⟨.inl rfl, [_], h, ⟨.tmp rfl, trivial⟩, (by repeat (first | exact .head _ | refine .tail _ ?_)), ?_⟩
    rfl
  | true =>
    have ho := owns_of hA hVa.pieces
    cases hq hA
    cases hT : isTruthP t l with
    | false =>
      skip
      refine W.region ?_
      refine WL.val (OpVal.opv rfl) rfl rfl rfl ?_
      refine WL.val (OpVal.opv rfl) rfl rfl rfl ?_
      refine WL.val (OpVal.loadPW rfl (by assumption) (by repeat (first | exact .head _ | refine .tail _ ?_)) (by rfl)) rfl rfl rfl ?_
      refine WL.val (OpVal.opv rfl) rfl rfl rfl ?_
      refine WL.val (OpVal.cast (OpVal.call rfl (fun m hm => proveT_any (hv'.le (by repeat (first | exact hm.1 | replace hm := hm.2))) hs (hl.le (by repeat (first | exact hm.1 | replace hm := hm.2))))) (congrArg Value.bool (show (decide (fault t = 0) && (areOwners t l && isTruthP t l)) = false by rw [hT]; simp))) rfl rfl rfl ?_
      refine WL.val (OpVal.opv rfl) rfl rfl rfl ?_
      refine WL.val (OpVal.opv rfl) rfl rfl rfl ?_
      refine WL.pass rfl rfl rfl ?_
      refine WL.pass rfl rfl rfl ?_
      refine WL.pass rfl rfl rfl ?_
      refine WL.pass rfl rfl rfl ?_
      refine WL.pass rfl rfl rfl ?_
      refine WL.pass rfl rfl rfl ?_
      refine WL.val (OpVal.opv rfl) rfl rfl rfl ?_
      refine WL.val (OpVal.opv rfl) rfl rfl rfl ?_
      refine WL.nil ?_
      refine Kseq.go ?_
      refine W.ret ?_; skip; refine ⟨.inl rfl, [_], h, ⟨.tmp rfl, trivial⟩, (by repeat (first | exact .head _ | refine .tail _ ?_)), ?_⟩
      rfl
    | true =>
      skip
      refine W.region ?_
      refine WL.val (OpVal.opv rfl) rfl rfl rfl ?_
      refine WL.val (OpVal.opv rfl) rfl rfl rfl ?_
      refine WL.val (OpVal.loadPW rfl (by assumption) (by repeat (first | exact .head _ | refine .tail _ ?_)) (by rfl)) rfl rfl rfl ?_
      refine WL.val (OpVal.opv rfl) rfl rfl rfl ?_
      refine WL.val (OpVal.cast (OpVal.call rfl (fun m hm => proveT_any (hv'.le (by repeat (first | exact hm.1 | replace hm := hm.2))) hs (hl.le (by repeat (first | exact hm.1 | replace hm := hm.2))))) (congrArg Value.bool (show (decide (fault t = 0) && (areOwners t l && isTruthP t l)) = true by rw [hT, hA, hf0]; rfl))) rfl rfl rfl ?_
      refine WL.val (OpVal.opv rfl) rfl rfl rfl ?_
      refine WL.val (OpVal.opv rfl) rfl rfl rfl ?_
      refine WL.val (OpVal.loadPW rfl (by assumption) (by repeat (first | exact .head _ | refine .tail _ ?_)) (by rfl)) rfl rfl rfl ?_
      refine WL.val (OpVal.loadBW rfl (.head _) hqs) rfl rfl rfl ?_
      refine WL.abs (OpAbs.call rfl (fun m hm => astrayP_any (hv'.le (by repeat (first | exact hm.1 | replace hm := hm.2))) hs ho)) rfl rfl rfl ?_
      rintro m24 v24 h24
      refine WL.val (OpVal.len rfl (by assumption)) rfl rfl rfl ?_
      refine WL.val (OpVal.opv rfl) rfl rfl rfl ?_
      refine WL.val (OpVal.opv rfl) rfl rfl rfl ?_
      refine WL.val (OpVal.opv rfl) rfl rfl rfl ?_
      refine WL.val (OpVal.opv rfl) rfl rfl rfl ?_
      refine WL.nil ?_
      refine Kseq.go ?_
      refine W.ret ?_; skip; refine ⟨.inl rfl, [_], h, ⟨.tmp rfl, trivial⟩, (by repeat (first | exact .head _ | refine .tail _ ?_)), ?_⟩
      rfl

/-! ### The best truth -/
/-! ### The pieces behind the first moves -/
def aAt (t : Table) (x : List Int) (j : Nat) : Nat := ((astray t x).getD j 0).toNat
def ysTo (t : Table) (x : List Int) : Nat → List Piece
  | 0 => t.pieces
  | j + 1 => setB (ysTo t x j) (aAt t x j) (x.getD (aAt t x j) 0)
def behind (t : Table) (x : List Int) : Table := ⟨t.women, ysTo t x (astray t x).length, t.wrong⟩
end Go.Proofs.Ytbmohbeocnfefaa
