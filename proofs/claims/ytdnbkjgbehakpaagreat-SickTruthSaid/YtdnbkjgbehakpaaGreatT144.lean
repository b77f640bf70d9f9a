/- The statements' functions of chapter 6: word, Listed, Ordered; SickNoFewer. -/
import Derived.Test.YtdnbkjgbehakpaaGreatP39
import Derived.Test.YtdnbkjgbehakpaaGreatT36
import Derived.Test.YtdnbkjgbehakpaaGreatT137
import Derived.Test.YtdnbkjgbehakpaaGreatT134
namespace Go.Proofs.YtdnbkjgbehakpaaGreat
open Go Go.Eng Go.RowKit

/-- word -/
theorem word6_any {h : Mem} {wv : Value} {ws : List Nat} (k : Nat) (hw : IsU16s h wv ws) : FnV Tryz.prog 123 #[wv, vi k] h (vi (wordAt ws k)) := by
  obtain ⟨hv, hb⟩ := hw
  have hlen := IsArr.len hv
  unfold maxLen at hlen
  refine FnR.val ?_
  refine FnR.of_W (n := 16) Tryz.func123 rfl rfl (Nat.le_of_ble_eq_true rfl) fun c hr hD hF => ?_
  refine W.seq ?_; refine W.region ?_; refine .o rfl ?_; refine WL.nil ?_
  refine Kseq.go (W.seq (W.seq ?_))
  refine W.region ?_; refine .o rfl ?_; refine .val (.len rfl hv) rfl rfl rfl ?_; refine .o rfl ?_; refine WL.nil ?_; refine Kseq.go ?_
  refine W.condD rfl rfl (fun he => ?_) (fun hne => ?_)
  · refine W.seq ?_
    refine W.region ?_; refine .o rfl ?_; refine WL.nil ?_; refine Kseq.go ?_
    refine W.ret ?_; refine Kseq.ret ?_; refine ⟨.inl rfl, [_], h, ⟨.tmp rfl, trivial⟩, (by repeat constructor), ?_⟩
    unfold wordAt
    rw [if_pos (by omega)]; rfl
  · have hk : k % ws.length < ws.length := Nat.mod_lt _ (by omega)
    have hx : ws.getD (k % ws.length) 0 < 65536 := by
      rw [List.getD_eq_getElem?_getD, List.getElem?_eq_getElem hk]
      exact hb _ (List.getElem_mem _)
    refine W.skip (Kseq.go (W.seq ?_))
    refine W.region ?_
    iterate 3 refine .o rfl ?_
    refine .val (.len rfl hv) rfl rfl rfl ?_; refine .val (.cast (.rem rfl rfl (by omega) (by omega)) (show vi ((k : Int) % (ws.length : Int)) = vi ((k % ws.length : Nat) : Int) from rfl)) rfl rfl rfl ?_; refine .val (.indexAddrN rfl rfl hv (by omega)) rfl rfl rfl ?_; refine .val (.loadE rfl hv (by repeat constructor) (by omega) (by omega)) rfl rfl rfl ?_; refine .val (.conv rfl (i64_in (by omega) (by omega))) rfl rfl rfl ?_; refine .o rfl ?_; refine WL.nil ?_; refine Kseq.go ?_
    refine W.ret ?_; refine ⟨.inl rfl, [_], h, ⟨.tmp rfl, trivial⟩, (by repeat constructor), ?_⟩
    unfold wordAt
    rw [if_neg (by omega)]; rfl
end Go.Proofs.YtdnbkjgbehakpaaGreat
