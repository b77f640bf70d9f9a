/- The statement SickLeft: its contract. -/
import Derived.Test.YtdnbkjgbehakpaaGreatT134
namespace Go.Proofs.YtdnbkjgbehakpaaGreat
open Go Go.Eng Go.RowKit

/-- Full -/
theorem full6R_any {h : Mem} {v : Value} {r : House} (hv : IsHouse h v r) (h5 : r.signs.length ≤ 20) : FnV Tryz.prog 49 #[v] h (vi (full6 r : Nat)) := by
  obtain ⟨wv, pv, kv, tv, bv, sv, f, rfl, hA⟩ := hv
  have hS := hA.S
  have hpp : 2 ^ r.signs.length ≤ 2 ^ 20 := Nat.pow_le_pow_right (by omega) h5
  have hpos : 0 < 2 ^ r.signs.length := Nat.pow_pos (by omega)
  have e1 : (1 : Int) * 2 ^ r.signs.length = ((2 ^ r.signs.length : Nat) : Int) := by rw [Int.one_mul]; exact (Int.natCast_pow 2 _).symm
  refine FnR.val ?_
  refine FnR.of_W (n := 9) Tryz.func49 rfl rfl (Nat.le_of_ble_eq_true rfl) fun c hr hD hF => ?_
  refine W.seq ?_; refine W.region ?_
  refine WL.box rfl rfl rfl rfl (fun b1 => ?_)
  refine .o rfl ?_; refine WL.nil ?_
  refine Kseq.go (W.seq ?_)
  refine W.region ?_; refine .val (.fieldAddrB rfl) rfl rfl rfl ?_; refine .val (.loadB rfl (.head _) rfl) rfl rfl rfl ?_; refine .val (.len rfl hS) rfl rfl rfl ?_; refine .val (.conv rfl (wrap_u64 (by omega) (by omega))) rfl rfl rfl ?_
  refine .val ((OpVal.shl rfl rfl (by omega) (by rw [e1]; omega) (by rw [e1]; omega)).cast (congrArg (Value.int .i64) e1)) rfl rfl rfl ?_
  refine .val (.cast (.sub rfl rfl (by omega) (by omega)) (congrArg (Value.int .i64) (show ((2 ^ r.signs.length : Nat) : Int) - 1 = ((full6 r : Nat) : Int) by unfold full6; omega))) rfl rfl rfl ?_
  refine .o rfl ?_; refine WL.nil ?_; refine Kseq.go ?_
  refine W.ret ?_; refine ⟨.inl rfl, [_], h, ⟨.tmp rfl, trivial⟩, (by repeat constructor), ?_⟩
  rfl
end Go.Proofs.YtdnbkjgbehakpaaGreat
