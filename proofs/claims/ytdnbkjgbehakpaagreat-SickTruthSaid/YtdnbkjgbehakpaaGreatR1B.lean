/- Opening of the statements' arguments: words. -/
import Derived.Test.YtdnbkjgbehakpaaGreatR1
import Derived.Test.YtdnbkjgbehakpaaGreatT36
namespace Go.Proofs.YtdnbkjgbehakpaaGreat
open Go Go.Eng Go.RowKit

section
variable {W : World}
theorem opn_u16 : Opn Tryz.prog W 73 1 (fun cs => ∃ n, cs = [.int .u16 n] ∧ (Lit.int .u16 n).wf = true) := Opn.int Tryz.underlying73 (by kernel_rfl)
def IsU (W : World) (cs : List Value) : Prop := ∃ v ws, cs = [v] ∧ IsU16s (whole W) v ws
theorem opn_u16s : Opn Tryz.prog W 111 1 (IsU W) := (Opn.slice Tryz.underlying111 (by kernel_rfl) (by omega) opn_u16).to fun cs _ ⟨v, n, es, h1, h2, h3⟩ => by
  obtain ⟨xs, hx, hq⟩ := list_of (n := n) (Q := fun i (x : Nat) => es i = [.int .u16 (x : Int)] ∧ x < 65536) fun i hi => by
    obtain ⟨_, x, hx, hwf⟩ := h3 i hi
    obtain ⟨k, rfl, hk⟩ := u16_nat hwf
    exact ⟨k, hx, hk⟩

  refine ⟨v, xs, h1, ?_, fun w hw => ?_⟩
  · rw [hx]
    refine h2.congr fun i j hi hj => ?_
    have : j = 0 := by omega
    subst this
    rw [(hq i hi).1]; rfl
  · obtain ⟨i, hi, rfl⟩ := List.mem_iff_getElem.1 hw
    have := (hq i (by omega)).2
    rw [List.getD_eq_getElem?_getD, List.getElem?_eq_getElem hi] at this
    simpa using this
set_option maxRecDepth 100000 in
/-- Words as arguments. -/
theorem open_u16s {H : Type} {enc : TypeId × Value → H} {r : Reach} {b0 : Nat} {v : Value} {d : DataW H} {ps : List MemPlace} (hval : Value.okWide Tryz.prog W r b0 111 v) (hd : DataW.Trod enc Tryz.prog W 0 (fun _ => true) true 111 v d ps) : ∃ ws, IsU16s (whole W) v ws := by
  obtain ⟨a, n, cp, rfl⟩ := Go.WideShapes.okWide_slice Tryz.underlying111 hval
  obtain ⟨fuel, hf⟩ := hd
  obtain ⟨_, _, v, xs, e, hx⟩ := opn_u16s.2 H enc _ _ fuel _ _ hf
  simp [Value.cells] at e
  subst e
  exact ⟨xs, hx⟩
end
end Go.Proofs.YtdnbkjgbehakpaaGreat
