/- Opening of the statements' arguments: errands. -/
import Derived.Test.YtppkhehbkoeinaaR1
import Derived.Test.YtppkhehbkoeinaaT60
namespace Go.Proofs.Ytppkhehbkoeinaa
open Go Go.Eng Go.RowKit

section
variable {W : World}
def IsH (W : World) (cs : List Value) : Prop := ∃ v rs, cs = [v] ∧ IsRgs (whole W) v rs
theorem opn_ranges : Opn Try.prog W 52 1 (IsH W) := (Opn.slice Try.underlying52 (by kernel_rfl) (by omega) opn_range).to fun cs _ ⟨v, n, es, h1, h2, h3⟩ => by
  obtain ⟨rs, hx, hq⟩ := list_of (n := n) (Q := fun i (x : Rg) => es i = [.int .i64 x.lo, .int .i64 x.hi]) fun i hi => by
    obtain ⟨hl, h4⟩ := h3 i hi
    generalize es i = l at hl h4
    match l, hl with
    | [b, c], _ =>
      obtain ⟨⟨y, e2, _⟩, ⟨z, e3, _⟩, _⟩ := h4
      simp at e2 e3
      exact ⟨⟨y, z⟩, by rw [e2, e3]⟩
  refine ⟨v, rs, h1, ?_⟩
  unfold IsRgs
  rw [hx]
  refine h2.congr fun i j hi hj => ?_
  rw [hq i hi]
  match j, hj with
  | 0, _ => rfl
  | 1, _ => rfl
def IsE (W : World) (cs : List Value) : Prop := ∃ r, IsErrand (whole W) (.agg cs.toArray) r
theorem opn_errand : Opn Try.prog W 54 7 (IsE W) := (Opn.struct Try.underlying54 (by kernel_rfl) (L := [(3, IsT W), (1, IsH W), (1, IsH W), (1, fun cs => ∃ n, cs = [.int .i64 n] ∧ (Lit.int .i64 n).wf = true), (1, fun cs => ∃ n, cs = [.int .i64 n] ∧ (Lit.int .i64 n).wf = true)]) ⟨rfl, opn_table, rfl, opn_ranges, rfl, opn_ranges, rfl, opn_int, rfl, opn_int, trivial⟩ rfl).to fun cs hl h => by
  match cs, hl with
  | [a, b, c, d, e, f, g], _ =>
    obtain ⟨⟨t, ht⟩, ⟨hv, hs, e1, hh⟩, ⟨sv, ss, e2, hst⟩, ⟨n, e3, _⟩, ⟨k, e4, _⟩, _⟩ := h
    obtain ⟨wv, pv, fm, e5, hw, hp, hm⟩ := ht
    simp at e1 e2 e3 e4 e5
    obtain ⟨rfl, rfl, rfl⟩ := e5
    subst e1 e2 e3 e4
    exact ⟨⟨t, hs, ss, n, k⟩, a, b, d, e, fm, rfl, hw, hp, hm, hh, hst⟩
set_option maxRecDepth 100000 in
/-- An errand as an argument. -/
theorem open_errand {H : Type} {enc : TypeId × Value → H} {r : Reach} {b0 : Nat} {v : Value} {d : DataW H} {ps : List MemPlace} (hval : Value.okWide Try.prog W r b0 54 v) (hd : DataW.Trod enc Try.prog W 0 (fun _ => true) true 54 v d ps) : ∃ t, IsErrand (whole W) v t := by
  obtain ⟨cs, rfl⟩ := agg_of Try.underlying54 hval
  obtain ⟨fuel, hf⟩ := hd
  obtain ⟨_, _, t, ht⟩ := opn_errand.2 H enc _ _ fuel _ _ hf
  exact ⟨t, by simpa [Value.cells] using ht⟩
end
end Go.Proofs.Ytppkhehbkoeinaa
