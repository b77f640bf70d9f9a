/- Opening of the statements' arguments: tables. -/
import Derived.Test.YtbmohbeocnfefaaR0
import Derived.Test.YtbmohbeocnfefaaT1
namespace Go.Proofs.Ytbmohbeocnfefaa
open Go Go.Eng Go.RowKit

theorem Try.own : ownKnob Try.prog.godebug = none := by kernel_rfl
theorem Try.laidOut : laidOutB Try.prog = true := by kernel_rfl
section
variable {W : World}
theorem opn_int : Opn Try.prog W 3 1 (fun cs => ∃ n, cs = [.int .i64 n] ∧ (Lit.int .i64 n).wf = true) := Opn.int Try.underlying3 (by kernel_rfl)
theorem opn_range : Opn Try.prog W 29 2 (AllS [(1, fun cs => ∃ n, cs = [.int .i64 n] ∧ (Lit.int .i64 n).wf = true), (1, fun cs => ∃ n, cs = [.int .i64 n] ∧ (Lit.int .i64 n).wf = true)]) :=
  Opn.struct Try.underlying29 (by kernel_rfl) ⟨rfl, opn_int, rfl, opn_int, trivial⟩ rfl
theorem opn_woman : Opn Try.prog W 31 3 (AllS [(1, fun cs => ∃ n, cs = [.int .i64 n] ∧ (Lit.int .i64 n).wf = true), (2, AllS [(1, fun cs => ∃ n, cs = [.int .i64 n] ∧ (Lit.int .i64 n).wf = true), (1, fun cs => ∃ n, cs = [.int .i64 n] ∧ (Lit.int .i64 n).wf = true)])]) :=
  Opn.struct Try.underlying31 (by kernel_rfl) ⟨rfl, opn_int, rfl, opn_range, trivial⟩ rfl
/-- A list of numbers. -/
def IsL (W : World) (cs : List Value) : Prop := ∃ v xs, cs = [v] ∧ IsInts (whole W) v xs
theorem opn_ints : Opn Try.prog W 33 1 (IsL W) := (Opn.slice Try.underlying33 (by kernel_rfl) (by omega) opn_int).to fun cs _ ⟨v, n, es, h1, h2, h3⟩ => by
  obtain ⟨xs, hx, hq⟩ := list_of (n := n) (Q := fun i (x : Int) => es i = [.int .i64 x]) fun i hi => by
    obtain ⟨_, x, hx, _⟩ := h3 i hi
    exact ⟨x, hx⟩
  refine ⟨v, xs, h1, ?_⟩
  unfold IsInts
  rw [hx]
  refine h2.congr fun i j hi hj => ?_
  have : j = 0 := by omega
  subst this
  rw [hq i hi]; rfl
def IsW (W : World) (cs : List Value) : Prop := ∃ v ws, cs = [v] ∧ IsWomen (whole W) v ws
theorem opn_women : Opn Try.prog W 22 1 (IsW W) := (Opn.slice Try.underlying22 (by kernel_rfl) (by omega) opn_woman).to fun cs _ ⟨v, n, es, h1, h2, h3⟩ => by
  obtain ⟨ws, hx, hq⟩ := list_of (n := n) (Q := fun i (x : Woman) => es i = [.int .i64 x.mark, .int .i64 x.lo, .int .i64 x.hi]) fun i hi => by
    obtain ⟨hl, h4⟩ := h3 i hi
    generalize es i = l at hl h4
    match l, hl with
    | [a, b, c], _ =>
      obtain ⟨⟨x, e1, _⟩, ⟨⟨y, e2, _⟩, ⟨z, e3, _⟩, _⟩, _⟩ := h4
      simp at e1 e2 e3
      exact ⟨⟨x, y, z⟩, by rw [e1, e2, e3]⟩
  refine ⟨v, ws, h1, ?_⟩
  unfold IsWomen
  rw [hx]
  refine h2.congr fun i j hi hj => ?_
  rw [hq i hi]
  match j, hj with
  | 0, _ => rfl
  | 1, _ => rfl
  | 2, _ => rfl
theorem opn_piece : Opn Try.prog W 35 2 (AllS [(1, IsL W), (1, fun cs => ∃ n, cs = [.int .i64 n] ∧ (Lit.int .i64 n).wf = true)]) :=
  Opn.struct Try.underlying35 (by kernel_rfl) ⟨rfl, opn_ints, rfl, opn_int, trivial⟩ rfl
def IsP (W : World) (cs : List Value) : Prop := ∃ v f ps, cs = [v] ∧ IsPieces (whole W) v f ps ∧ IsMarks (whole W) f ps
theorem opn_pieces : Opn Try.prog W 23 1 (IsP W) := (Opn.slice Try.underlying23 (by kernel_rfl) (by omega) opn_piece).to fun cs _ ⟨v, n, es, h1, h2, h3⟩ => by
  obtain ⟨ps, hx, hq⟩ := list_of (n := n) (Q := fun i (x : Piece) => ∃ u, es i = [u, .int .i64 x.bundle] ∧ IsInts (whole W) u x.marks) fun i hi => by
    obtain ⟨hl, h4⟩ := h3 i hi
    generalize es i = l at hl h4
    match l, hl with
    | [a, b], _ =>
      obtain ⟨⟨u, xs, e1, hu⟩, ⟨y, e2, _⟩, _⟩ := h4
      simp at e1 e2
      exact ⟨⟨xs, y⟩, u, by rw [e1, e2], hu⟩
  refine ⟨v, fun i => (es i).getD 0 undef, ps, h1, ?_, fun i hi => ?_⟩
  · unfold IsPieces
    rw [hx]
    refine h2.congr fun i j hi hj => ?_
    obtain ⟨u, hu, _⟩ := hq i hi
    match j, hj with
    | 0, _ => rfl
    | 1, _ => show (es i).getD 1 undef = _; rw [hu]; rfl
  · obtain ⟨u, hu, hm⟩ := hq i (by omega)
    show IsInts (whole W) ((es i).getD 0 undef) _
    rw [hu]; exact hm
def IsT (W : World) (cs : List Value) : Prop := ∃ t, IsTable (whole W) (.agg cs.toArray) t
theorem opn_table : Opn Try.prog W 25 3 (IsT W) := (Opn.struct Try.underlying25 (by kernel_rfl) (L := [(1, IsW W), (1, IsP W), (1, fun cs => ∃ n, cs = [.int .i64 n] ∧ (Lit.int .i64 n).wf = true)]) ⟨rfl, opn_women, rfl, opn_pieces, rfl, opn_int, trivial⟩ rfl).to fun cs hl h => by
  match cs, hl with
  | [a, b, c], _ =>
    obtain ⟨⟨wv, ws, e1, hw⟩, ⟨pv, f, ps, e2, hp, hm⟩, ⟨n, e3, _⟩, _⟩ := h
    simp at e1 e2 e3
    subst e1 e2 e3
    exact ⟨⟨ws, ps, n⟩, a, b, f, rfl, hw, hp, hm⟩
set_option maxRecDepth 100000 in
/-- A table as an argument. -/
theorem open_table {H : Type} {enc : TypeId × Value → H} {r : Reach} {b0 : Nat} {v : Value} {d : DataW H} {ps : List MemPlace} (hval : Value.okWide Try.prog W r b0 25 v) (hd : DataW.Trod enc Try.prog W 0 (fun _ => true) true 25 v d ps) : ∃ t, IsTable (whole W) v t := by
  obtain ⟨cs, rfl⟩ := agg_of Try.underlying25 hval
  obtain ⟨fuel, hf⟩ := hd
  obtain ⟨_, _, t, ht⟩ := opn_table.2 H enc _ _ fuel _ _ hf
  exact ⟨t, by simpa [Value.cells] using ht⟩
theorem u8_nat {n : Int} (h : (Lit.int .u8 n).wf = true) : ∃ k : Nat, n = k ∧ k < 256 := by
  simp [Lit.wf, IntKind.min, IntKind.max, IntKind.signed, IntKind.bits] at h
  exact ⟨n.toNat, by omega, by omega⟩
end
end Go.Proofs.Ytbmohbeocnfefaa
