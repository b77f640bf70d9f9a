/- Opening of the statements' arguments: houses, courses. -/
import Derived.Test.YtdnbkjgbehakpaaGreatR1
import Derived.Test.YtdnbkjgbehakpaaGreatT100
namespace Go.Proofs.YtdnbkjgbehakpaaGreat
open Go Go.Eng Go.RowKit

section
variable {W : World}
theorem Opn.bool {t : TypeId} (ht : Tryz.prog.underlying t = some .bool) (hc : Tryz.prog.cellsOf t = 1) : Opn Tryz.prog W t 1 (fun cs => ∃ b, cs = [.bool b]) :=
  ⟨hc, fun H enc spare held fuel cs x h => by
    obtain ⟨n, rfl, _⟩ := DataW.trod_bool ht h
    exact ⟨rfl, by simp [Value.oneCell'], n, rfl⟩⟩
theorem opn_hrange : Opn Tryz.prog W 77 2 (AllS [(1, fun cs => ∃ n, cs = [.int .i64 n] ∧ (Lit.int .i64 n).wf = true), (1, fun cs => ∃ n, cs = [.int .i64 n] ∧ (Lit.int .i64 n).wf = true)]) :=
  Opn.struct Tryz.underlying77 (by kernel_rfl) ⟨rfl, opn_int, rfl, opn_int, trivial⟩ rfl
theorem opn_touch : Opn Tryz.prog W 79 4 (AllS [(1, fun cs => ∃ n, cs = [.int .i64 n] ∧ (Lit.int .i64 n).wf = true), (1, fun cs => ∃ n, cs = [.int .i64 n] ∧ (Lit.int .i64 n).wf = true), (2, AllS [(1, fun cs => ∃ n, cs = [.int .i64 n] ∧ (Lit.int .i64 n).wf = true), (1, fun cs => ∃ n, cs = [.int .i64 n] ∧ (Lit.int .i64 n).wf = true)])]) :=
  Opn.struct Tryz.underlying79 (by kernel_rfl) ⟨rfl, opn_int, rfl, opn_int, rfl, opn_hrange, trivial⟩ rfl
def IsTo (W : World) (cs : List Value) : Prop := ∃ v ts, cs = [v] ∧ IsTouches (whole W) v ts
theorem opn_touches : Opn Tryz.prog W 27 1 (IsTo W) := (Opn.slice Tryz.underlying27 (by kernel_rfl) (by omega) opn_touch).to fun cs _ ⟨v, n, es, h1, h2, h3⟩ => by
  obtain ⟨rs, hx, hq⟩ := list_of (n := n) (Q := fun i (x : Touch) => es i = [.int .i64 x.a, .int .i64 x.b, .int .i64 x.lo, .int .i64 x.hi]) fun i hi => by
    obtain ⟨hl, h4⟩ := h3 i hi
    generalize es i = l at hl h4
    match l, hl with
    | [a, b, c, d], _ =>
      obtain ⟨⟨w, e1, _⟩, ⟨x, e2, _⟩, ⟨⟨y, e3, _⟩, ⟨z, e4, _⟩, _⟩, _⟩ := h4
      simp at e1 e2 e3 e4
      exact ⟨⟨w, x, y, z⟩, by rw [e1, e2, e3, e4]⟩
  refine ⟨v, rs, h1, ?_⟩
  unfold IsTouches
  rw [hx]
  refine h2.congr fun i j hi hj => ?_
  rw [hq i hi]
  match j, hj with
  | 0, _ => rfl
  | 1, _ => rfl
  | 2, _ => rfl
  | 3, _ => rfl
theorem opn_boil : Opn Tryz.prog W 81 2 (AllS [(1, fun cs => ∃ n, cs = [.int .i64 n] ∧ (Lit.int .i64 n).wf = true), (1, fun cs => ∃ n, cs = [.int .i64 n] ∧ (Lit.int .i64 n).wf = true)]) :=
  Opn.struct Tryz.underlying81 (by kernel_rfl) ⟨rfl, opn_int, rfl, opn_int, trivial⟩ rfl
def IsBo (W : World) (cs : List Value) : Prop := ∃ v ts, cs = [v] ∧ IsBoils (whole W) v ts
theorem opn_boils : Opn Tryz.prog W 28 1 (IsBo W) := (Opn.slice Tryz.underlying28 (by kernel_rfl) (by omega) opn_boil).to fun cs _ ⟨v, n, es, h1, h2, h3⟩ => by
  obtain ⟨rs, hx, hq⟩ := list_of (n := n) (Q := fun i (x : Boil) => es i = [.int .i64 x.thing, .int .i64 x.hour]) fun i hi => by
    obtain ⟨hl, h4⟩ := h3 i hi
    generalize es i = l at hl h4
    match l, hl with
    | [b, c], _ =>
      obtain ⟨⟨y, e2, _⟩, ⟨z, e3, _⟩, _⟩ := h4
      simp at e2 e3
      exact ⟨⟨y, z⟩, by rw [e2, e3]⟩
  refine ⟨v, rs, h1, ?_⟩
  unfold IsBoils
  rw [hx]
  refine h2.congr fun i j hi hj => ?_
  rw [hq i hi]
  match j, hj with
  | 0, _ => rfl
  | 1, _ => rfl
theorem opn_bool : Opn Tryz.prog W 4 1 (fun cs => ∃ b, cs = [.bool b]) := Opn.bool Tryz.underlying4 (by kernel_rfl)
theorem opn_sign : Opn Tryz.prog W 88 2 (AllS [(1, fun cs => ∃ n, cs = [.int .i64 n] ∧ (Lit.int .i64 n).wf = true), (1, fun cs => ∃ b, cs = [.bool b])]) :=
  Opn.struct Tryz.underlying88 (by kernel_rfl) ⟨rfl, opn_int, rfl, opn_bool, trivial⟩ rfl
def IsSi (W : World) (cs : List Value) : Prop := ∃ v ts, cs = [v] ∧ IsSigns (whole W) v ts
theorem opn_signs : Opn Tryz.prog W 29 1 (IsSi W) := (Opn.slice Tryz.underlying29 (by kernel_rfl) (by omega) opn_sign).to fun cs _ ⟨v, n, es, h1, h2, h3⟩ => by
  obtain ⟨rs, hx, hq⟩ := list_of (n := n) (Q := fun i (x : Sign) => es i = [.int .i64 x.thing, .bool x.carries]) fun i hi => by
    obtain ⟨hl, h4⟩ := h3 i hi
    generalize es i = l at hl h4
    match l, hl with
    | [b, c], _ =>
      obtain ⟨⟨y, e2, _⟩, ⟨z, e3⟩, _⟩ := h4
      simp at e2 e3
      exact ⟨⟨y, z⟩, by rw [e2, e3]⟩
  refine ⟨v, rs, h1, ?_⟩
  unfold IsSigns
  rw [hx]
  refine h2.congr fun i j hi hj => ?_
  rw [hq i hi]
  match j, hj with
  | 0, _ => rfl
  | 1, _ => rfl
def IsHo (W : World) (cs : List Value) : Prop := ∃ h, IsHouse (whole W) (.agg cs.toArray) h
theorem opn_house : Opn Tryz.prog W 31 9 (IsHo W) := (Opn.struct Tryz.underlying31 (by kernel_rfl) (L := [(3, IsT W), (1, IsL W), (1, fun cs => ∃ n, cs = [.int .i64 n] ∧ (Lit.int .i64 n).wf = true), (1, fun cs => ∃ n, cs = [.int .i64 n] ∧ (Lit.int .i64 n).wf = true), (1, IsTo W), (1, IsBo W), (1, IsSi W)]) ⟨rfl, opn_table, rfl, opn_ints, rfl, opn_int, rfl, opn_int, rfl, opn_touches, rfl, opn_boils, rfl, opn_signs, trivial⟩ rfl).to fun cs hl h => by
  match cs, hl with
  | [a, b, c, d, e, f, g, i, j], _ =>
    obtain ⟨⟨t, ht⟩, ⟨kv, ks, e1, hk⟩, ⟨n, e2, _⟩, ⟨k, e3, _⟩, ⟨tv, ts, e4, hts⟩, ⟨bv, bs, e5, hbs⟩, ⟨sv, ss, e6, hss⟩, _⟩ := h
    obtain ⟨wv, pv, fm, e7, hw, hp, hm⟩ := ht
    simp at e1 e2 e3 e4 e5 e6 e7
    obtain ⟨rfl, rfl, rfl⟩ := e7
    subst e1 e2 e3 e4 e5 e6
    exact ⟨⟨t, ks, n, k, ts, bs, ss⟩, a, b, d, g, i, j, fm, rfl, hw, hp, hm, hk, hts, hbs, hss⟩
set_option maxRecDepth 100000 in
/-- A house as an argument. -/
theorem open_house {H : Type} {enc : TypeId × Value → H} {r : Reach} {b0 : Nat} {v : Value} {d : DataW H} {ps : List MemPlace} (hval : Value.okWide Tryz.prog W r b0 31 v) (hd : DataW.Trod enc Tryz.prog W 0 (fun _ => true) true 31 v d ps) : ∃ t, IsHouse (whole W) v t := by
  obtain ⟨cs, rfl⟩ := agg_of Tryz.underlying31 hval
  obtain ⟨fuel, hf⟩ := hd
  obtain ⟨_, _, t, ht⟩ := opn_house.2 H enc _ _ fuel _ _ hf
  exact ⟨t, by simpa [Value.cells] using ht⟩
end
end Go.Proofs.YtdnbkjgbehakpaaGreat
