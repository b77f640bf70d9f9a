/- Chapter 6: houses as values. -/
import Derived.Test.YtdnbkjgbehakpaaT22
import Derived.Test.YtdnbkjgbehakpaaP30
namespace Go.Proofs.Ytdnbkjgbehakpaa
open Go Go.Eng Go.RowKit

def IsTouches (m : Mem) (v : Value) (ts : List Touch) : Prop := IsArr m 4 v ts.length (fun i j => match j with
  | 0 => vi (ts.getD i default).a
  | 1 => vi (ts.getD i default).b
  | 2 => vi (ts.getD i default).lo
  | _ => vi (ts.getD i default).hi)
def IsBoils (m : Mem) (v : Value) (bs : List Boil) : Prop := IsArr m 2 v bs.length (fun i j => match j with
  | 0 => vi (bs.getD i default).thing
  | _ => vi (bs.getD i default).hour)
def IsSigns (m : Mem) (v : Value) (ss : List Sign) : Prop := IsArr m 2 v ss.length (fun i j => match j with
  | 0 => vi (ss.getD i default).thing
  | _ => .bool (ss.getD i default).carries)
theorem IsTouches.le {m m' : Mem} {v : Value} {xs : List Touch} (h : IsTouches m v xs) (hm : MLe m m') : IsTouches m' v xs := IsArr.le h hm
theorem IsBoils.le {m m' : Mem} {v : Value} {xs : List Boil} (h : IsBoils m v xs) (hm : MLe m m') : IsBoils m' v xs := IsArr.le h hm
theorem IsSigns.le {m m' : Mem} {v : Value} {xs : List Sign} (h : IsSigns m v xs) (hm : MLe m m') : IsSigns m' v xs := IsArr.le h hm
theorem IsTouches.bd {m : Mem} {v : Value} {xs : List Touch} (h : IsTouches m v xs) : xs.length ≤ 9223372036854775807 := by have := IsArr.len h; unfold maxLen at this; omega
theorem IsBoils.bd {m : Mem} {v : Value} {xs : List Boil} (h : IsBoils m v xs) : xs.length ≤ 9223372036854775807 := by have := IsArr.len h; unfold maxLen at this; omega
theorem IsSigns.bd {m : Mem} {v : Value} {xs : List Sign} (h : IsSigns m v xs) : xs.length ≤ 9223372036854775807 := by have := IsArr.len h; unfold maxLen at this; omega
theorem IsTouches.nil (m : Mem) : IsTouches m (.slice none 0 0) [] := IsArr.nil m 4 _
theorem IsBoils.nil (m : Mem) : IsBoils m (.slice none 0 0) [] := IsArr.nil m 2 _
theorem IsSigns.nil (m : Mem) : IsSigns m (.slice none 0 0) [] := IsArr.nil m 2 _
def tv4 (t : Touch) : Value := .agg #[vi t.a, vi t.b, vi t.lo, vi t.hi]
def bv2 (b : Boil) : Value := .agg #[vi b.thing, vi b.hour]
theorem boils_of {m : Mem} {v : Value} {xs : List Boil} (h : IsArr m 2 v (xs.map bv2).length (fun i j => ((xs.map bv2).getD i undef).cells.getD j undef)) : IsBoils m v xs := by
  rw [List.length_map] at h
  refine h.congr fun i j hi hj => ?_
  have e : (xs.map bv2).getD i undef = bv2 (xs.getD i default) := by simp [List.getD_eq_getElem?_getD, List.getElem?_eq_getElem hi]
  rw [e]
  match j, hj with
  | 0, _ => rfl
  | 1, _ => rfl
/-- The cells of a house. -/
abbrev hcs (wv pv kv tv bv sv : Value) (h : House) : Array Value := #[wv, pv, vi h.table.wrong, kv, vi h.others, vi h.last, tv, bv, sv]
/-- A house, by its cells. -/
structure HouseAt (m : Mem) (wv pv kv tv bv sv : Value) (f : Nat → Value) (h : House) : Prop where
  W : IsWomen m wv h.table.women
  P : IsPieces m pv f h.table.pieces
  M : IsMarks m f h.table.pieces
  K : IsInts m kv h.sick
  T : IsTouches m tv h.touches
  B : IsBoils m bv h.boiled
  S : IsSigns m sv h.signs
def IsHouse (m : Mem) (v : Value) (h : House) : Prop := ∃ wv pv kv tv bv sv f, v = .agg (hcs wv pv kv tv bv sv h) ∧ HouseAt m wv pv kv tv bv sv f h
theorem HouseAt.le {m m' : Mem} {wv pv kv tv bv sv : Value} {f : Nat → Value} {h : House} (a : HouseAt m wv pv kv tv bv sv f h) (hm : MLe m m') : HouseAt m' wv pv kv tv bv sv f h :=
  ⟨a.W.le hm, a.P.le hm, a.M.le hm, IsInts.le a.K hm, a.T.le hm, a.B.le hm, a.S.le hm⟩
theorem IsHouse.le {m m' : Mem} {v : Value} {h : House} (a : IsHouse m v h) (hm : MLe m m') : IsHouse m' v h := by
  obtain ⟨wv, pv, kv, tv, bv, sv, f, e, b⟩ := a
  exact ⟨wv, pv, kv, tv, bv, sv, f, e, b.le hm⟩
theorem HouseAt.table {m : Mem} {wv pv kv tv bv sv : Value} {f : Nat → Value} {h : House} (a : HouseAt m wv pv kv tv bv sv f h) : IsTable m (.agg #[wv, pv, vi h.table.wrong]) h.table := ⟨wv, pv, f, rfl, a.W, a.P, a.M⟩
/-- A course, by its cells. -/
def IsCourseV (m : Mem) (v : Value) (c : Course) : Prop := ∃ ov hv, v = .agg #[ov, hv] ∧ IsInts m ov c.owners ∧ IsInts m hv c.hours
theorem IsCourseV.le {m m' : Mem} {v : Value} {c : Course} (a : IsCourseV m v c) (hm : MLe m m') : IsCourseV m' v c := by
  obtain ⟨ov, hv, e, h1, h2⟩ := a
  exact ⟨ov, hv, e, IsInts.le h1 hm, IsInts.le h2 hm⟩
/-- Houses that can be walked through. -/
structure SmH (h : House) : Prop where
  table : Sm h.table
  sick : h.sick.length ≤ 20
  touches : h.touches.length ≤ 20
  boiled : h.boiled.length ≤ 20
  signs : h.signs.length ≤ 20
end Go.Proofs.Ytdnbkjgbehakpaa
