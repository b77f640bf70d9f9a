/- Rows of ranges of one's own. -/
import Derived.Test.YtdjkokpbeaapoaaGreatPH1
import Derived.Test.YtdjkokpbeaapoaaGreatT93
namespace Go.Proofs.YtdjkokpbeaapoaaGreat
open Go Go.Eng Go.RowKit

section
variable {P : Program} {n : Nat} {c : Cx P n} {l : List (Nat × Value)} {Ms : List Mem} {μ : List Res} {dst : Option Tmp} {x y : Operand} {t t' ty : TypeId} {pos : String} {af : Array Edge} {gd : Option (Nat × Bool)}
theorem OpVal.nilCheckQ {T : TypeId} {v : Value} {k i off N : Nat} {xs : List Value} (hx : lk l x = some (EP v k i off)) (hr : Res.row T k v N xs ∈ μ) (hlt : i < N) : OpVal c ⟨dst, .nilCheck x, ty, pos, af, gd⟩ l Ms μ (EP v k i off) :=
  OpVal.of_runs (by simp) (by simp) fun a w hh => by
    obtain ⟨a0, cap, rfl, h0⟩ := row_form (hh.mem.res _ hr)
    obtain ⟨b, rfl⟩ := h0 (by omega)
    simp [execOp, hh.lk hx, EP]
/-- Sums and differences, whatever they are. -/
theorem OpVal.addW {a b : Int} (hx : lk l x = some (.int .i64 a)) (hy : lk l y = some (.int .i64 b)) : OpVal c ⟨dst, .binOp .add t x y t', ty, pos, af, gd⟩ l Ms μ (.int .i64 (IntKind.i64.wrap (a + b))) :=
  OpVal.of_runs (by simp) (by simp) fun a w hh => by simp [execOp, hh.lk hx, hh.lk hy, eqGuard, binOp, Op.intArith]
theorem OpVal.subW {a b : Int} (hx : lk l x = some (.int .i64 a)) (hy : lk l y = some (.int .i64 b)) : OpVal c ⟨dst, .binOp .sub t x y t', ty, pos, af, gd⟩ l Ms μ (.int .i64 (IntKind.i64.wrap (a - b))) :=
  OpVal.of_runs (by simp) (by simp) fun a w hh => by simp [execOp, hh.lk hx, hh.lk hy, eqGuard, binOp, Op.intArith]
end
theorem rgs_flat_append (a b : List Value) : flatv (a ++ b) = flatv a ++ flatv b := List.flatMap_append ..
theorem rgs_len (rs : List Rg) : (flatv (rs.map rv2)).length = rs.length * 2 := by
  induction rs with
  | nil => rfl
  | cons r rs ih =>
    have e : flatv ((r :: rs).map rv2) = vi r.lo :: vi r.hi :: flatv (rs.map rv2) := by simp [flatv, rv2, Value.cells]
    rw [e]; simp [ih]; omega
theorem IsRgs.toCells {m : Mem} {v : Value} {rs : List Rg} (h : IsRgs m v rs) : IsCells m 2 v rs.length (flatv (rs.map rv2)) := by
  refine ⟨rgs_len rs, IsArr.congr h fun i j hi hj => ?_⟩
  have key : ∀ (rs : List Rg) (i : Nat), i < rs.length → (flatv (rs.map rv2)).getD (i * 2 + 0) undef = vi (rs.getD i default).lo ∧ (flatv (rs.map rv2)).getD (i * 2 + 1) undef = vi (rs.getD i default).hi := by
    intro rs
    induction rs with
    | nil => intro i hi; simp at hi
    | cons r rs ih =>
      intro i hi
      have e : flatv ((r :: rs).map rv2) = vi r.lo :: vi r.hi :: flatv (rs.map rv2) := by simp [flatv, rv2, Value.cells]
      rw [e]
      cases i with
      | zero => exact ⟨rfl, rfl⟩
      | succ i =>
        rw [show (i + 1) * 2 + 0 = (i * 2 + 0) + 1 + 1 by omega, show (i + 1) * 2 + 1 = (i * 2 + 1) + 1 + 1 by omega]
        simpa using ih i (by simpa using hi)
  match j, hj with
  | 0, _ => exact (key rs i hi).1.symm
  | 1, _ => exact (key rs i hi).2.symm
theorem rgs_cut {ws : List Rg} {i : Nat} (hi : i < ws.length) : ∃ a b, ws = a ++ ws.getD i default :: b ∧ a.length = i ∧ ∀ x, ws.set i x = a ++ x :: b := by
  refine ⟨ws.take i, ws.drop (i + 1), ?_, by rw [List.length_take]; omega, fun x => ?_⟩
  · rw [List.getD_eq_getElem?_getD, List.getElem?_eq_getElem hi]; simp
  · rw [List.set_eq_take_append_cons_drop, if_pos hi]
theorem rgs_flat (a b : List Rg) (w : Rg) : flatv ((a ++ w :: b).map rv2) = flatv (a.map rv2) ++ ([vi w.lo, vi w.hi] ++ flatv (b.map rv2)) := by
  rw [List.map_append, List.map_cons, rgs_flat_append]; rfl
theorem rgs_lo {ws : List Rg} {i : Nat} (hi : i < ws.length) (x : Int) : (flatv (ws.map rv2)).take (i * 2 + 0) ++ ((vi x).cells.toList ++ (flatv (ws.map rv2)).drop (i * 2 + 0 + 1)) = flatv ((ws.set i ⟨x, (ws.getD i default).hi⟩).map rv2) := by
  obtain ⟨a, b, e, hl, hset⟩ := rgs_cut hi
  rw [hset]
  generalize ws.getD i default = w at *
  subst e
  rw [rgs_flat, rgs_flat]
  have hf := rgs_len a
  generalize flatv (a.map rv2) = A at *
  generalize flatv (b.map rv2) = B at *
  rw [List.take_append, List.take_of_length_le (by omega), hf, hl, show i * 2 + 0 - i * 2 = 0 by omega, List.drop_append, List.drop_of_length_le (by omega), hf, hl, show i * 2 + 0 + 1 - i * 2 = 1 by omega]
  simp [Value.cells]
theorem rgs_hi {ws : List Rg} {i : Nat} (hi : i < ws.length) (x : Int) : (flatv (ws.map rv2)).take (i * 2 + 1) ++ ((vi x).cells.toList ++ (flatv (ws.map rv2)).drop (i * 2 + 1 + 1)) = flatv ((ws.set i ⟨(ws.getD i default).lo, x⟩).map rv2) := by
  obtain ⟨a, b, e, hl, hset⟩ := rgs_cut hi
  rw [hset]
  generalize ws.getD i default = w at *
  subst e
  rw [rgs_flat, rgs_flat]
  have hf := rgs_len a
  generalize flatv (a.map rv2) = A at *
  generalize flatv (b.map rv2) = B at *
  rw [List.take_append, List.take_of_length_le (by omega), hf, hl, show i * 2 + 1 - i * 2 = 1 by omega, List.drop_append, List.drop_of_length_le (by omega), hf, hl, show i * 2 + 1 + 1 - i * 2 = 2 by omega]
  simp [Value.cells]
theorem rgs_put {ws : List Rg} {i : Nat} (hi : i < ws.length) (q : Rg) : (flatv (ws.map rv2)).take (i * 2 + 0) ++ ((rv2 q).cells.toList ++ (flatv (ws.map rv2)).drop (i * 2 + 0 + 2)) = flatv ((ws.set i q).map rv2) := by
  obtain ⟨a, b, e, hl, hset⟩ := rgs_cut hi
  rw [hset]
  generalize ws.getD i default = w at *
  subst e
  rw [rgs_flat, rgs_flat]
  have hf := rgs_len a
  generalize flatv (a.map rv2) = A at *
  generalize flatv (b.map rv2) = B at *
  rw [List.take_append, List.take_of_length_le (by omega), hf, hl, show i * 2 + 0 - i * 2 = 0 by omega, List.drop_append, List.drop_of_length_le (by omega), hf, hl, show i * 2 + 0 + 2 - i * 2 = 2 by omega]
  simp [rv2, Value.cells]
theorem rgs_at {ws : List Rg} {i : Nat} (hi : i < ws.length) : (flatv (ws.map rv2))[i * 2 + 0]? = some (vi (ws.getD i default).lo) ∧ (flatv (ws.map rv2))[i * 2 + 1]? = some (vi (ws.getD i default).hi) := by
  obtain ⟨a, b, e, hl, _⟩ := rgs_cut hi
  generalize ws.getD i default = w at *
  subst e
  rw [rgs_flat]
  have hf := rgs_len a
  generalize flatv (a.map rv2) = A at *
  constructor
  · rw [List.getElem?_append_right (by omega), show i * 2 + 0 - A.length = 0 by omega]; rfl
  · rw [List.getElem?_append_right (by omega), show i * 2 + 1 - A.length = 1 by omega]; rfl
theorem getD_setR (l : List Rg) (p i : Nat) (a : Rg) : (l.set p a).getD i default = if i = p ∧ p < l.length then a else l.getD i default := by
  rw [List.getD_eq_getElem?_getD, List.getD_eq_getElem?_getD, List.getElem?_set]
  by_cases h : p = i
  · subst h
    by_cases h2 : p < l.length
    · simp [h2]
    · simp [h2]
  · rw [if_neg h, if_neg (fun hh => h hh.1.symm)]
end Go.Proofs.YtdjkokpbeaapoaaGreat
