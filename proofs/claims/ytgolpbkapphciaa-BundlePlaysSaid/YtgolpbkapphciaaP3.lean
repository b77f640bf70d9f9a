/- Plain law: all owners, in lexicographic order. -/
import Derived.Test.YtgolpbkapphciaaP2
namespace Go.Proofs.Ytgolpbkapphciaa
open Go Go.Eng Go.RowKit

/-- The owners of the last r pieces, in lexicographic order. -/
def tails (t : Table) : Nat → List (List Int)
  | 0 => [[]]
  | r + 1 => (womenOf t (t.pieces.length - (r + 1))).flatMap fun w => (tails t r).map (w :: ·)
def allOwners (t : Table) : List (List Int) := tails t t.pieces.length
theorem flat_len {α β : Type} (l : List α) (f : α → List β) (k : Nat) (h : ∀ x ∈ l, (f x).length = k) : (l.flatMap f).length = l.length * k := by
  induction l with
  | nil => simp
  | cons x l ih => rw [List.flatMap_cons, List.length_append, ih fun y hy => h y (.tail _ hy), h x (.head _), List.length_cons, Nat.add_mul, Nat.one_mul, Nat.add_comm]
theorem flat_get {α β : Type} (l : List α) (f : α → List β) (k : Nat) (h : ∀ x ∈ l, (f x).length = k) {j i : Nat} (hj : j < l.length) (hi : i < k) : (l.flatMap f)[j * k + i]? = (f l[j])[i]? := by
  induction l generalizing j with
  | nil => simp at hj
  | cons x l ih =>
    rw [List.flatMap_cons]
    have hx := h x (.head _)
    cases j with
    | zero =>
      rw [Nat.zero_mul, Nat.zero_add, List.getElem?_append_left (by omega)]
      rfl
    | succ j =>
      have e : (j + 1) * k + i = k + (j * k + i) := by rw [Nat.add_mul, Nat.one_mul]; omega
      rw [e, List.getElem?_append_right (by omega), hx, Nat.add_sub_cancel_left]
      exact ih (fun y hy => h y (.tail _ hy)) (by simpa using hj)
theorem tails_len (t : Table) (r : Nat) : (tails t (r + 1)).length = (womenOf t (t.pieces.length - (r + 1))).length * (tails t r).length := flat_len _ _ _ fun _ _ => List.length_map ..
theorem tails_get {t : Table} {r j i : Nat} (hj : j < (womenOf t (t.pieces.length - (r + 1))).length) (hi : i < (tails t r).length) :
    (tails t (r + 1)).getD (j * (tails t r).length + i) [] = (womenOf t (t.pieces.length - (r + 1))).getD j 0 :: (tails t r).getD i [] := by
  have := flat_get (womenOf t (t.pieces.length - (r + 1))) (fun w => (tails t r).map (w :: ·)) (tails t r).length (fun _ _ => List.length_map ..) hj hi
  rw [List.getD_eq_getElem?_getD]
  show ((womenOf t (t.pieces.length - (r + 1))).flatMap fun w => (tails t r).map (w :: ·))[j * (tails t r).length + i]?.getD [] = _
  rw [this]
  simp [List.getD_eq_getElem?_getD, List.getElem?_eq_getElem hj, List.getElem?_eq_getElem hi]
theorem tails_lens {t : Table} : ∀ {r : Nat} {l : List Int}, l ∈ tails t r → l.length = r
  | 0, l, h => by simp [tails] at h; subst h; rfl
  | r + 1, l, h => by
    obtain ⟨w, _, h2⟩ := List.mem_flatMap.1 h
    obtain ⟨l', h3, rfl⟩ := List.mem_map.1 h2
    simp [tails_lens h3]
/-- The array at work: the first entries are fixed, those behind the pieces are 0. -/
def Works (t : Table) (pre q : List Int) : Prop := q.length = 7 ∧ q.take pre.length = pre ∧ q.drop t.pieces.length = List.replicate (7 - t.pieces.length) 0
theorem Works.done {t : Table} {pre q : List Int} (h : Works t pre q) (hl : pre.length = t.pieces.length) (_ : t.pieces.length ≤ 7) : q = pad pre := by
  obtain ⟨h1, h2, h3⟩ := h
  rw [← List.take_append_drop pre.length q, h2, hl, h3]
  unfold pad; rw [hl]
theorem Works.set {t : Table} {pre q : List Int} (h : Works t pre q) (hl : pre.length < t.pieces.length) (h7 : t.pieces.length ≤ 7) (w : Int) : Works t (pre ++ [w]) (q.set pre.length w) := by
  obtain ⟨h1, h2, h3⟩ := h
  refine ⟨by simpa using h1, ?_, ?_⟩
  · rw [List.length_append, List.length_cons, List.length_nil, List.take_set, List.take_add_one, h2, List.getElem?_eq_getElem (by omega)]
    simp
  · rw [List.drop_set, if_pos hl, h3]
theorem Works.back {t : Table} {pre q : List Int} {w : Int} (h : Works t (pre ++ [w]) q) : Works t pre q := by
  obtain ⟨h1, h2, h3⟩ := h
  refine ⟨h1, ?_, h3⟩
  have := congrArg (List.take pre.length) h2
  rw [List.take_take] at this
  simpa using this
theorem Works.zero {t : Table} (_ : t.pieces.length ≤ 7) : Works t [] (List.replicate 7 0) := ⟨rfl, rfl, List.drop_replicate ..⟩
theorem tails_mem {t : Table} : ∀ {r : Nat} {l : List Int}, r ≤ t.pieces.length → l ∈ tails t r → ∀ i, i < r → l.getD i 0 ∈ womenOf t (t.pieces.length - r + i)
  | 0, _, _, _, i, hi => absurd hi (Nat.not_lt_zero _)
  | r + 1, l, hr, h, i, hi => by
    obtain ⟨w, hw, h2⟩ := List.mem_flatMap.1 h
    obtain ⟨l', h3, rfl⟩ := List.mem_map.1 h2
    cases i with
    | zero => simpa using hw
    | succ i =>
      have := tails_mem (by omega) h3 i (by omega)
      have e : t.pieces.length - (r + 1) + (i + 1) = t.pieces.length - r + i := by omega
      rw [e]; simpa using this
theorem allOwners_are {t : Table} {l : List Int} (h : l ∈ allOwners t) : areOwners t l = true := by
  have h1 := tails_lens h
  refine areOwners_iff.2 ⟨h1, fun i hi => ?_⟩
  have := tails_mem (Nat.le_refl _) h i (by omega)
  simpa using this
theorem allOwners_at {t : Table} {k : Nat} (h : k < (allOwners t).length) : areOwners t ((allOwners t).getD k []) = true :=
  allOwners_are (by rw [List.getD_eq_getElem?_getD, List.getElem?_eq_getElem h]; exact List.getElem_mem h)
/-- Can all women but some have counted right, with owners? -/
def rightBut (t : Table) (out l : List Int) : Bool := !ex (wrongP t l).length fun i => !decide ((wrongP t l).getD i 0 ∈ out)
def possibleB (t : Table) (out : List Int) : Bool := ex (allOwners t).length fun k => rightBut t out ((allOwners t).getD k [])
end Go.Proofs.Ytgolpbkapphciaa
