/- The reference's functions of chapter 6: Hours, Courses, Truths, All. -/
import Derived.Test.YtdnbkjgbehakpaaGreatT139
import Derived.Test.YtdnbkjgbehakpaaGreatT1
namespace Go.Proofs.YtdnbkjgbehakpaaGreat
open Go Go.Eng Go.RowKit

/-! ### Lists of courses -/
def AllC (m : Mem) (vs : List Value) (l : List Course) : Prop := vs.length = l.length ∧ ∀ i, i < l.length → IsCourseV m (vs.getD i undef) (l.getD i default)
theorem AllC.le {m m' : Mem} {vs : List Value} {l : List Course} (h : AllC m vs l) (hm : MLe m m') : AllC m' vs l := ⟨h.1, fun i hi => (h.2 i hi).le hm⟩
theorem AllC.nil (m : Mem) : AllC m [] [] := ⟨rfl, fun _ h => absurd h (Nat.not_lt_zero _)⟩
theorem AllC.push {m : Mem} {vs : List Value} {l : List Course} {v : Value} {c : Course} (h : AllC m vs l) (hc : IsCourseV m v c) : AllC m (vs ++ [v]) (l ++ [c]) := by
  refine ⟨by simp [h.1], fun i hi => ?_⟩
  rw [List.length_append, List.length_singleton] at hi
  rcases Nat.lt_succ_iff_lt_or_eq.1 hi with h1 | rfl
  · rw [List.getD_eq_getElem?_getD, List.getElem?_append_left (by rw [h.1]; exact h1), List.getD_eq_getElem?_getD (l := l ++ [c]), List.getElem?_append_left h1, ← List.getD_eq_getElem?_getD, ← List.getD_eq_getElem?_getD]
    exact h.2 i h1
  · rw [List.getD_eq_getElem?_getD, List.getElem?_append_right (by rw [h.1]; exact Nat.le_refl _), List.getD_eq_getElem?_getD (l := l ++ [c]), List.getElem?_append_right (Nat.le_refl _), h.1]
    simpa using hc
theorem AllC.mem {m : Mem} {vs : List Value} {l : List Course} (h : AllC m vs l) {u : Value} (hu : u ∈ vs) : ∃ c, IsCourseV m u c := by
  obtain ⟨i, hi, e⟩ := List.mem_iff_getElem.1 hu
  have := h.2 i (by rw [← h.1]; exact hi)
  rw [List.getD_eq_getElem?_getD, List.getElem?_eq_getElem hi, Option.getD_some, e] at this
  exact ⟨_, this⟩
theorem AllC.size {m : Mem} {vs : List Value} {l : List Course} (h : AllC m vs l) : ∀ u ∈ vs, u.cells.size = 2 := fun u hu => by
  obtain ⟨c, ov, hv, rfl, _⟩ := h.mem hu
  rfl
theorem AllC.one {m : Mem} {vs : List Value} {l : List Course} (h : AllC m vs l) : ∀ u ∈ vs, ∀ x ∈ u.cells.toList, x.oneCell' = true := fun u hu => by
  obtain ⟨c, ov, hv, rfl, h1, h2⟩ := h.mem hu
  intro x hx
  simp [Value.cells] at hx
  rcases hx with rfl | rfl
  · exact IsArr.one h1
  · exact IsArr.one h2
def IsCourses (m : Mem) (v : Value) (l : List Course) : Prop := ∃ vs, AllC m vs l ∧ IsArr m 2 v l.length (fun i j => (vs.getD i undef).cells.getD j undef)
theorem IsCourses.le {m m' : Mem} {v : Value} {l : List Course} (h : IsCourses m v l) (hm : MLe m m') : IsCourses m' v l := by
  obtain ⟨vs, h1, h2⟩ := h
  exact ⟨vs, h1.le hm, h2.le hm⟩
theorem IsCourses.bd {m : Mem} {v : Value} {l : List Course} (h : IsCourses m v l) : l.length ≤ 9223372036854775807 := by
  obtain ⟨vs, _, h2⟩ := h
  have := IsArr.len h2; unfold maxLen at this; omega
end Go.Proofs.YtdnbkjgbehakpaaGreat
