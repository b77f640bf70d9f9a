/- Chapter 6: one more sign; one more sick woman. -/
import Derived.Test.YtdnbkjgbehakpaaGreatP33
namespace Go.Proofs.YtdnbkjgbehakpaaGreat
open Go Go.Eng Go.RowKit

theorem inc_below {W W' : Nat} {d : List Int} (hi : Inc W' 0 d) : Inc W 0 (d.filter fun x => decide (x < (W : Int))) := inc_of (hi.pairwise.filter _) fun x hx => by
  rw [List.mem_filter, decide_eq_true_eq] at hx
  have := hi.ge x hx.1
  omega
theorem inc_last {W : Nat} {d : List Int} (hi : Inc W 0 d) : Inc (W + 1) 0 (d ++ [(W : Int)]) := by
  refine inc_of ?_ fun x hx => ?_
  · rw [List.pairwise_append]
    refine ⟨hi.pairwise, by simp, fun a ha b hb => ?_⟩
    rw [List.mem_singleton] at hb
    subst hb
    exact (hi.ge a ha).2
  · rw [List.mem_append, List.mem_singleton] at hx
    rcases hx with hx | rfl
    · have := hi.ge x hx; omega
    · omega
/-- A house with one more sign. -/
def moreS (h : House) (t : Sign) : House := withSigns h (h.signs ++ [t])
theorem signS_more {ss : List Sign} {t : Sign} {s i : Nat} (hi : i < ss.length) : signS (ss ++ [t]) s i = signS ss s i := by
  unfold signS
  rw [List.getD_eq_getElem?_getD, List.getElem?_append_left hi, ← List.getD_eq_getElem?_getD]
theorem more_down {h : House} {t : Sign} {d : List Int} (hp : possible6 (moreS h t) d = true) : possible6 h (d.filter fun x => decide (x < (h.signs.length : Int))) = true := by
  rw [possible_iff6] at hp ⊢
  obtain ⟨c, hc, hr⟩ := hp
  refine ⟨c, hc, rightBut_iff6.2 fun i hi hf => ?_⟩
  rw [List.mem_filter, decide_eq_true_eq]
  refine ⟨rightBut_iff6.1 hr i (by show i < (h.signs ++ [t]).length; simp; omega) ?_, by omega⟩
  exact (signS_more (t := t) hi).trans hf
theorem more_up {h : House} {t : Sign} {d : List Int} (hp : possible6 h d = true) : possible6 (moreS h t) (d ++ [(h.signs.length : Int)]) = true := by
  rw [possible_iff6] at hp ⊢
  obtain ⟨c, hc, hr⟩ := hp
  refine ⟨c, hc, rightBut_iff6.2 fun i hi hf => ?_⟩
  have hi' : i < h.signs.length + 1 := by
    have : i < (h.signs ++ [t]).length := hi
    simpa using this
  rw [List.mem_append, List.mem_singleton]
  rcases Nat.lt_succ_iff_lt_or_eq.1 hi' with h1 | rfl
  · exact .inl (rightBut_iff6.1 hr i h1 ((signS_more (t := t) h1).symm.trans hf))
  · exact .inr rfl
theorem least_len {ok : List Int → Bool} {W : Nat} {c d : List Int} (hc : LeastS ok W c) (hi : Inc W 0 d) (hd : ok d = true) : c.length ≤ d.length := by
  have := hc.no d hi hd
  refine Classical.byContradiction fun hn => ?_
  rw [shorter_iff.2 (.inl (by omega))] at this; cases this
/-- The smallest sets of signs that can be left out. -/
theorem more_leave {h : House} {t : Sign} {c d : List Int} (hc : LeastS (possible6 h) h.signs.length c) (hd : LeastS (possible6 (moreS h t)) (h.signs.length + 1) d) : c.length ≤ d.length ∧ d.length ≤ c.length + 1 := by
  constructor
  · exact Nat.le_trans (least_len hc (inc_below hd.inc) (more_down hd.is)) (List.length_filter_le _ _)
  · have := least_len hd (inc_last hc.inc) (more_up hc.is)
    simpa using this
theorem more_closer (h : House) (t : Sign) : Closer (moreS h t) h :=
  ⟨fun c hc => by
    obtain ⟨h1, h2⟩ := List.mem_filter.1 hc
    refine List.mem_filter.2 ⟨h1, right_all.2 fun s hs => ?_⟩
    exact right_all.1 h2 s (List.mem_append_left _ hs), fun _ _ => rfl, rfl, rfl, rfl, rfl⟩
end Go.Proofs.YtdnbkjgbehakpaaGreat
