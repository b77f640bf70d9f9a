/- Plain law: what must wait. -/
import Derived.Test.YtdjkokpbeaapoaaGreatT83
namespace Go.Proofs.YtdjkokpbeaapoaaGreat
open Go Go.Eng Go.RowKit

theorem mem_piecesB {ms : List Move} (hinc : (ms.map (·.piece)).Pairwise (· < ·)) {q : Nat → Bool} {i : Nat} (hi : i < ms.length) : (ms.getD i default).piece ∈ piecesB ms q ↔ q i = true := by
  unfold piecesB
  rw [piecesTo_filter, List.mem_map]
  constructor
  · rintro ⟨j, hj, e⟩
    obtain ⟨h1, h2⟩ := List.mem_filter.1 hj
    have h1 := List.mem_range.1 h1
    have : j = i := by
      have hg : ∀ k (hk : k < ms.length), (ms.map (·.piece))[k]'(by simpa using hk) = (ms.getD k default).piece := fun k hk => by simp [List.getD_eq_getElem?_getD, List.getElem?_eq_getElem hk]
      rcases Nat.lt_trichotomy j i with h | h | h
      · have := List.pairwise_iff_getElem.1 hinc j i (by simpa using h1) (by simpa using hi) h
        rw [hg j h1, hg i hi] at this; omega
      · exact h
      · have := List.pairwise_iff_getElem.1 hinc i j (by simpa using hi) (by simpa using h1) h
        rw [hg j h1, hg i hi] at this; omega
    rw [← this]; exact h2
  · intro h
    exact ⟨i, List.mem_filter.2 ⟨List.mem_range.2 hi, h⟩, rfl⟩
theorem mem_leftP {ms : List Move} (hinc : (ms.map (·.piece)).Pairwise (· < ·)) {w : List Int} {i : Nat} (hi : i < ms.length) : (ms.getD i default).piece ∈ leftP ms w ↔ brought w (ms.getD i default) = false := by
  unfold leftP
  rw [mem_piecesB hinc hi, Bool.not_eq_true']
/-- Of the pieces of moves those that are not brought back. -/
def stay (ms : List Move) (b : List Int) (k : Nat) : List Int := ((ms.map (·.piece)).take k).filter fun p => !decide (p ∈ b)
theorem stay_zero (ms : List Move) (b : List Int) : stay ms b 0 = [] := rfl
theorem pcs_get' {ms : List Move} {k : Nat} (hk : k < ms.length) : (ms.map (·.piece)).getD k 0 = (ms.getD k default).piece := by
  simp [List.getD_eq_getElem?_getD, List.getElem?_eq_getElem hk]
theorem take_snoc' {l : List Int} {k : Nat} (h : k < l.length) : l.take (k + 1) = l.take k ++ [l.getD k 0] := by
  rw [List.take_add_one, List.getD_eq_getElem?_getD, List.getElem?_eq_getElem h]; rfl
theorem stay_yes {ms : List Move} {b : List Int} {k : Nat} (hk : k < ms.length) (h : (ms.getD k default).piece ∈ b) : stay ms b (k + 1) = stay ms b k := by
  unfold stay
  rw [take_snoc' (by simpa using hk), List.filter_append, pcs_get' hk, List.filter_cons_of_neg (by simpa using h), List.filter_nil, List.append_nil]
theorem stay_no {ms : List Move} {b : List Int} {k : Nat} (hk : k < ms.length) (h : (ms.getD k default).piece ∉ b) : stay ms b (k + 1) = stay ms b k ++ [(ms.getD k default).piece] := by
  unfold stay
  rw [take_snoc' (by simpa using hk), List.filter_append, pcs_get' hk, List.filter_cons_of_pos (by simpa using h), List.filter_nil]
theorem stay_len (ms : List Move) (b : List Int) (k : Nat) : (stay ms b k).length ≤ ms.length := by
  unfold stay
  refine Nat.le_trans (List.length_filter_le ..) ?_
  simp; omega
theorem stay_left {ms : List Move} (hinc : (ms.map (·.piece)).Pairwise (· < ·)) (w : List Int) : stay ms (piecesB ms fun i => brought w (ms.getD i default)) ms.length = leftP ms w := by
  unfold stay leftP
  conv => rhs; unfold piecesB
  rw [piecesTo_filter, List.take_of_length_le (by simp)]
  have e : ms.map (·.piece) = (List.range ms.length).map fun i => (ms.getD i default).piece := by
    apply List.ext_getElem
    · simp
    · intro i h1 h2
      simp at h1
      simp [List.getD_eq_getElem?_getD, List.getElem?_eq_getElem h1]
  rw [e, List.filter_map]
  congr 1
  refine List.filter_congr fun i hi => ?_
  have := mem_piecesB hinc (q := fun i => brought w (ms.getD i default)) (List.mem_range.1 hi)
  show (!decide ((ms.getD i default).piece ∈ piecesB ms _)) = _
  cases hb : brought w (ms.getD i default) with
  | true => rw [decide_eq_true (this.2 hb)]
  | false => rw [decide_eq_false (fun h => by rw [this.1 h] at hb; cases hb)]
theorem sure_mem {r : Errand} (hV : ValidE r) {w : List Int} (hw : Walk r.n w) (hs : sureB r w = true) : w ∈ allW r := by
  have h1 := (sureB_iff.1 hs).1
  have h2 := hV.calls
  exact (mem_walks (by omega)).2 ⟨hw, by omega⟩
theorem wait_no {r : Errand} (hV : ValidE r) {w : List Int} (hw : Walk r.n w) (hs : sureB r w = true) : shorter (leftP (movesR r) w) (waitV r) = false :=
  (waitP_least (r := r) (ms := movesR r) (all := allW r)).no _ (.inr ⟨w, sure_mem hV hw hs, hs, rfl⟩)
theorem nil_sure {r : Errand} (hV : ValidE r) : sureB r [] = true := sureB_iff.2 ⟨by have := hV.calls; simp; omega, fun i hi => absurd hi (by simp)⟩
theorem wait_some {r : Errand} (hV : ValidE r) : ∃ w ∈ allW r, sureB r w = true ∧ ∀ i, i < (movesR r).length → brought w ((movesR r).getD i default) = true ∨ ((movesR r).getD i default).piece ∈ waitV r := by
  have hinc := (movesR_ok hV).inc
  rcases (waitP_least (r := r) (ms := movesR r) (all := allW r)).is with h | ⟨w, hw, hs, h⟩
  · refine ⟨[], sure_mem hV (walk_nil _) (nil_sure hV), nil_sure hV, fun i hi => .inr ?_⟩
    unfold waitV
    rw [h, ← pcs_get' hi]
    exact mem_getD (by simpa using hi)
  · refine ⟨w, hw, hs, fun i hi => ?_⟩
    cases hb : brought w ((movesR r).getD i default) with
    | true => exact .inl rfl
    | false =>
      right
      unfold waitV
      rw [h]
      exact (mem_leftP hinc hi).2 hb
theorem left_nil {ms : List Move} (hinc : (ms.map (·.piece)).Pairwise (· < ·)) {w : List Int} : leftP ms w = [] ↔ bringsN ms w = fullM ms := by
  rw [bringsN_full, forall_getD (d := default)]
  constructor
  · intro h i hi
    cases hb : brought w (ms.getD i default) with
    | true => rfl
    | false => have := (mem_leftP hinc hi).2 hb; rw [h] at this; cases this
  · intro h
    unfold leftP piecesB
    rw [piecesTo_filter, List.map_eq_nil_iff, List.filter_eq_nil_iff]
    intro i hi
    rw [h i (List.mem_range.1 hi)]; simp
theorem wait_nil {r : Errand} (hV : ValidE r) : waitV r = [] ↔ (bestV r).isSome = true := by
  have hinc := (movesR_ok hV).inc
  have hbv : bestV r = bestW r (movesR r) (allW r) (allW r).length := bestP_eq (walks_pairwise _ _) (Nat.le_refl _)
  have hL := waitP_least (r := r) (ms := movesR r) (all := allW r)
  rw [hbv]
  constructor
  · intro h
    have hsv : ∃ w ∈ allW r, servesB r (movesR r) w = true := by
      rcases hL.is with h1 | ⟨w, hw, hs, h1⟩
      · refine ⟨[], sure_mem hV (walk_nil _) (nil_sure hV), servesB_iff.2 ⟨?_, nil_sure hV⟩⟩
        have : (movesR r).map (·.piece) = [] := by rw [← h1]; exact h
        rw [List.map_eq_nil_iff] at this
        rw [this]; rfl
      · exact ⟨w, hw, servesB_iff.2 ⟨(left_nil hinc).1 (by rw [← h1]; exact h), hs⟩⟩
    cases hb : bestW r (movesR r) (allW r) (allW r).length with
    | some b => rfl
    | none =>
      obtain ⟨w, hw, hs⟩ := hsv
      have := bestW_none hb w hw
      rw [hs] at this; cases this
  · intro h
    obtain ⟨b, hb⟩ := Option.isSome_iff_exists.1 h
    have hB := bestW_some hb
    have hs := servesB_iff.1 hB.serves
    have := hL.no _ (.inr ⟨b, hB.mem, hs.2, rfl⟩)
    rw [(left_nil hinc).2 hs.1] at this
    have hn : ¬ (0 < (waitV r).length) := fun hlt => by
      have h2 : shorter [] (waitV r) = true := shorter_iff.2 (.inl (by simpa using hlt))
      unfold waitV at h2
      rw [this] at h2; cases h2
    exact List.eq_nil_of_length_eq_zero (by omega)
end Go.Proofs.YtdjkokpbeaapoaaGreat
