/- ProveFewest: its contract; the plain law of the best truth. -/
import Derived.Test.YtppkhehbkoeinaaT42
import Derived.Test.YtppkhehbkoeinaaT38
import Derived.Test.YtppkhehbkoeinaaP9
namespace Go.Proofs.Ytppkhehbkoeinaa
open Go Go.Eng Go.RowKit

/-! ### The best truth -/
theorem best_spec (t : Table) {all : List (List Int)} : ∀ k, k ≤ all.length → 0 < k → bestTo t all k < k ∧ ∀ i, i < k → aN t (all.getD (bestTo t all k) []) ≤ aN t (all.getD i []) ∧ (i < bestTo t all k → aN t (all.getD (bestTo t all k) []) < aN t (all.getD i []))
  | 0, _, h => absurd h (Nat.lt_irrefl _)
  | 1, _, _ => by
    have e : bestTo t all 1 = 0 := by simp [bestTo]
    rw [e]
    exact ⟨Nat.one_pos, fun i hi => ⟨by have : i = 0 := by omega
                                        subst this; exact Int.le_refl _, fun h => absurd h (Nat.not_lt_zero _)⟩⟩
  | k + 2, hk, _ => by
    obtain ⟨h1, h2⟩ := best_spec t (all := all) (k + 1) (by omega) (Nat.succ_pos k)
    have e : bestTo t all (k + 2) = if (astray t (all.getD (k + 1) [])).length < (astray t (all.getD (bestTo t all (k + 1)) [])).length then k + 1 else bestTo t all (k + 1) := by rw [bestTo]
    rw [e]
    split
    · rename_i hlt
      refine ⟨by omega, fun i hi => ?_⟩
      rcases Nat.lt_succ_iff_lt_or_eq.1 hi with h | rfl
      · have := (h2 i h).1
        simp only [aN] at this ⊢
        exact ⟨by omega, fun _ => by omega⟩
      · exact ⟨Int.le_refl _, fun h => absurd h (Nat.lt_irrefl _)⟩
    · rename_i hge
      refine ⟨by omega, fun i hi => ?_⟩
      rcases Nat.lt_succ_iff_lt_or_eq.1 hi with h | rfl
      · exact h2 i h
      · simp only [aN]
        exact ⟨by omega, fun h => by omega⟩
theorem getD_memL {T : List (List Int)} {i : Nat} (h : i < T.length) : T.getD i [] ∈ T := by
  rw [List.getD_eq_getElem?_getD, List.getElem?_eq_getElem h]; exact List.getElem_mem h
theorem fewest_mem {t : Table} (h0 : ask t ≠ []) : fewest t (ask t) ∈ ask t := getD_memL (bestTo_lt t (List.length_pos_iff.2 h0) _ (Nat.le_refl _))
theorem fewest_lo {t : Table} (h0 : ask t ≠ []) : aN t (fewest t (ask t)) = loQ (aN t) (ask t) (ask t).length := by
  obtain ⟨_, h2⟩ := best_spec t (ask t).length (Nat.le_refl _) (List.length_pos_iff.2 h0)
  obtain ⟨l, hl, e⟩ := loA_mem (g := aN t) h0
  have h3 := (le_loA (g := aN t) (c := loQ (aN t) (ask t) (ask t).length) h0).1 (Int.le_refl _) _ (fewest_mem h0)
  obtain ⟨i, hi, rfl⟩ := List.mem_iff_getElem.1 hl
  have h4 := (h2 i hi).1
  rw [List.getD_eq_getElem?_getD (i := i), List.getElem?_eq_getElem hi] at h4
  unfold loA at e
  unfold fewest at h3 ⊢
  simp only [Option.getD_some] at h4
  omega
/-! ### The pieces behind the first moves -/
def aAt (t : Table) (x : List Int) (j : Nat) : Nat := ((astray t x).getD j 0).toNat
def ysTo (t : Table) (x : List Int) : Nat → List Piece
  | 0 => t.pieces
  | j + 1 => setB (ysTo t x j) (aAt t x j) (x.getD (aAt t x j) 0)
theorem aAt_lt {t : Table} {x : List Int} {j : Nat} (hj : j < (astray t x).length) : aAt t x j < x.length ∧ ((astray t x).getD j 0) = (aAt t x j : Int) ∧ (t.pieces.getD (aAt t x j) default).bundle ≠ x.getD (aAt t x j) 0 := by
  obtain ⟨y, h1, h2, e⟩ := mem_sel.1 (mem_getD (xs := astray t x) hj)
  unfold aAt
  rw [e, Int.toNat_natCast]
  exact ⟨h1, rfl, by simpa using h2⟩
theorem aAt_ne {t : Table} {x : List Int} {i j : Nat} (hij : i < j) (hj : j < (astray t x).length) : aAt t x i ≠ aAt t x j := fun e => by
  have hpw := sel_pairwise x.length fun i => !decide ((t.pieces.getD i default).bundle = x.getD i 0)
  have h1 := (aAt_lt (t := t) (x := x) (j := i) (by omega)).2.1
  have h2 := (aAt_lt (t := t) (x := x) hj).2.1
  have := List.pairwise_iff_getElem.1 hpw i j (by unfold astray at hj; omega) hj hij
  rw [List.getD_eq_getElem?_getD, List.getElem?_eq_getElem (by omega)] at h1
  rw [List.getD_eq_getElem?_getD, List.getElem?_eq_getElem hj] at h2
  simp only [Option.getD_some] at h1 h2
  unfold astray at h1 h2
  omega
def behind (t : Table) (x : List Int) : Table := ⟨t.women, ysTo t x (astray t x).length, t.wrong⟩
end Go.Proofs.Ytppkhehbkoeinaa
