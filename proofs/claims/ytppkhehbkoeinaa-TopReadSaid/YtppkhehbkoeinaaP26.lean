/- Plain law: pieces that are brought back change the moves by their own alone. -/
import Derived.Test.YtppkhehbkoeinaaT47
import Derived.Test.YtppkhehbkoeinaaP27
namespace Go.Proofs.Ytppkhehbkoeinaa
open Go Go.Eng Go.RowKit

theorem cnt_drop {p q : Nat → Bool} {j : Nat} (h : ∀ i, i ≠ j → p i = q i) (hp : p j = false) (hq : q j = true) : ∀ n, cnt n q = cnt n p + (if j < n then 1 else 0)
  | 0 => by simp [cnt]
  | n + 1 => by
    have ih := cnt_drop h hp hq n
    by_cases e : n = j
    · subst e
      rw [cnt_yes hq, cnt_no hp, ih, if_neg (Nat.lt_irrefl _), if_pos (Nat.lt_succ_self _)]
    · have e1 : p n = q n := h n e
      have e2 : (if j < n + 1 then 1 else 0 : Nat) = if j < n then 1 else 0 := by
        by_cases h1 : j < n
        · rw [if_pos h1, if_pos (by omega)]
        · rw [if_neg h1, if_neg (by omega)]
      rw [e2]
      cases hqn : q n with
      | true => rw [cnt_yes hqn, cnt_yes (e1.trans hqn), ih]; omega
      | false => rw [cnt_no hqn, cnt_no (e1.trans hqn), ih]
theorem lies_down {t : Table} {p : Nat} {b : Int} {l : List Int} (hp : p < l.length) (hpp : p < t.pieces.length) (hb : (t.pieces.getD p default).bundle ≠ b) (hl : l.getD p 0 = b) : aN (lies t p b) l + 1 = aN t l := by
  have key : ∀ i, i ≠ p → (!decide (((lies t p b).pieces.getD i default).bundle = l.getD i 0)) = !decide ((t.pieces.getD i default).bundle = l.getD i 0) := fun i hi => by
    show (!decide (((setB t.pieces p b).getD i default).bundle = l.getD i 0)) = _
    rw [setB_get, if_neg (fun h => hi h.1)]
  have h1 := cnt_drop (j := p) key (by
    show (!decide (((setB t.pieces p b).getD p default).bundle = l.getD p 0)) = false
    rw [setB_get, if_pos ⟨rfl, hpp⟩, hl]; simp) (by rw [hl]; simpa using hb) l.length
  rw [if_pos hp] at h1
  unfold aN astray
  rw [sel_length, sel_length]
  omega
/-- The first of the least. -/
def FirstMin (t : Table) (all : List (List Int)) (j : Nat) : Prop := j < all.length ∧ ∀ i, i < all.length → aN t (all.getD j []) ≤ aN t (all.getD i []) ∧ (i < j → aN t (all.getD j []) < aN t (all.getD i []))
theorem FirstMin.lies {t : Table} {all : List (List Int)} {j p : Nat} (h : FirstMin t all j) (hp : p < (all.getD j []).length) (hpp : p < t.pieces.length) (hb : (t.pieces.getD p default).bundle ≠ (all.getD j []).getD p 0) : FirstMin (lies t p ((all.getD j []).getD p 0)) all j := by
  refine ⟨h.1, fun i hi => ?_⟩
  have h1 := h.2 i hi
  have h2 := lies_near t p ((all.getD j []).getD p 0) (all.getD i [])
  have h3 := lies_down hp hpp hb rfl
  refine ⟨by omega, fun hlt => ?_⟩
  have := h1.2 hlt
  omega
/-- What is so after some moves. -/
structure Back (t : Table) (l : List Int) (k : Nat) (x : Table) : Prop where
  valid : Valid x
  ask : ask x = Go.Proofs.Ytppkhehbkoeinaa.ask t
  first : FirstMin x (Go.Proofs.Ytppkhehbkoeinaa.ask t) (bestTo t (Go.Proofs.Ytppkhehbkoeinaa.ask t) (Go.Proofs.Ytppkhehbkoeinaa.ask t).length)
  at' : ∀ p, p < t.pieces.length → (x.pieces.getD p default).bundle = if ex k (fun i => decide (aAt t (fewest t (Go.Proofs.Ytppkhehbkoeinaa.ask t)) i = p) && decide ((p : Int) ∈ l)) = true then (fewest t (Go.Proofs.Ytppkhehbkoeinaa.ask t)).getD p 0 else (t.pieces.getD p default).bundle
end Go.Proofs.Ytppkhehbkoeinaa
