/- Plain law: pieces that are brought back change the moves by their own alone. -/
import Derived.Test.YtppkhehbkoeinaaT47
import Derived.Test.YtppkhehbkoeinaaP27
namespace Go.Proofs.Ytppkhehbkoeinaa
open Go Go.Eng Go.RowKit

theorem cnt_drop {p q : Nat → Bool} {j : Nat} (h : ∀ i, i ≠ j → p i = q i) (hp : p j = false) (hq : q j = true) : ∀ n, cnt n q = cnt n p + (if j < n then 1 else 0)
  | 0 => by simp [cnt]
  | n + 1 => by
    have ih := cnt_drop h hp hq n
    by_cases e : n = j
    · subst e
      rw [cnt_yes hq, cnt_no hp, ih, if_neg (Nat.lt_irrefl _), if_pos (Nat.lt_succ_self _)]
    · have e1 : p n = q n := h n e
      have e2 : (if j < n + 1 then 1 else 0 : Nat) = if j < n then 1 else 0 := by
        by_cases h1 : j < n
        · rw [if_pos h1, if_pos (by omega)]
        · rw [if_neg h1, if_neg (by omega)]
      rw [e2]
      cases hqn : q n with
      | true => rw [cnt_yes hqn, cnt_yes (e1.trans hqn), ih]; omega
      | false => rw [cnt_no hqn, cnt_no (e1.trans hqn), ih]
theorem lies_down {t : Table} {p : Nat} {b : Int} {l : List Int} (hp : p < l.length) (hpp : p < t.pieces.length) (hb : (t.pieces.getD p default).bundle ≠ b) (hl : l.getD p 0 = b) : aN (lies t p b) l + 1 = aN t l := by
  have key : ∀ i, i ≠ p → (!decide (((lies t p b).pieces.getD i default).bundle = l.getD i 0)) = !decide ((t.pieces.getD i default).bundle = l.getD i 0) := fun i hi => by
    show (!decide (((setB t.pieces p b).getD i default).bundle = l.getD i 0)) = _
    rw [setB_get, if_neg (fun h => hi h.1)]
  have h1 := cnt_drop (j := p) key (by
    show (!decide (((setB t.pieces p b).getD p default).bundle = l.getD p 0)) = false
    rw [setB_get, if_pos ⟨rfl, hpp⟩, hl]; simp) (by rw [hl]; simpa using hb) l.length
  rw [if_pos hp] at h1
  unfold aN astray
  rw [sel_length, sel_length]
  omega
/-- The first of the least. -/
def FirstMin (t : Table) (all : List (List Int)) (j : Nat) : Prop := j < all.length ∧ ∀ i, i < all.length → aN t (all.getD j []) ≤ aN t (all.getD i []) ∧ (i < j → aN t (all.getD j []) < aN t (all.getD i []))
theorem FirstMin.unique {t : Table} {all : List (List Int)} {i j : Nat} (h1 : FirstMin t all i) (h2 : FirstMin t all j) : i = j := by
  rcases Nat.lt_trichotomy i j with h | h | h
  · exact absurd (Int.lt_of_lt_of_le ((h2.2 i h1.1).2 h) (h1.2 j h2.1).1) (Int.lt_irrefl _)
  · exact h
  · exact absurd (Int.lt_of_lt_of_le ((h1.2 j h2.1).2 h) (h2.2 i h1.1).1) (Int.lt_irrefl _)
theorem firstMin_best {t : Table} {all : List (List Int)} (h : 0 < all.length) : FirstMin t all (bestTo t all all.length) := best_spec t all.length (Nat.le_refl _) h
theorem fewest_of {t : Table} {all : List (List Int)} {j : Nat} (h : FirstMin t all j) : fewest t all = all.getD j [] := by
  have := h.1
  unfold fewest
  rw [(firstMin_best (t := t) (all := all) (by omega)).unique h]
theorem FirstMin.lies {t : Table} {all : List (List Int)} {j p : Nat} (h : FirstMin t all j) (hp : p < (all.getD j []).length) (hpp : p < t.pieces.length) (hb : (t.pieces.getD p default).bundle ≠ (all.getD j []).getD p 0) : FirstMin (lies t p ((all.getD j []).getD p 0)) all j := by
  refine ⟨h.1, fun i hi => ?_⟩
  have h1 := h.2 i hi
  have h2 := lies_near t p ((all.getD j []).getD p 0) (all.getD i [])
  have h3 := lies_down hp hpp hb rfl
  refine ⟨by omega, fun hlt => ?_⟩
  have := h1.2 hlt
  omega
theorem movesOf_len (t : Table) (x : List Int) : (movesOf t x).length = (astray t x).length := by simp [movesOf]
theorem movesOf_get {t : Table} {x : List Int} {k : Nat} (hk : k < (astray t x).length) : (movesOf t x).getD k default = ⟨(aAt t x k : Int), (t.pieces.getD (aAt t x k) default).bundle, x.getD (aAt t x k) 0⟩ := by
  have h1 := (aAt_lt hk).2.1
  rw [List.getD_eq_getElem?_getD, List.getElem?_eq_getElem hk] at h1
  simp only [Option.getD_some] at h1
  have e : (movesOf t x)[k]'(by rw [movesOf_len]; exact hk) = ⟨(astray t x)[k], (t.pieces.getD ((astray t x)[k]).toNat default).bundle, x.getD ((astray t x)[k]).toNat 0⟩ := by simp [movesOf]
  rw [List.getD_eq_getElem?_getD, List.getElem?_eq_getElem (by rw [movesOf_len]; exact hk), Option.getD_some, e, h1, Int.toNat_natCast]
/-- The table, some pieces brought back. -/
def backTo (t : Table) (ms : List Move) (l : List Int) : Nat → Table
  | 0 => t
  | k + 1 => if (ms.getD k default).piece ∈ l then lies (backTo t ms l k) (ms.getD k default).piece.toNat (ms.getD k default).to else backTo t ms l k
theorem backTo_yes {t : Table} {ms : List Move} {l : List Int} {k : Nat} (h : (ms.getD k default).piece ∈ l) : backTo t ms l (k + 1) = lies (backTo t ms l k) (ms.getD k default).piece.toNat (ms.getD k default).to := if_pos h
theorem backTo_no {t : Table} {ms : List Move} {l : List Int} {k : Nat} (h : (ms.getD k default).piece ∉ l) : backTo t ms l (k + 1) = backTo t ms l k := if_neg h
theorem backTo_women (t : Table) (ms : List Move) (l : List Int) : ∀ k, (backTo t ms l k).women = t.women
  | 0 => rfl
  | k + 1 => by
    rw [backTo]; split
    · exact backTo_women t ms l k
    · exact backTo_women t ms l k
theorem backTo_wrong (t : Table) (ms : List Move) (l : List Int) : ∀ k, (backTo t ms l k).wrong = t.wrong
  | 0 => rfl
  | k + 1 => by
    rw [backTo]; split
    · exact backTo_wrong t ms l k
    · exact backTo_wrong t ms l k
theorem backTo_len (t : Table) (ms : List Move) (l : List Int) : ∀ k, (backTo t ms l k).pieces.length = t.pieces.length
  | 0 => rfl
  | k + 1 => by
    rw [backTo]; split
    · exact (setB_len _ _ _).trans (backTo_len t ms l k)
    · exact backTo_len t ms l k
theorem backTo_map (t : Table) (ms : List Move) (l : List Int) : ∀ k, (backTo t ms l k).pieces.map (·.marks) = t.pieces.map (·.marks)
  | 0 => rfl
  | k + 1 => by
    rw [backTo]; split
    · exact (setB_map _ _ _).trans (backTo_map t ms l k)
    · exact backTo_map t ms l k
/-- The moves that are left. -/
def leftM (ms : List Move) (l : List Int) (k : Nat) : List Move := (ms.take k).filter fun m => !decide (m.piece ∈ l)
/-- What is so after some moves. -/
structure Back (t : Table) (l : List Int) (k : Nat) (x : Table) : Prop where
  valid : Valid x
  ask : ask x = Go.Proofs.Ytppkhehbkoeinaa.ask t
  first : FirstMin x (Go.Proofs.Ytppkhehbkoeinaa.ask t) (bestTo t (Go.Proofs.Ytppkhehbkoeinaa.ask t) (Go.Proofs.Ytppkhehbkoeinaa.ask t).length)
  at' : ∀ p, p < t.pieces.length → (x.pieces.getD p default).bundle = if ex k (fun i => decide (aAt t (fewest t (Go.Proofs.Ytppkhehbkoeinaa.ask t)) i = p) && decide ((p : Int) ∈ l)) = true then (fewest t (Go.Proofs.Ytppkhehbkoeinaa.ask t)).getD p 0 else (t.pieces.getD p default).bundle
theorem back_spec {t : Table} (hV : Valid t) (h0 : ask t ≠ []) (l : List Int) : ∀ k, k ≤ (astray t (fewest t (ask t))).length → Back t l k (backTo t (movesOf t (fewest t (ask t))) l k)
  | 0, _ => ⟨hV, rfl, firstMin_best (List.length_pos_iff.2 h0), fun p _ => by simp [ex, backTo]⟩
  | k + 1, hk => by
    have ih := back_spec hV h0 l k (by omega)
    have hF : (fewest t (ask t)).length = t.pieces.length := ask_lens (fewest_mem h0)
    have hown := areOwners_iff.1 (ask_are (fewest_mem h0))
    have hm := movesOf_get (t := t) (x := fewest t (ask t)) (k := k) (by omega)
    obtain ⟨a1, a2, a3⟩ := aAt_lt (t := t) (x := fewest t (ask t)) (j := k) (by omega)
    have hex : ∀ p, ex (k + 1) (fun i => decide (aAt t (fewest t (ask t)) i = p) && decide ((p : Int) ∈ l)) = (ex k (fun i => decide (aAt t (fewest t (ask t)) i = p) && decide ((p : Int) ∈ l)) || (decide (aAt t (fewest t (ask t)) k = p) && decide ((p : Int) ∈ l))) := fun p => ex_succ ..
    generalize hp : aAt t (fewest t (ask t)) k = p at *
    by_cases h : ((movesOf t (fewest t (ask t))).getD k default).piece ∈ l
    · rw [backTo_yes h, hm]
      rw [hm] at h
      simp only [Int.toNat_natCast]
      have hnow : ((backTo t (movesOf t (fewest t (ask t))) l k).pieces.getD p default).bundle = (t.pieces.getD p default).bundle := by
        rw [ih.at' p (by omega), if_neg]
        rw [ex_iff]
        rintro ⟨i, hi, e⟩
        simp only [Bool.and_eq_true, decide_eq_true_eq] at e
        exact aAt_ne (t := t) (x := fewest t (ask t)) hi (by omega) (e.1.trans hp.symm)
      have hlen := backTo_len t (movesOf t (fewest t (ask t))) l k
      have hwom := backTo_women t (movesOf t (fewest t (ask t))) l k
      obtain ⟨w, hw, _, ew⟩ := mem_sel.1 (hown.2 p a1)
      have hfm := ih.first.lies (p := p) (by rw [show (ask t).getD (bestTo t (ask t) (ask t).length) [] = fewest t (ask t) from rfl]; exact a1) (by omega) (by rw [hnow]; exact a3)
      rw [show (ask t).getD (bestTo t (ask t) (ask t).length) [] = fewest t (ask t) from rfl] at hfm
      refine ⟨lies_valid ih.valid (by rw [hwom, ew]; omega), (lies_ask _ _ _).trans ih.ask, hfm, fun q hq => ?_⟩
      show ((setB _ p _).getD q default).bundle = _
      rw [setB_get, hex]
      by_cases hqp : q = p
      · subst hqp
        rw [if_pos ⟨rfl, by omega⟩, if_pos (by simp; exact .inr h)]
      · rw [if_neg (fun h => hqp h.1), ih.at' q hq, show decide (p = q) = false from decide_eq_false (fun e => hqp e.symm), Bool.false_and, Bool.or_false]
    · rw [backTo_no h]
      rw [hm] at h
      refine ⟨ih.valid, ih.ask, ih.first, fun q hq => ?_⟩
      rw [ih.at' q hq, hex]
      have : (decide (p = q) && decide ((q : Int) ∈ l)) = false := by
        rw [Bool.and_eq_false_iff]
        by_cases e : p = q
        · subst e; exact .inr (decide_eq_false h)
        · exact .inl (decide_eq_false e)
      rw [this, Bool.or_false]
theorem sel_filter (n : Nat) (p : Nat → Bool) (q : Int → Bool) : (sel n p).filter q = sel n (fun i => p i && q (i : Int)) := by
  unfold sel
  rw [List.filter_map, List.filter_filter]
  congr 1
  refine List.filter_congr fun i _ => ?_
  rw [Bool.and_comm]; rfl
/-- The moves, if some pieces are brought back. -/
theorem back_moves {t : Table} (hV : Valid t) (h0 : ask t ≠ []) (l : List Int) :
    movesOf (backTo t (movesOf t (fewest t (ask t))) l (movesOf t (fewest t (ask t))).length) (fewest (backTo t (movesOf t (fewest t (ask t))) l (movesOf t (fewest t (ask t))).length) (ask (backTo t (movesOf t (fewest t (ask t))) l (movesOf t (fewest t (ask t))).length))) = leftM (movesOf t (fewest t (ask t))) l (movesOf t (fewest t (ask t))).length := by
  have hB := back_spec hV h0 l _ (Nat.le_refl _)
  rw [← movesOf_len] at hB
  have hF : (fewest t (ask t)).length = t.pieces.length := ask_lens (fewest_mem h0)
  have hf : fewest (backTo t (movesOf t (fewest t (ask t))) l (movesOf t (fewest t (ask t))).length) (ask (backTo t (movesOf t (fewest t (ask t))) l (movesOf t (fewest t (ask t))).length)) = fewest t (ask t) := by
    rw [hB.ask]; exact fewest_of hB.first
  rw [hf]
  have hat := hB.at'
  generalize hx : backTo t (movesOf t (fewest t (ask t))) l (movesOf t (fewest t (ask t))).length = x at *
  rw [movesOf_len] at hat
  have hex : ∀ p, p < t.pieces.length → ex (astray t (fewest t (ask t))).length (fun i => decide (aAt t (fewest t (ask t)) i = p) && decide ((p : Int) ∈ l)) = (!decide ((t.pieces.getD p default).bundle = (fewest t (ask t)).getD p 0) && decide ((p : Int) ∈ l)) := fun p hp => by
    rw [Bool.eq_iff_iff, ex_iff]
    constructor
    · rintro ⟨i, hi, e⟩
      simp only [Bool.and_eq_true, decide_eq_true_eq] at e
      have := (aAt_lt hi).2.2
      rw [e.1] at this
      simp only [Bool.and_eq_true, Bool.not_eq_true', decide_eq_false_iff_not, decide_eq_true_eq]
      exact ⟨this, e.2⟩
    · intro h
      simp only [Bool.and_eq_true, Bool.not_eq_true', decide_eq_false_iff_not, decide_eq_true_eq] at h
      obtain ⟨j, hj, e⟩ := getD_of_mem (show (p : Int) ∈ astray t (fewest t (ask t)) from mem_sel.2 ⟨p, by omega, by simpa using h.1, rfl⟩)
      exact ⟨j, hj, by simp only [Bool.and_eq_true, decide_eq_true_eq]; exact ⟨by unfold aAt; rw [e, Int.toNat_natCast], h.2⟩⟩
  unfold leftM
  rw [List.take_length]
  unfold movesOf
  rw [List.filter_map]
  have e1 : astray x (fewest t (ask t)) = (astray t (fewest t (ask t))).filter (fun i => !decide (i ∈ l)) := by
    unfold astray
    rw [sel_filter]
    refine sel_congr fun i hi => ?_
    rw [hat i (by omega), hex i (by omega)]
    by_cases h1 : (t.pieces.getD i default).bundle = (fewest t (ask t)).getD i 0
    · rw [decide_eq_true h1]
      simp only [Bool.not_true, Bool.false_and, Bool.false_eq_true, if_false]
      rw [decide_eq_true h1]; rfl
    · rw [decide_eq_false h1]
      by_cases h2 : (i : Int) ∈ l
      · rw [decide_eq_true h2]; simp
      · rw [decide_eq_false h2]
        simp only [Bool.and_false, Bool.false_eq_true, if_false, Bool.not_false, Bool.and_true]
        rw [decide_eq_false h1]; rfl
  rw [show ((fun m : Move => !decide (m.piece ∈ l)) ∘ fun i : Int => (⟨i, (t.pieces.getD i.toNat default).bundle, (fewest t (ask t)).getD i.toNat 0⟩ : Move)) = fun i : Int => !decide (i ∈ l) from rfl, ← e1]
  refine List.map_congr_left fun i hi => ?_
  obtain ⟨p, hp, hne, rfl⟩ := mem_sel.1 hi
  simp only [Int.toNat_natCast]
  have h1 := hat p (by omega)
  have hne' : (x.pieces.getD p default).bundle ≠ (fewest t (ask t)).getD p 0 := by simpa using hne
  rw [h1] at hne' ⊢
  split at hne'
  · exact absurd rfl hne'
  · rename_i hno
    rw [if_neg hno]
end Go.Proofs.Ytppkhehbkoeinaa
