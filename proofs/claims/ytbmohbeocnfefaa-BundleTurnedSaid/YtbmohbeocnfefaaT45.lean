/- Tables with wider counts: the plain law. -/
import Derived.Test.YtbmohbeocnfefaaT39
import Derived.Test.YtbmohbeocnfefaaT40
namespace Go.Proofs.Ytbmohbeocnfefaa
open Go Go.Eng Go.RowKit

section
variable {P : Program} {n : Nat} {c : Cx P n} {l : List (Nat × Value)} {Ms : List Mem} {μ : List Res} {dst : Option Tmp} {x y : Operand} {t t' ty : TypeId} {pos : String} {af : Array Edge} {gd : Option (Nat × Bool)}
end
theorem women_cut {ws : List Woman} {i : Nat} (hi : i < ws.length) : ∃ a b, ws = a ++ ws.getD i default :: b ∧ a.length = i ∧ ∀ x, ws.set i x = a ++ x :: b := by
  refine ⟨ws.take i, ws.drop (i + 1), ?_, by rw [List.length_take]; omega, fun x => ?_⟩
  · rw [List.getD_eq_getElem?_getD, List.getElem?_eq_getElem hi]; simp
  · rw [List.set_eq_take_append_cons_drop, if_pos hi]
theorem flat_women (a b : List Woman) (w : Woman) : flatv ((a ++ w :: b).map wv3) = flatv (a.map wv3) ++ ([vi w.mark, vi w.lo, vi w.hi] ++ flatv (b.map wv3)) := by
  rw [List.map_append, List.map_cons, flatv_append]; rfl
theorem flat_wlen (a : List Woman) : (flatv (a.map wv3)).length = a.length * 3 := by rw [flatv_len (k := 3) (by simp [wv3, Value.cells]), List.length_map]
structure More (t x : Table) : Prop where
  same : Same t x
  pcs : x.pieces = t.pieces
  valid : Valid x
  right : ∀ l i, i < t.women.length → rightP t l i = true → rightP x l i = true
  wrong : t.wrong ≤ x.wrong
theorem More.truth {t x : Table} (h : More t x) {l : List Int} (hl : isTruthP t l = true) : isTruthP x l = true := by
  unfold isTruthP at hl ⊢
  have hl := of_decide_eq_true hl
  refine decide_eq_true ?_
  have hle : (wrongP x l).length ≤ (wrongP t l).length := by
    unfold wrongP
    rw [sel_length, sel_length, h.same.women]
    unfold cnt
    refine List.countP_mono_left fun i hi hr => ?_
    have hi := List.mem_range.1 hi
    cases hc : rightP t l i with
    | true => have := h.right l i hi hc; rw [this] at hr; cases hr
    | false => rfl
  have := h.wrong
  omega
theorem More.sub {t x : Table} (h : More t x) {l : List Int} (hl : l ∈ ask t) : l ∈ ask x := by
  unfold ask at hl ⊢
  rw [h.same.all]
  obtain ⟨h1, h2⟩ := List.mem_filter.1 hl
  exact List.mem_filter.2 ⟨h1, h.truth h2⟩
theorem More.ne {t x : Table} (h : More t x) (h0 : ask t ≠ []) : ask x ≠ [] := by
  obtain ⟨l, hl⟩ := List.exists_mem_of_ne_nil _ h0
  exact fun e => by have := h.sub hl; rw [e] at this; cases this
theorem More.poss {t x : Table} (h : More t x) {out : List Int} (hp : possibleB t out = true) : possibleB x out = true := by
  obtain ⟨l, hl, hr⟩ := possible_iff.1 hp
  refine possible_iff.2 ⟨l, by rw [h.same.all]; exact hl, rightBut_iff.2 fun i hi hx => ?_⟩
  rw [h.same.women] at hi
  refine rightBut_iff.1 hr i hi ?_
  cases hc : rightP t l i with
  | true => have := h.right l i hi hc; rw [this] at hx; cases hx
  | false => rfl
theorem More.left {t x : Table} (h : More t x) {l m : List Int} (hl : Small t l) (hm : Small x m) : m.length ≤ l.length := by
  obtain ⟨k, hk, e⟩ := hl.set
  have hfx : full x = full t := by unfold full; rw [h.same.women]
  have := hm.least k (by rw [hfx]; exact hk) (h.poss (by rw [e]; exact hl.can))
  rw [e] at this
  rw [Bool.eq_false_iff] at this
  rcases Nat.lt_or_ge l.length m.length with h1 | h1
  · exact absurd (shorter_iff.2 (.inl h1)) this
  · exact h1
theorem More.aN {t x : Table} (h : More t x) (l : List Int) : aN x l = aN t l := by
  unfold Go.Proofs.Ytbmohbeocnfefaa.aN astray; rw [h.pcs]
theorem More.lo {t x : Table} (h : More t x) (h0 : ask t ≠ []) : loQ (Go.Proofs.Ytbmohbeocnfefaa.aN x) (ask x) (ask x).length ≤ loQ (Go.Proofs.Ytbmohbeocnfefaa.aN t) (ask t) (ask t).length := by
  refine (le_loA (g := Go.Proofs.Ytbmohbeocnfefaa.aN t) h0).2 fun l hl => ?_
  rw [← h.aN]
  exact (le_loA (g := Go.Proofs.Ytbmohbeocnfefaa.aN x) (c := loQ (Go.Proofs.Ytbmohbeocnfefaa.aN x) (ask x) (ask x).length) (h.ne h0)).1 (Int.le_refl _) l (h.sub hl)
theorem More.hi {t x : Table} (h : More t x) (h0 : ask t ≠ []) : hiQ (Go.Proofs.Ytbmohbeocnfefaa.aN t) (ask t) (ask t).length ≤ hiQ (Go.Proofs.Ytbmohbeocnfefaa.aN x) (ask x) (ask x).length := by
  refine (hiA_le (g := Go.Proofs.Ytbmohbeocnfefaa.aN t) h0).2 fun l hl => ?_
  rw [← h.aN]
  exact (hiA_le (g := Go.Proofs.Ytbmohbeocnfefaa.aN x) (c := hiQ (Go.Proofs.Ytbmohbeocnfefaa.aN x) (ask x) (ask x).length) (h.ne h0)).1 (Int.le_refl _) l (h.sub hl)
end Go.Proofs.Ytbmohbeocnfefaa
