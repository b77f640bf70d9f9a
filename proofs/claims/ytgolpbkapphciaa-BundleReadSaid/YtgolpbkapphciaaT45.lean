/- Tables with wider counts: the plain law. -/
import Derived.Test.YtgolpbkapphciaaT39
import Derived.Test.YtgolpbkapphciaaT40
namespace Go.Proofs.Ytgolpbkapphciaa
open Go Go.Eng Go.RowKit

section
variable {P : Program} {n : Nat} {c : Cx P n} {l : List (Nat × Value)} {Ms : List Mem} {μ : List Res} {dst : Option Tmp} {x y : Operand} {t t' ty : TypeId} {pos : String} {af : Array Edge} {gd : Option (Nat × Bool)}
theorem OpVal.nilCheckR {T : TypeId} {v : Value} {k i off N : Nat} {xs : List Value} (hx : lk l x = some (EP v k i off)) (hr : Res.row T k v N xs ∈ μ) (hlt : i < N) : OpVal c ⟨dst, .nilCheck x, ty, pos, af, gd⟩ l Ms μ (EP v k i off) :=
  OpVal.of_runs (by simp) (by simp) fun a w hh => by
    obtain ⟨a0, cap, rfl, h0⟩ := row_form (hh.mem.res _ hr)
    obtain ⟨b, rfl⟩ := h0 (by omega)
    simp [execOp, hh.lk hx, EP]
end
theorem women_cut {ws : List Woman} {i : Nat} (hi : i < ws.length) : ∃ a b, ws = a ++ ws.getD i default :: b ∧ a.length = i ∧ ∀ x, ws.set i x = a ++ x :: b := by
  refine ⟨ws.take i, ws.drop (i + 1), ?_, by rw [List.length_take]; omega, fun x => ?_⟩
  · rw [List.getD_eq_getElem?_getD, List.getElem?_eq_getElem hi]; simp
  · rw [List.set_eq_take_append_cons_drop, if_pos hi]
theorem flat_women (a b : List Woman) (w : Woman) : flatv ((a ++ w :: b).map wv3) = flatv (a.map wv3) ++ ([vi w.mark, vi w.lo, vi w.hi] ++ flatv (b.map wv3)) := by
  rw [List.map_append, List.map_cons, flatv_append]; rfl
theorem flat_wlen (a : List Woman) : (flatv (a.map wv3)).length = a.length * 3 := by rw [flatv_len (k := 3) (by simp [wv3, Value.cells]), List.length_map]
theorem women_lo {ws : List Woman} {i : Nat} (hi : i < ws.length) (x : Int) :
    (flatv (ws.map wv3)).take (i * 3 + 1) ++ ((vi x).cells.toList ++ (flatv (ws.map wv3)).drop (i * 3 + 1 + 1)) = flatv ((ws.set i ⟨(ws.getD i default).mark, x, (ws.getD i default).hi⟩).map wv3) := by
  obtain ⟨a, b, e, hl, hset⟩ := women_cut hi
  rw [hset]
  generalize ws.getD i default = w at *
  subst e
  rw [flat_women, flat_women]
  have hf := flat_wlen a
  generalize flatv (a.map wv3) = A at *
  generalize flatv (b.map wv3) = B at *
  rw [List.take_append, List.take_of_length_le (by omega), hf, hl, show i * 3 + 1 - i * 3 = 1 by omega, List.drop_append, List.drop_of_length_le (by omega), hf, hl, show i * 3 + 1 + 1 - i * 3 = 2 by omega]
  simp [Value.cells]
theorem women_hi {ws : List Woman} {i : Nat} (hi : i < ws.length) (x : Int) :
    (flatv (ws.map wv3)).take (i * 3 + 2) ++ ((vi x).cells.toList ++ (flatv (ws.map wv3)).drop (i * 3 + 2 + 1)) = flatv ((ws.set i ⟨(ws.getD i default).mark, (ws.getD i default).lo, x⟩).map wv3) := by
  obtain ⟨a, b, e, hl, hset⟩ := women_cut hi
  rw [hset]
  generalize ws.getD i default = w at *
  subst e
  rw [flat_women, flat_women]
  have hf := flat_wlen a
  generalize flatv (a.map wv3) = A at *
  generalize flatv (b.map wv3) = B at *
  rw [List.take_append, List.take_of_length_le (by omega), hf, hl, show i * 3 + 2 - i * 3 = 2 by omega, List.drop_append, List.drop_of_length_le (by omega), hf, hl, show i * 3 + 2 + 1 - i * 3 = 3 by omega]
  simp [Value.cells]
theorem women_at {ws : List Woman} {i : Nat} (hi : i < ws.length) : (flatv (ws.map wv3))[i * 3 + 1]? = some (vi (ws.getD i default).lo) ∧ (flatv (ws.map wv3))[i * 3 + 2]? = some (vi (ws.getD i default).hi) := by
  obtain ⟨a, b, e, hl, _⟩ := women_cut hi
  generalize ws.getD i default = w at *
  subst e
  rw [flat_women]
  have hf := flat_wlen a
  generalize flatv (a.map wv3) = A at *
  constructor
  · rw [List.getElem?_append_right (by omega), show i * 3 + 1 - A.length = 1 by omega]; rfl
  · rw [List.getElem?_append_right (by omega), show i * 3 + 2 - A.length = 2 by omega]; rfl
/-- Wider counts, or more that may be wrong. -/
def moreT (t : Table) (n n2 : Nat) : Table :=
  if n % (t.women.length + 1) = t.women.length then ⟨t.women, t.pieces, min 5 (t.wrong + (n2 : Int) % 3)⟩
  else ⟨t.women.set (n % (t.women.length + 1)) ⟨(t.women.getD (n % (t.women.length + 1)) default).mark, max 0 ((t.women.getD (n % (t.women.length + 1)) default).lo - (n2 : Int) % 3), min 7 ((t.women.getD (n % (t.women.length + 1)) default).hi + (n2 : Int) / 3 % 3)⟩, t.pieces, t.wrong⟩
structure More (t x : Table) : Prop where
  same : Same t x
  pcs : x.pieces = t.pieces
  valid : Valid x
  right : ∀ l i, i < t.women.length → rightP t l i = true → rightP x l i = true
  wrong : t.wrong ≤ x.wrong
theorem more_more {t : Table} (hV : Valid t) (n n2 : Nat) : More t (moreT t n n2) := by
  unfold moreT
  have hw := hV.wrong
  by_cases hk : n % (t.women.length + 1) = t.women.length
  · rw [if_pos hk]
    refine ⟨⟨rfl, rfl, fun _ _ => rfl, fun _ => rfl⟩, rfl, ⟨hV.women, hV.pieces, ?_, hV.woman, hV.piece, hV.many⟩, fun l i _ h => h, ?_⟩
    · show (0 : Int) ≤ min 5 (t.wrong + (n2 : Int) % 3) ∧ min 5 (t.wrong + (n2 : Int) % 3) ≤ 5
      omega
    · show t.wrong ≤ min 5 (t.wrong + (n2 : Int) % 3)
      omega
  · rw [if_neg hk]
    have hlt : n % (t.women.length + 1) < t.women.length := by have := Nat.mod_lt n (show 0 < t.women.length + 1 by omega); omega
    generalize n % (t.women.length + 1) = k at *
    have hwk := womanBad_iff.1 (hV.woman k hlt)
    generalize hwd : t.women.getD k default = w at *
    have hg : ∀ i, (t.women.set k ⟨w.mark, max 0 (w.lo - (n2 : Int) % 3), min 7 (w.hi + (n2 : Int) / 3 % 3)⟩).getD i default = if i = k then ⟨w.mark, max 0 (w.lo - (n2 : Int) % 3), min 7 (w.hi + (n2 : Int) / 3 % 3)⟩ else t.women.getD i default := fun i => by
      rw [List.getD_eq_getElem?_getD, List.getElem?_set]
      by_cases h : k = i
      · subst h; simp [hlt]
      · rw [if_neg h, if_neg (fun e => h e.symm), List.getD_eq_getElem?_getD]
    have hS : Same t ⟨t.women.set k ⟨w.mark, max 0 (w.lo - (n2 : Int) % 3), min 7 (w.hi + (n2 : Int) / 3 % 3)⟩, t.pieces, t.wrong⟩ := by
      refine ⟨by simp, rfl, fun i hi => ?_, fun _ => rfl⟩
      show ((t.women.set k _).getD i default).mark = _
      rw [hg]
      split
      · rename_i h; rw [h, hwd]
      · rfl
    refine ⟨hS, rfl, ⟨by rw [hS.women]; exact hV.women, hV.pieces, hV.wrong, fun i hi => ?_, fun i hi => ?_, by rw [hS.many]; exact hV.many⟩, fun l i hi h => ?_, Int.le_refl _⟩
    · rw [hS.women] at hi
      show womanBad ((t.women.set k _).getD i default) = false
      rw [hg]
      split
      · rw [womanBad_iff]
        refine ⟨hwk.1, ?_, ?_, ?_⟩
        · show (0 : Int) ≤ max 0 _; omega
        · show max 0 (w.lo - (n2 : Int) % 3) ≤ min 7 (w.hi + (n2 : Int) / 3 % 3); omega
        · show min 7 (w.hi + (n2 : Int) / 3 % 3) ≤ 7; omega
      · exact hV.woman i hi
    · rw [hS.bad i rfl]; exact hV.piece i hi
    · unfold rightP at h ⊢
      show decide (((t.women.set k _).getD i default).lo ≤ _ ∧ _ ≤ ((t.women.set k _).getD i default).hi) = true
      rw [hg]
      have h := of_decide_eq_true h
      refine decide_eq_true ?_
      split
      · rename_i e
        subst e
        rw [hwd] at h
        show max 0 (w.lo - (n2 : Int) % 3) ≤ _ ∧ _ ≤ min 7 (w.hi + (n2 : Int) / 3 % 3)
        omega
      · exact h
theorem More.truth {t x : Table} (h : More t x) {l : List Int} (hl : isTruthP t l = true) : isTruthP x l = true := by
  unfold isTruthP at hl ⊢
  have hl := of_decide_eq_true hl
  refine decide_eq_true ?_
  have hle : (wrongP x l).length ≤ (wrongP t l).length := by
    unfold wrongP
    rw [sel_length, sel_length, h.same.women]
    unfold cnt
    refine List.countP_mono_left fun i hi hr => ?_
    have hi := List.mem_range.1 hi
    cases hc : rightP t l i with
    | true => have := h.right l i hi hc; rw [this] at hr; cases hr
    | false => rfl
  have := h.wrong
  omega
theorem More.sub {t x : Table} (h : More t x) {l : List Int} (hl : l ∈ ask t) : l ∈ ask x := by
  unfold ask at hl ⊢
  rw [h.same.all]
  obtain ⟨h1, h2⟩ := List.mem_filter.1 hl
  exact List.mem_filter.2 ⟨h1, h.truth h2⟩
theorem More.ne {t x : Table} (h : More t x) (h0 : ask t ≠ []) : ask x ≠ [] := by
  obtain ⟨l, hl⟩ := List.exists_mem_of_ne_nil _ h0
  exact fun e => by have := h.sub hl; rw [e] at this; cases this
theorem More.poss {t x : Table} (h : More t x) {out : List Int} (hp : possibleB t out = true) : possibleB x out = true := by
  obtain ⟨l, hl, hr⟩ := possible_iff.1 hp
  refine possible_iff.2 ⟨l, by rw [h.same.all]; exact hl, rightBut_iff.2 fun i hi hx => ?_⟩
  rw [h.same.women] at hi
  refine rightBut_iff.1 hr i hi ?_
  cases hc : rightP t l i with
  | true => have := h.right l i hi hc; rw [this] at hx; cases hx
  | false => rfl
theorem More.left {t x : Table} (h : More t x) {l m : List Int} (hl : Small t l) (hm : Small x m) : m.length ≤ l.length := by
  obtain ⟨k, hk, e⟩ := hl.set
  have hfx : full x = full t := by unfold full; rw [h.same.women]
  have := hm.least k (by rw [hfx]; exact hk) (h.poss (by rw [e]; exact hl.can))
  rw [e] at this
  rw [Bool.eq_false_iff] at this
  rcases Nat.lt_or_ge l.length m.length with h1 | h1
  · exact absurd (shorter_iff.2 (.inl h1)) this
  · exact h1
theorem More.who {t x : Table} (h : More t x) : subsB (whoTo t t.pieces.length) (whoTo x x.pieces.length) = true := by
  unfold subsB
  refine decide_eq_true ⟨by rw [whoTo_len, whoTo_len, h.pcs], fun i hi => ?_⟩
  rw [whoTo_len] at hi
  have hi' : i < x.pieces.length := by rw [h.pcs]; exact hi
  rw [whoTo_get hi, whoTo_get hi']
  refine decide_eq_true fun y hy => ?_
  rw [whoP_eq hi] at hy
  rw [whoP_eq hi']
  obtain ⟨w, h1, h2, rfl⟩ := mem_sel.1 hy
  obtain ⟨l, hl, e⟩ := whoseIn_iff.1 h2
  exact mem_sel.2 ⟨w, by rw [h.same.women]; exact h1, whoseIn_iff.2 ⟨l, h.sub hl, e⟩, rfl⟩
theorem More.aN {t x : Table} (h : More t x) (l : List Int) : aN x l = aN t l := by
  unfold Go.Proofs.Ytgolpbkapphciaa.aN astray; rw [h.pcs]
theorem More.lo {t x : Table} (h : More t x) (h0 : ask t ≠ []) : loQ (Go.Proofs.Ytgolpbkapphciaa.aN x) (ask x) (ask x).length ≤ loQ (Go.Proofs.Ytgolpbkapphciaa.aN t) (ask t) (ask t).length := by
  refine (le_loA (g := Go.Proofs.Ytgolpbkapphciaa.aN t) h0).2 fun l hl => ?_
  rw [← h.aN]
  exact (le_loA (g := Go.Proofs.Ytgolpbkapphciaa.aN x) (c := loQ (Go.Proofs.Ytgolpbkapphciaa.aN x) (ask x) (ask x).length) (h.ne h0)).1 (Int.le_refl _) l (h.sub hl)
theorem More.hi {t x : Table} (h : More t x) (h0 : ask t ≠ []) : hiQ (Go.Proofs.Ytgolpbkapphciaa.aN t) (ask t) (ask t).length ≤ hiQ (Go.Proofs.Ytgolpbkapphciaa.aN x) (ask x) (ask x).length := by
  refine (hiA_le (g := Go.Proofs.Ytgolpbkapphciaa.aN t) h0).2 fun l hl => ?_
  rw [← h.aN]
  exact (hiA_le (g := Go.Proofs.Ytgolpbkapphciaa.aN x) (c := hiQ (Go.Proofs.Ytgolpbkapphciaa.aN x) (ask x) (ask x).length) (h.ne h0)).1 (Int.le_refl _) l (h.sub hl)
end Go.Proofs.Ytgolpbkapphciaa
