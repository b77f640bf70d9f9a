/- Chapter 6: signs that are right in a course; who is harmed. -/
import Derived.Test.YtdnbkjgbehakpaaGreatP39
import Derived.Test.YtdnbkjgbehakpaaGreatT126
namespace Go.Proofs.YtdnbkjgbehakpaaGreat
open Go Go.Eng Go.RowKit

/-- Is a woman harmed, as the reference looks? -/
def harmR (h : House) (c : Course) (s : Nat) (w : Int) : Bool := !decide (w ∈ h.sick) && ex c.owners.length fun i => decide (c.owners.getD i 0 = w) && s.testBit i
def safeR (h : House) (c : Course) (s : Nat) : Bool := !ex h.table.women.length fun w => harmR h c s (w : Int)
theorem harmR_eq {h : House} {c : Course} {s : Nat} {w : Int} (hl : c.owners.length = h.np) : harmR h c s w = harmB h c s w := by
  rw [Bool.eq_iff_iff, harmB_iff]
  unfold harmR
  rw [Bool.and_eq_true, Bool.not_eq_true', decide_eq_false_iff_not, ex_iff, hl]
  simp only [Bool.and_eq_true, decide_eq_true_eq]
  constructor
  · rintro ⟨h1, i, hi, e1, e2⟩; exact ⟨h1, i, hi, e2, e1⟩
  · rintro ⟨h1, i, hi, e1, e2⟩; exact ⟨h1, i, hi, e2, e1⟩
theorem owner_woman {h : House} {c : Course} (hc : c ∈ scenes h) {i : Nat} (hi : i < h.np) : ∃ w : Nat, w < h.table.women.length ∧ c.owners.getD i 0 = (w : Int) := by
  have hask := (mem_scenes.1 hc).owners
  have hla := areOwners_iff.1 (ask_are hask)
  obtain ⟨w, hw1, _, e1⟩ := mem_sel.1 (hla.2 i (by rw [hla.1]; exact hi))
  exact ⟨w, hw1, e1⟩
theorem safeR_eq {h : House} {c : Course} {s : Nat} (hc : c ∈ scenes h) : safeR h c s = safeB h c s := by
  rw [Bool.eq_iff_iff, safeB_iff]
  unfold safeR
  rw [Bool.not_eq_true', ex_no]
  constructor
  · intro hn i hi hb
    refine Classical.byContradiction fun hs => ?_
    obtain ⟨w, hw, e⟩ := owner_woman hc hi
    have := hn w hw
    rw [harmR_eq (scene_len hc), harmB_iff.2 ⟨by rw [← e]; exact hs, i, hi, hb, e⟩] at this
    cases this
  · intro hs w hw
    rw [harmR_eq (scene_len hc), ← Bool.not_eq_true, harmB_iff]
    rintro ⟨h1, i, hi, hb, e⟩
    exact h1 (e ▸ hs i hi hb)
/-- Signs that are right in a course. -/
def SignsOf (h : House) (c : Course) (ss : List Sign) : Prop := ss.length ≤ 5 ∧ ∀ t ∈ ss, 0 ≤ t.thing ∧ t.thing < h.things ∧ t.carries = (lastN h c []).testBit t.thing.toNat
section
variable {h : House} {c : Course} {ss : List Sign} (hV : ValidH h) (hc : c ∈ scenes h) (hS : SignsOf h c ss)
include hV hS
theorem found_valid : ValidH (withSigns h ss) := withSigns_valid hV hS.1 fun i hi => by
  have hm : ss.getD i default ∈ ss := by rw [List.getD_eq_getElem?_getD, List.getElem?_eq_getElem hi]; exact List.getElem_mem hi
  have := hS.2 _ hm
  unfold signOk isThing
  exact decide_eq_true (by omega)
omit hV in
theorem found_right (l : List Sign) (hl : ∀ t ∈ l, t ∈ ss) : rightBut6 l (lastN h c []) [] = true := right_all.2 fun t ht => by
  have := hS.2 t (hl t ht)
  unfold sgn
  exact decide_eq_true this.2.2.symm
include hc
omit hV in
theorem found_mem : c ∈ ask6 (withSigns h ss) := List.mem_filter.2 ⟨hc, found_right (h := h) hS ss fun _ h => h⟩
theorem found_E : ask6E (withSigns h ss) true = 0 := ask6E_iff.2 ⟨fault6_zero.2 (found_valid hV hS), rfl, List.ne_nil_of_mem (found_mem hc hS)⟩
theorem found_leave : leave6 (withSigns h ss) = some [] := by
  obtain ⟨x, e, hL⟩ := leave6_least (found_valid hV hS)
  have hp : possible6 (withSigns h ss) [] = true := poss_ask.2 (List.ne_nil_of_mem (found_mem hc hS))
  have h3 := hL.no [] trivial hp
  rw [e]
  congr 1
  refine Classical.byContradiction fun hn => ?_
  have h4 : shorter [] x = true := shorter_iff.2 (.inl (List.length_pos_iff.2 hn))
  rw [h4] at h3; cases h3
theorem found_first : first6V (withSigns h ss) = (0, 7) := by
  obtain ⟨h1, h2⟩ := fstNo_spec6 (p := firstQ6 (withSigns h ss)) ss.length
  have hle := fstNo_le (firstQ6 (withSigns h ss)) ss.length
  have hn : ¬ first6N (withSigns h ss) < (withSigns h ss).signs.length := fun hlt => by
    have h3 := h2 hlt
    have : firstQ6 (withSigns h ss) (fstNo (firstQ6 (withSigns h ss)) ss.length) = true := by
      unfold firstQ6
      exact possible_iff6.2 ⟨c, hc, found_right (h := h) hS _ fun t ht => List.mem_of_mem_take ht⟩
    rw [this] at h3; cases h3
  unfold first6V
  rw [if_neg (by simpa using fault6_zero.2 (found_valid hV hS)), if_neg hn]
theorem found_play : play6E (withSigns h ss) c = 0 := by
  unfold play6E
  rw [if_neg (by simpa using fault6_zero.2 (found_valid hV hS)), if_neg]
  rw [show courseB (withSigns h ss) c = true from courseB_iff.2 (mem_scenes.1 hc)]
  simp
omit hV in
/-- A verdict tells of the course. -/
theorem found_verdict {t : Nat} (ht : t < h.th) : (1 ≤ (carry6 (withSigns h ss)).getD t 0 ∧ (carry6 (withSigns h ss)).getD t 0 ≤ 3) ∧ ((carry6 (withSigns h ss)).getD t 0 = 1 → (lastN h c []).testBit t = true) ∧ ((carry6 (withSigns h ss)).getD t 0 = 2 → (lastN h c []).testBit t = false) := by
  have hm := found_mem hc hS
  rw [carry6_get (show t < (withSigns h ss).th from ht)]
  refine ⟨by rcases verdict_cases (ask6 (withSigns h ss)) (carryF (withSigns h ss) t) with e | e | e <;> rw [e] <;> decide, fun e => verdict_one.1 e c hm, fun e => (verdict_two (List.ne_nil_of_mem hm)).1 e c hm⟩
omit hV in
theorem found_whose {t : Nat} (ht : t < h.np) (hb : (lastN h c []).testBit t = true) (hs : c.owners.getD t 0 ∉ h.sick) : c.owners.getD t 0 ∈ whose6 (withSigns h ss) := by
  have hm := found_mem hc hS
  obtain ⟨w, hw, e⟩ := owner_woman hc ht
  refine (mem_whose6 (List.ne_nil_of_mem hm)).2 ⟨w, hw, e, c, hm, harmB_iff.2 ⟨by rw [← e]; exact hs, t, ht, hb, e⟩⟩
omit hV in
theorem found_safe {more : List Boil} (hs : safeL (withSigns h ss) (ask6 (withSigns h ss)) more = true) : safeR (withSigns h ss) c (lastN h c more) = true := by
  rw [safeR_eq (h := withSigns h ss) hc]
  exact safeL_iff.1 hs c (found_mem hc hS)
end
end Go.Proofs.YtdnbkjgbehakpaaGreat
