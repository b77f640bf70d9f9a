/- Chapter 6: one more sick woman; nobody sick. -/
import Derived.Test.YtdnbkjgbehakpaaGreatP33
namespace Go.Proofs.YtdnbkjgbehakpaaGreat
open Go Go.Eng Go.RowKit

/-- A house without signs, with other women sick. -/
def withSick (h : House) (l : List Int) : House := ⟨h.table, l, h.others, h.last, h.touches, h.boiled, []⟩
theorem rising_mem {l : List Int} {n : Int} (h : risingB l n = true) {x : Int} (hx : x ∈ l) : 0 ≤ x ∧ x < n := by
  obtain ⟨i, hi, rfl⟩ := List.mem_iff_getElem.1 hx
  unfold risingB at h
  rw [Bool.not_eq_true'] at h
  have := ex_no.1 h i hi
  unfold risingBad at this
  rw [List.getD_eq_getElem?_getD, List.getElem?_eq_getElem hi, Option.getD_some, Bool.or_eq_false_iff, Bool.not_eq_false', decide_eq_true_eq] at this
  omega
theorem rising_of {l : List Int} {n : Int} (hp : l.Pairwise (· < ·)) (hb : ∀ x ∈ l, 0 ≤ x ∧ x < n) : risingB l n = true := by
  unfold risingB
  rw [Bool.not_eq_true', ex_no]
  intro i hi
  have h1 : l.getD i 0 ∈ l := mem_getD hi
  have h2 := hb _ h1
  unfold risingBad
  rw [decide_eq_true (show 0 ≤ l.getD i 0 ∧ l.getD i 0 ≤ n - 1 by omega), Bool.not_true, Bool.false_or, Bool.and_eq_false_iff, decide_eq_false_iff_not, decide_eq_false_iff_not]
  by_cases h0 : 0 < i
  · right
    have := List.pairwise_iff_getElem.1 hp (i - 1) i (by omega) hi (by omega)
    rw [List.getD_eq_getElem?_getD, List.getD_eq_getElem?_getD, List.getElem?_eq_getElem hi, List.getElem?_eq_getElem (by omega)]
    simp only [Option.getD_some]
    omega
  · exact .inl h0
theorem withSick_valid {h : House} (hV : ValidH h) {l : List Int} (hl : risingB l h.table.women.length = true) : ValidH (withSick h l) :=
  ⟨hV.table, hV.some, hV.last, hV.others, hV.touchN, hV.boilN, Nat.zero_le _, hl, hV.touch, hV.boil, fun _ hi => absurd hi (Nat.not_lt_zero _), hV.many⟩
theorem ask_noSigns (h : House) (l : List Int) : ask6 (withSick h l) = scenes h := by
  unfold ask6
  refine List.filter_eq_self.2 fun c _ => right_all.2 fun t ht => ?_
  cases ht
theorem sick_sub {h : House} (hV : ValidH h) {l l' : List Int} (hs : ∀ x ∈ l, x ∈ l') {c : Course} (hc : c ∈ scenes h) : SubN (lastN (withSick h l) c []) (lastN (withSick h l') c []) := by
  have hth := hV.th
  have hlen := scene_len hc
  exact carN_mono (by show h.th ≤ 60; omega) rfl (by show c.owners.length ≤ h.th; omega) hV.touchLt hV.touchLt hs (.inl rfl) (fun _ _ => ⟨rfl, rfl⟩) (fun _ _ => rfl) (fun _ _ hb => hb) _
/-- What carries a sickness always still does. -/
theorem sicker_carry {h : House} (hV : ValidH h) {l l' : List Int} (hs : ∀ x ∈ l, x ∈ l') {i : Nat} (hi : i < h.th) :
    ((carry6 (withSick h l)).getD i 0 = 1 → (carry6 (withSick h l')).getD i 0 = 1) ∧ ((carry6 (withSick h l')).getD i 0 = 2 → (carry6 (withSick h l)).getD i 0 = 2) := by
  have hne := scenes_some hV
  rw [carry6_get (show i < (withSick h l).th from hi), carry6_get (show i < (withSick h l').th from hi), ask_noSigns, ask_noSigns]
  constructor
  · intro h1
    rw [verdict_one] at h1 ⊢
    intro c hc
    exact sick_sub hV hs hc i (h1 c hc)
  · intro h2
    rw [verdict_two hne] at h2 ⊢
    intro c hc
    have := h2 c hc
    cases e : carryF (withSick h l) i c with
    | false => rfl
    | true =>
      have h3 : carryF (withSick h l') i c = true := sick_sub hV hs hc i e
      rw [h3] at this; cases this
/-- The sick women and one more. -/
def sickMore (h : House) (w : Nat) : List Int := sel h.table.women.length fun i => decide (i = w) || decide ((i : Int) ∈ h.sick)
theorem sickMore_rising (h : House) (w : Nat) : risingB (sickMore h w) h.table.women.length = true :=
  rising_of (sel_pairwise _ _) fun x hx => by
    obtain ⟨i, hi, _, rfl⟩ := mem_sel.1 hx
    omega
theorem sickMore_sub {h : House} (hV : ValidH h) (w : Nat) : ∀ x ∈ h.sick, x ∈ sickMore h w := fun x hx => by
  have := rising_mem hV.sick hx
  refine mem_sel.2 ⟨x.toNat, by omega, ?_, by omega⟩
  rw [show ((x.toNat : Nat) : Int) = x by omega, decide_eq_true hx, Bool.or_true]
/-! ### Where sicknesses come from -/
end Go.Proofs.YtdnbkjgbehakpaaGreat
