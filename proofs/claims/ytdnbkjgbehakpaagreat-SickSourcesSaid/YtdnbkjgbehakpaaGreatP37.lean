/- Chapter 6: one more sick woman; nobody sick. -/
import Derived.Test.YtdnbkjgbehakpaaGreatP33
namespace Go.Proofs.YtdnbkjgbehakpaaGreat
open Go Go.Eng Go.RowKit

/-- A house without signs, with other women sick. -/
def withSick (h : House) (l : List Int) : House := ⟨h.table, l, h.others, h.last, h.touches, h.boiled, []⟩
theorem rising_of {l : List Int} {n : Int} (hp : l.Pairwise (· < ·)) (hb : ∀ x ∈ l, 0 ≤ x ∧ x < n) : risingB l n = true := by
  unfold risingB
  rw [Bool.not_eq_true', ex_no]
  intro i hi
  have h1 : l.getD i 0 ∈ l := mem_getD hi
  have h2 := hb _ h1
  unfold risingBad
  rw [decide_eq_true (show 0 ≤ l.getD i 0 ∧ l.getD i 0 ≤ n - 1 by omega), Bool.not_true, Bool.false_or, Bool.and_eq_false_iff, decide_eq_false_iff_not, decide_eq_false_iff_not]
  by_cases h0 : 0 < i
  · right
    have := List.pairwise_iff_getElem.1 hp (i - 1) i (by omega) hi (by omega)
    rw [List.getD_eq_getElem?_getD, List.getD_eq_getElem?_getD, List.getElem?_eq_getElem hi, List.getElem?_eq_getElem (by omega)]
    simp only [Option.getD_some]
    omega
  · exact .inl h0
theorem withSick_valid {h : House} (hV : ValidH h) {l : List Int} (hl : risingB l h.table.women.length = true) : ValidH (withSick h l) :=
  ⟨hV.table, hV.some, hV.last, hV.others, hV.touchN, hV.boilN, Nat.zero_le _, hl, hV.touch, hV.boil, fun _ hi => absurd hi (Nat.not_lt_zero _), hV.many⟩
theorem ask_noSigns (h : House) (l : List Int) : ask6 (withSick h l) = scenes h := by
  unfold ask6
  refine List.filter_eq_self.2 fun c _ => right_all.2 fun t ht => ?_
  cases ht
/-- If nobody is sick nothing carries a sickness. -/
theorem carN_none {ts : List Touch} {th : Nat} {c : Course} {bs : List Boil} (k : Nat) : carN [] ts th c bs k = 0 := by
  have h0 : carN [] ts th c bs 0 = 0 := by
    apply Nat.eq_of_testBit_eq
    intro i
    simp only [carN, startN, bset_bit, Nat.zero_testBit]
    simp
  have := carN_zero h0 k
  rwa [Nat.zero_add] at this
theorem none_carry {h : House} (hV : ValidH h) {i : Nat} (hi : i < h.th) : (carry6 (withSick h [])).getD i 0 = 2 := by
  rw [carry6_get (show i < (withSick h []).th from hi), ask_noSigns, verdict_two (scenes_some hV)]
  intro c _
  unfold carryF lastN
  rw [show (withSick h []).sick = [] from rfl, carN_none, Nat.zero_testBit]
theorem none_boil (h : House) (hour : Int) : boil6 (withSick h []) hour = some [] := by
  unfold boil6 setAll
  have hok : safeL (withSick h []) (ask6 (withSick h [])) (atL [] hour) = true := safeL_iff.2 fun c _ => safeB_iff.2 fun i _ hb => by
    unfold lastN at hb
    rw [show (withSick h []).sick = [] from rfl, carN_none, Nat.zero_testBit] at hb
    cases hb
  simp only [fsome, setR]
  rw [if_pos hok]
/-! ### Where sicknesses come from -/
/-- The pieces that a sick woman can own. -/
def srcL (h : House) : List Int := sel h.np fun i => ex h.sick.length fun k => decide (h.sick.getD k 0 ∈ whoP h.table i)
theorem srcL_rising {h : House} (hV : ValidH h) : risingB (srcL h) h.things = true :=
  rising_of (sel_pairwise _ _) fun x hx => by
    obtain ⟨i, hi, _, rfl⟩ := mem_sel.1 hx
    have := hV.th
    omega
theorem src_zero {h : House} (hV : ValidH h) {c : Course} (hc : c ∈ scenes h) : lastN h c (atL (srcL h) 0) = 0 := by
  have hth := hV.th
  have hla := hV.last
  have hlen := scene_len hc
  have hown := (mem_scenes.1 hc).owners
  have hlt := carN_lt (sick := h.sick) (bs := h.boiled ++ atL (srcL h) 0) (by omega) hV.touchLt (show c.owners.length ≤ h.th by omega) 0
  have h1 : carN h.sick h.touches h.th c (h.boiled ++ atL (srcL h) 0) 1 = 0 := by
    show touchN h.touches c 0 (boilN _ 0 _ h.th) h.touches.length = 0
    have : boilN (h.boiled ++ atL (srcL h) 0) 0 (carN h.sick h.touches h.th c (h.boiled ++ atL (srcL h) 0) 0) h.th = 0 := by
      apply Nat.eq_of_testBit_eq
      intro i
      rw [(boilN_spec (Nat.lt_of_lt_of_le hlt (Nat.pow_le_pow_right (by omega) (by omega))) h.th (by omega)).2, Nat.zero_testBit]
      simp only [carN, startN, bset_bit]
      by_cases hi : i < c.owners.length
      · by_cases hs : c.owners.getD i 0 ∈ h.sick
        · have hb : isBoiled (h.boiled ++ atL (srcL h) 0) (i : Int) ((0 : Nat) : Int) = true := by
            refine isBoiled_iff.2 (List.mem_append_right _ (List.mem_map.2 ⟨(i : Int), ?_, rfl⟩))
            refine mem_sel.2 ⟨i, by omega, ?_, rfl⟩
            obtain ⟨k, hk, e⟩ := getD_of_mem hs
            exact ex_iff.2 ⟨k, hk, by rw [e]; exact decide_eq_true (who_mem6 hown (by unfold House.np at hlen; omega))⟩
          rw [hb, decide_eq_true (show i < h.th by omega)]; simp
        · rw [decide_eq_false hs]; simp
      · rw [decide_eq_false hi]; simp
    rw [this, touch_zero]
  have := carN_zero h1 ((h.last + 1).toNat - 1)
  unfold lastN
  rwa [show 1 + ((h.last + 1).toNat - 1) = (h.last + 1).toNat by omega] at this
theorem src_safe {h : House} (hV : ValidH h) : safeL h (ask6 h) (atL (srcL h) 0) = true := by
  refine safeL_iff.2 fun c hc => safeB_iff.2 fun i _ hb => ?_
  rw [src_zero hV (List.mem_filter.1 hc).1, Nat.zero_testBit] at hb
  cases hb
end Go.Proofs.YtdnbkjgbehakpaaGreat
