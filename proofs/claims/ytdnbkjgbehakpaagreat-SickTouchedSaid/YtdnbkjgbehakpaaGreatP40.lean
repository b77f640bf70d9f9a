/- Chapter 6: one more touch; one more boiling. -/
import Derived.Test.YtdnbkjgbehakpaaGreatP37
import Derived.Test.YtdnbkjgbehakpaaGreatP38
namespace Go.Proofs.YtdnbkjgbehakpaaGreat
open Go Go.Eng Go.RowKit

/-- A house with other touches, boilings, and no signs. -/
def moreTouch (h : House) (t : Touch) : House := ⟨h.table, h.sick, h.others, h.last, h.touches ++ [t], h.boiled, []⟩
def moreBoil (h : House) (b : Boil) : House := ⟨h.table, h.sick, h.others, h.last, h.touches, h.boiled ++ [b], []⟩
theorem getD_snoc6 {α : Type} {l : List α} {x d : α} {i : Nat} (hi : i < (l ++ [x]).length) : (i < l.length ∧ (l ++ [x]).getD i d = l.getD i d) ∨ (i = l.length ∧ (l ++ [x]).getD i d = x) := by
  rw [List.length_append, List.length_singleton] at hi
  rcases Nat.lt_succ_iff_lt_or_eq.1 hi with h | rfl
  · exact .inl ⟨h, by rw [List.getD_eq_getElem?_getD, List.getElem?_append_left h, ← List.getD_eq_getElem?_getD]⟩
  · exact .inr ⟨rfl, by rw [List.getD_eq_getElem?_getD, List.getElem?_append_right (Nat.le_refl _)]; simp⟩
theorem times_le6 {h : House} (hs : ∀ i, i < h.touches.length → (h.touches.getD i default).lo ≤ (h.touches.getD i default).hi) : ∀ k, k ≤ h.touches.length → 1 ≤ timesTo h k ∧ timesTo h k ≤ 3000
  | 0, _ => ⟨show (1 : Int) ≤ 1 from Int.le_refl _, show (1 : Int) ≤ 3000 by decide⟩
  | k + 1, hk => by
    have ih := times_le6 hs k (by omega)
    have := hs k (by omega)
    rw [timesTo_succ]
    have h2 : 1 * 1 ≤ timesTo h k * ((h.touches.getD k default).hi - (h.touches.getD k default).lo + 1) := Int.mul_le_mul ih.1 (by omega) (by omega) (by omega)
    omega
theorem times_snoc6 {h : House} {t : Touch} (ht : t.hi = t.lo) (hs : ∀ i, i < h.touches.length → (h.touches.getD i default).lo ≤ (h.touches.getD i default).hi) : times (moreTouch h t) = times h := by
  have key : ∀ k, k ≤ h.touches.length → timesTo (moreTouch h t) k = timesTo h k := fun k => by
    induction k with
    | zero => intro _; rfl
    | succ k ih =>
      intro hk
      rw [timesTo_succ, timesTo_succ, ih (by omega)]
      rw [show (moreTouch h t).touches.getD k default = h.touches.getD k default from by
        show (h.touches ++ [t]).getD k default = _
        rw [List.getD_eq_getElem?_getD, List.getElem?_append_left (by omega), ← List.getD_eq_getElem?_getD]]
  unfold times
  rw [show (moreTouch h t).tn = h.touches.length + 1 from by show (h.touches ++ [t]).length = _; simp, timesTo_succ, key _ (Nat.le_refl _)]
  rw [show (moreTouch h t).touches.getD h.touches.length default = t from by
    show (h.touches ++ [t]).getD h.touches.length default = t
    rw [List.getD_eq_getElem?_getD, List.getElem?_append_right (Nat.le_refl _)]; simp]
  have := times_le6 hs h.touches.length (Nat.le_refl _)
  rw [ht, show t.lo - t.lo + 1 = 1 by omega, Int.mul_one]
  show min 3000 (timesTo h h.touches.length) = timesTo h h.touches.length
  omega
theorem moreTouch_valid {h : House} (hV : ValidH h) {t : Touch} (h5 : h.touches.length ≤ 5) (ht : touchOk h t = true) (he : t.hi = t.lo) : ValidH (moreTouch h t) := by
  refine ⟨hV.table, hV.some, hV.last, hV.others, by show (h.touches ++ [t]).length ≤ 6; simp; omega, hV.boilN, Nat.zero_le _, hV.sick, fun i hi => ?_, hV.boil, fun _ hi => absurd hi (Nat.not_lt_zero _), ?_⟩
  · show touchOk h ((h.touches ++ [t]).getD i default) = true
    rcases getD_snoc6 (d := default) hi with ⟨h1, e⟩ | ⟨_, e⟩
    · rw [e]; exact hV.touch i h1
    · rw [e]; exact ht
  · rw [times_snoc6 he (fun i hi => (touchOk_iff.1 (hV.touch i hi)).2.2.2.2.2)]
    exact hV.many
theorem moreBoil_valid {h : House} (hV : ValidH h) {b : Boil} (h3 : h.boiled.length ≤ 3) (hb : boilOk h b = true) : ValidH (moreBoil h b) := by
  refine ⟨hV.table, hV.some, hV.last, hV.others, hV.touchN, by show (h.boiled ++ [b]).length ≤ 4; simp; omega, Nat.zero_le _, hV.sick, hV.touch, fun i hi => ?_, fun _ hi => absurd hi (Nat.not_lt_zero _), hV.many⟩
  show boilOk h ((h.boiled ++ [b]).getD i default) = true
  rcases getD_snoc6 (d := default) hi with ⟨h1, e⟩ | ⟨_, e⟩
  · rw [e]; exact hV.boil i h1
  · rw [e]; exact hb
theorem moreTouch_course {h : House} {t : Touch} {c : Course} {k : Int} (hc : CourseT h.table h.touches c) (hk : t.lo ≤ k ∧ k ≤ t.hi) : CourseT h.table (h.touches ++ [t]) ⟨c.owners, c.hours ++ [k]⟩ := by
  refine ⟨hc.owners, by simp [hc.len], fun i hi => ?_⟩
  have hi2 : i < (c.hours ++ [k]).length := by rw [List.length_append] at hi ⊢; rw [hc.len]; exact hi
  rcases getD_snoc6 (d := default) hi with ⟨h1, e⟩ | ⟨h1, e⟩
  · rw [e]
    rcases getD_snoc6 (d := (0 : Int)) hi2 with ⟨_, e2⟩ | ⟨h2, _⟩
    · show _ ≤ (c.hours ++ [k]).getD i 0 ∧ (c.hours ++ [k]).getD i 0 ≤ _
      rw [e2]; exact hc.has i h1
    · have := hc.len; omega
  · rw [e]
    rcases getD_snoc6 (d := (0 : Int)) hi2 with ⟨h2, _⟩ | ⟨_, e2⟩
    · have := hc.len; omega
    · show _ ≤ (c.hours ++ [k]).getD i 0 ∧ (c.hours ++ [k]).getD i 0 ≤ _
      rw [e2]; exact hk
theorem touch_sub {h : House} (hV : ValidH h) {t : Touch} (h5 : h.touches.length ≤ 5) (ht : touchOk h t = true) (he : t.hi = t.lo) {c : Course} {k : Int} (hc : CourseT h.table h.touches c) : SubN (lastN h c []) (lastN (moreTouch h t) ⟨c.owners, c.hours ++ [k]⟩ []) := by
  have hV2 := moreTouch_valid hV h5 ht he
  have hth := hV.th
  have hlen : c.owners.length = h.np := ask_lens hc.owners
  have hle : c.owners.length ≤ h.th := by omega
  refine carN_mono (c := c) (c' := ⟨c.owners, c.hours ++ [k]⟩) (by omega) rfl hle hV.touchLt (show TouchLt _ h.th from hV2.touchLt) (fun x hx => hx) (.inr (by show (h.touches ++ [t]).length = _; simp)) (fun i hi => ?_) (fun i hi => ?_) (fun x y hb => hb) _
  · show _ = ((h.touches ++ [t]).getD i default).a ∧ _ = ((h.touches ++ [t]).getD i default).b
    rw [List.getD_eq_getElem?_getD (l := h.touches ++ [t]), List.getElem?_append_left hi, ← List.getD_eq_getElem?_getD]
    exact ⟨rfl, rfl⟩
  · show _ = (c.hours ++ [k]).getD i 0
    rw [List.getD_eq_getElem?_getD (l := c.hours ++ [k]), List.getElem?_append_left (by rw [hc.len]; exact hi), ← List.getD_eq_getElem?_getD]
theorem boil_sub {h : House} (hV : ValidH h) {b : Boil} {c : Course} (hc : CourseT h.table h.touches c) : SubN (lastN (moreBoil h b) c []) (lastN h c []) := by
  have hth := hV.th
  have hlen : c.owners.length = h.np := ask_lens hc.owners
  have hle : c.owners.length ≤ h.th := by omega
  refine carN_mono (c := c) (c' := c) (by show h.th ≤ 60; omega) rfl hle hV.touchLt hV.touchLt (fun x hx => hx) (.inl rfl) (fun i _ => ⟨rfl, rfl⟩) (fun _ _ => rfl) (fun x y hb => ?_) _
  show isBoiled ((h.boiled ++ [b]) ++ []) x y = true
  rw [isBoiled_append, isBoiled_append]
  rw [List.append_nil] at hb
  rw [hb]; rfl
theorem bits_len6 {W k : Nat} (hW : W ≤ 60) (hk : k < 2 ^ W) : (bits k).length ≤ W := inc_zero_len (bits_inc6 hW hk)
theorem touchOk_of {h : House} {a b k : Int} (ha : 0 ≤ a ∧ a ≤ h.things - 1) (hb : 0 ≤ b ∧ b ≤ h.things - 1) (hab : a ≠ b) (hk : 0 ≤ k ∧ k ≤ h.last) : touchOk h ⟨a, b, k, k⟩ = true :=
  touchOk_iff.2 ⟨ha, hb, hab, hk, hk, Int.le_refl _⟩
theorem boilOk_of {h : House} {a k : Int} (ha : 0 ≤ a ∧ a ≤ h.things - 1) (hk : 0 ≤ k ∧ k ≤ h.last) : boilOk h ⟨a, k⟩ = true := by
  unfold boilOk isThing isHour
  rw [decide_eq_true ha, decide_eq_true hk]; rfl
end Go.Proofs.YtdnbkjgbehakpaaGreat
