/- Chapter 6: the fewest things and the shortest order; one thing. -/
import Derived.Test.YtdnbkjgbehakpaaGreatP37
import Derived.Test.YtdnbkjgbehakpaaGreatT125
namespace Go.Proofs.YtdnbkjgbehakpaaGreat
open Go Go.Eng Go.RowKit

theorem ask6E_iff {r : House} {p : Bool} : ask6E r p = 0 ↔ fault6 r = 0 ∧ p = true ∧ ask6 r ≠ [] := by
  unfold ask6E
  by_cases hf : fault6 r = 0
  · rw [if_neg (by simpa using hf)]
    cases p with
    | false => simp
    | true =>
      by_cases h : ask6 r = []
      · simp [h]
      · simp [h, hf]
  · rw [if_pos hf]
    exact ⟨fun e => absurd e hf, fun e => absurd e.1 hf⟩
theorem inc_rising {W : Nat} {n : Int} {d : List Int} (h : Inc W 0 d) (hn : n = (W : Int)) : risingB d n = true :=
  rising_of h.pairwise fun x hx => by have := h.ge x hx; omega
theorem proveBoil_iff {r : House} (hV : ValidH r) {hour : Int} {x : List Int} {m : Int} : proveBoilB r hour x m = true ↔ ask6 r ≠ [] ∧ isHour r hour = true ∧ risingB x r.things = true ∧ (x.length : Int) ≤ m ∧ safeL r (ask6 r) (atL x hour) = true := by
  unfold proveBoilB
  simp only [Bool.and_eq_true, decide_eq_true_eq, ask6E_iff]
  constructor
  · rintro ⟨⟨_, ⟨h1, h2⟩, h3⟩, h4, h5⟩; exact ⟨h3, h1, h2, h4, h5⟩
  · rintro ⟨h3, h1, h2, h4, h5⟩; exact ⟨⟨fault6_zero.2 hV, ⟨h1, h2⟩, h3⟩, h4, h5⟩
theorem proveOrd_iff {r : House} (hV : ValidH r) {hour : Int} {x : List Int} {m : Int} : proveOrdB r hour x m = true ↔ ask6 r ≠ [] ∧ isHour r hour = true ∧ ordB r x = true ∧ (x.length : Int) ≤ m ∧ (x.length : Int) ≤ longest r hour ∧ safeL r (ask6 r) (rowL x hour) = true := by
  unfold proveOrdB
  simp only [Bool.and_eq_true, decide_eq_true_eq, ask6E_iff]
  constructor
  · rintro ⟨⟨_, ⟨h1, h2⟩, h3⟩, h4, h5, h6⟩; exact ⟨h3, h1, h2, h4, h5, h6⟩
  · rintro ⟨h3, h1, h2, h4, h5, h6⟩; exact ⟨⟨fault6_zero.2 hV, ⟨h1, h2⟩, h3⟩, h4, h5, h6⟩
theorem ord_below {r : House} (hV : ValidH r) {x : List Int} : ordB r x = true ↔ Below r.th x := by
  have h1 := hV.th.1
  unfold ordB Below
  rw [Bool.not_eq_true', ex_no]
  constructor
  · intro h y hy
    obtain ⟨i, hi, rfl⟩ := getD_of_mem hy
    have := h i hi
    unfold isThing at this
    rw [Bool.not_eq_false', decide_eq_true_eq] at this
    omega
  · intro h i hi
    have := h _ (mem_getD hi)
    unfold isThing
    rw [Bool.not_eq_false', decide_eq_true_eq]
    omega
theorem longest_le {r : House} (hV : ValidH r) {hour : Nat} (hh : (hour : Int) ≤ r.last) : 1 ≤ longest r hour ∧ longest r hour ≤ 3 ∧ longest r hour = ((longest r hour).toNat : Int) := by
  have := hV.last
  unfold longest
  omega
abbrev okB (r : House) (hour : Int) (x : List Int) : Bool := safeL r (ask6 r) (atL x hour)
/-- The fewest things do, and no fewer. -/
theorem fewest_does {r : House} (hV : ValidH r) (hne : ask6 r ≠ []) {hour : Nat} (hh : (hour : Int) ≤ r.last) {x : List Int} (hS : LeastS (okB r hour) r.th x) : proveBoilB r hour x x.length = true :=
  (proveBoil_iff hV).2 ⟨hne, isHour_iff.2 ⟨Int.natCast_nonneg _, hh⟩, inc_rising hS.inc hV.th.1.symm, Int.le_refl _, hS.is⟩
theorem fewest_least {r : House} (hV : ValidH r) {hour : Nat} {x : List Int} (hS : LeastS (okB r hour) r.th x) {a : List Int} (hi : Inc r.th 0 a) {m : Int} (hp : proveBoilB r hour a m = true) : shorter a x = false :=
  hS.no a hi ((proveBoil_iff hV).1 hp).2.2.2.2
theorem order6_least {r : House} {hour : Int} {y : List Int} (h : order6 r hour = some y) : LeastO (okO r hour) r.th ((longest r hour).toNat + 1) y := seqAll_some h
theorem order_does {r : House} (hV : ValidH r) (hne : ask6 r ≠ []) {hour : Nat} (hh : (hour : Int) ≤ r.last) {y : List Int} (h : order6 r hour = some y) : proveOrdB r hour y y.length = true := by
  have hS := order6_least h
  have hL := longest_le hV hh
  have := hS.len
  exact (proveOrd_iff hV).2 ⟨hne, isHour_iff.2 ⟨Int.natCast_nonneg _, hh⟩, (ord_below hV).2 hS.below, Int.le_refl _, by omega, hS.is⟩
theorem order_least {r : House} (hV : ValidH r) {hour : Nat} (hh : (hour : Int) ≤ r.last) {y : List Int} (h : order6 r hour = some y) {b : List Int} {m : Int} (hp : proveOrdB r hour b m = true) : shorter b y = false := by
  obtain ⟨_, _, h3, _, h5, h6⟩ := (proveOrd_iff hV).1 hp
  have hL := longest_le hV hh
  exact (order6_least h).no b (by omega) ((ord_below hV).1 h3) h6
theorem order_none {r : House} (hV : ValidH r) {hour : Nat} (hh : (hour : Int) ≤ r.last) (h : order6 r hour = none) {b : List Int} {m : Int} : proveOrdB r hour b m = false := by
  rw [← Bool.not_eq_true]
  intro hp
  obtain ⟨_, _, h3, _, h5, h6⟩ := (proveOrd_iff hV).1 hp
  have hL := longest_le hV hh
  have h7 : okO r hour b = false := seqAll_none h (d := b) (by omega) ((ord_below hV).1 h3)
  rw [show okO r hour b = true from h6] at h7; cases h7
theorem prove_none {r : House} (hV : ValidH r) (he : ask6 r = []) {hour : Int} {a b : List Int} {m n : Int} : proveBoilB r hour a m = false ∧ proveOrdB r hour b n = false := by
  constructor
  · rw [← Bool.not_eq_true]; exact fun hp => ((proveBoil_iff hV).1 hp).1 he
  · rw [← Bool.not_eq_true]; exact fun hp => ((proveOrd_iff hV).1 hp).1 he
theorem ordE_eq {r : House} (hV : ValidH r) {hour : Nat} (hh : (hour : Int) ≤ r.last) : ordE r hour = if ask6 r = [] then 11 else if order6 r hour = none then 10 else 0 := by
  have hi : isHour r hour = true := isHour_iff.2 ⟨Int.natCast_nonneg _, hh⟩
  have e : ask6E r true = if ask6 r = [] then 11 else 0 := by unfold ask6E; rw [fault6_zero.2 hV]; simp
  unfold ordE
  rw [hi, e]
  by_cases h : ask6 r = []
  · simp [h]
  · simp [h]
/-! ### One thing -/
theorem short_same {hour : Int} {x : List Int} (h : x.length ≤ 1) : rowL x hour = atL x hour := by
  match x, h with
  | [], _ => rfl
  | [t], _ => simp [rowL, atL]
  | _ :: _ :: _, h => simp at h
theorem short_ok {r : House} {hour : Int} {x : List Int} (h : x.length ≤ 1) : okO r hour x = okB r hour x := by unfold okO okB; rw [short_same h]
theorem short_below {W : Nat} {x : List Int} (h : x.length ≤ 1) : Below W x ↔ Inc W 0 x := by
  match x, h with
  | [], _ => exact ⟨fun _ => trivial, fun _ _ h => by cases h⟩
  | [t], _ =>
    constructor
    · intro h
      have := h t (.head _)
      exact ⟨this.1, this.2, trivial⟩
    · rintro ⟨h1, h2, _⟩ y hy
      rw [List.mem_singleton] at hy
      rw [hy]; exact ⟨h1, h2⟩
  | _ :: _ :: _, h => simp at h
theorem one_same {r : House} (hV : ValidH r) {hour : Nat} (hh : (hour : Int) ≤ r.last) {t : Nat} (ht : t < r.th) : proveBoilB r hour [(t : Int)] 1 = proveOrdB r hour [(t : Int)] 1 := by
  have hL := longest_le hV hh
  have hB : Below r.th [(t : Int)] := fun y hy => by
    rw [List.mem_singleton] at hy
    omega
  have hI : Inc r.th 0 [(t : Int)] := (short_below (by simp)).1 hB
  rw [Bool.eq_iff_iff, proveBoil_iff hV, proveOrd_iff hV, short_same (by simp)]
  constructor
  · rintro ⟨a, b, _, d, e⟩; exact ⟨a, b, (ord_below hV).2 hB, d, by simp only [List.length_singleton]; omega, e⟩
  · rintro ⟨a, b, _, d, _, e⟩; exact ⟨a, b, inc_rising hI hV.th.1.symm, d, e⟩
/-- Nothing need be boiled if and only if nobody is harmed. -/
theorem none_whose {r : House} (hne : ask6 r ≠ []) {hour : Int} {x : List Int} (hS : LeastS (okB r hour) r.th x) : x = [] ↔ whose6 r = [] := by
  have h1 : x = [] ↔ okB r hour [] = true := by
    constructor
    · intro e; have := hS.is; rwa [e] at this
    · intro h
      refine Classical.byContradiction fun hn => ?_
      have h3 := hS.no [] trivial h
      have h4 : shorter [] x = true := shorter_iff.2 (.inl (List.length_pos_iff.2 hn))
      rw [h4] at h3; cases h3
  rw [h1]
  have h2 : okB r hour [] = true ↔ ∀ c ∈ ask6 r, ∀ i, i < r.np → (lastN r c []).testBit i = true → c.owners.getD i 0 ∈ r.sick := by
    unfold okB
    rw [safeL_iff]
    exact ⟨fun h c hc => safeB_iff.1 (h c hc), fun h c hc => safeB_iff.2 (h c hc)⟩
  rw [h2]
  constructor
  · intro h
    refine List.eq_nil_iff_forall_not_mem.2 fun y hy => ?_
    obtain ⟨w, _, _, c, hc, e⟩ := (mem_whose6 hne).1 hy
    obtain ⟨hs, i, hi, hb, ho⟩ := harmB_iff.1 e
    exact hs (ho ▸ h c hc i hi hb)
  · intro h c hc i hi hb
    refine Classical.byContradiction fun hs => ?_
    have hask := (mem_scenes.1 (List.mem_filter.1 hc).1).owners
    have hla := areOwners_iff.1 (ask_are hask)
    obtain ⟨w, hw1, _, e1⟩ := mem_sel.1 (hla.2 i (by rw [hla.1]; exact hi))
    have : (w : Int) ∈ whose6 r := (mem_whose6 hne).2 ⟨w, hw1, rfl, c, hc, harmB_iff.2 ⟨by rw [← e1]; exact hs, i, hi, hb, e1⟩⟩
    rw [h] at this; cases this
theorem one_none {r : House} (hV : ValidH r) {hour : Nat} (hh : (hour : Int) ≤ r.last) {x : List Int} (hS : LeastS (okB r hour) r.th x) (h : order6 r hour = none) : 1 < x.length := by
  refine Classical.byContradiction fun hn => ?_
  have hL := longest_le hV hh
  have h7 : okO r hour x = false := seqAll_none h (d := x) (by omega) ((short_below (by omega)).2 hS.inc)
  rw [short_ok (by omega), hS.is] at h7; cases h7
theorem one_some {r : House} (hV : ValidH r) {hour : Nat} (hh : (hour : Int) ≤ r.last) {x y : List Int} (hS : LeastS (okB r hour) r.th x) (h : order6 r hour = some y) : (1 < x.length ∧ 1 < y.length) ∨ x = y := by
  have hL := longest_le hV hh
  have hO := order6_least h
  have key : y.length ≤ 1 → shorter y x = false := fun hy => hS.no y ((short_below hy).1 hO.below) (by rw [← short_ok hy]; exact hO.is)
  have key2 : x.length ≤ 1 → shorter x y = false := fun hx => hO.no x (by omega) ((short_below hx).2 hS.inc) (by rw [short_ok hx]; exact hS.is)
  have len : ∀ {a b : List Int}, shorter a b = false → b.length ≤ a.length := fun {a b} hf => Classical.byContradiction fun hn => by
    rw [shorter_iff.2 (.inl (by omega))] at hf; cases hf
  by_cases hx : x.length ≤ 1
  · right
    have h1 := key2 hx
    have h2 := len h1
    have h3 := key (by omega)
    refine Classical.byContradiction fun hne => ?_
    rcases shorter_total hne with h4 | h4
    · rw [h1] at h4; cases h4
    · rw [h3] at h4; cases h4
  · by_cases hy : y.length ≤ 1
    · have h3 := len (key hy)
      omega
    · left; omega
end Go.Proofs.YtdnbkjgbehakpaaGreat
