/- Chapter 6: what the program finds is what the reference finds. -/
import Derived.Test.YtdnbkjgbehakpaaGreatP31
namespace Go.Proofs.YtdnbkjgbehakpaaGreat
open Go Go.Eng Go.RowKit

theorem getDc {l : List Course} {i : Nat} (h : i < l.length) : l.getD i default ∈ l := by
  rw [List.getD_eq_getElem?_getD, List.getElem?_eq_getElem h]; exact List.getElem_mem h
theorem of_memc {l : List Course} {c : Course} (h : c ∈ l) : ∃ i, i < l.length ∧ l.getD i default = c := by
  obtain ⟨i, hi, e⟩ := List.mem_iff_getElem.1 h
  exact ⟨i, hi, by rw [List.getD_eq_getElem?_getD, List.getElem?_eq_getElem hi]; exact e⟩
theorem rightBut_iff6 {ss : List Sign} {s : Nat} {out : List Int} : rightBut6 ss s out = true ↔ ∀ i : Nat, i < ss.length → signS ss s i = false → (i : Int) ∈ out := by
  unfold rightBut6
  rw [Bool.not_eq_true', ex_no]
  constructor
  · intro h i hi hr
    have := h i hi
    rw [hr] at this
    simpa using this
  · intro h i hi
    cases hs : signS ss s i with
    | true => simp
    | false => simpa using h i hi hs
theorem rightNil_iff6 {ss : List Sign} {s : Nat} : rightBut6 ss s [] = true ↔ ∀ i : Nat, i < ss.length → signS ss s i = true := by
  rw [rightBut_iff6]
  constructor
  · intro h i hi
    cases hs : signS ss s i with
    | true => rfl
    | false => exact absurd (h i hi hs) (by simp)
  · intro h i hi hs
    rw [h i hi] at hs; cases hs
def possible6 (h : House) (out : List Int) : Bool := ex (scenes h).length fun i => rightBut6 h.signs (lastN h ((scenes h).getD i default) []) out
theorem possible_iff6 {h : House} {out : List Int} : possible6 h out = true ↔ ∃ c ∈ scenes h, rightBut6 h.signs (lastN h c []) out = true := by
  unfold possible6
  rw [ex_iff]
  constructor
  · rintro ⟨i, hi, e⟩
    exact ⟨_, getDc hi, e⟩
  · rintro ⟨c, hc, e⟩
    obtain ⟨i, hi, rfl⟩ := of_memc hc
    exact ⟨i, hi, e⟩
def ask6 (h : House) : List Course := (scenes h).filter fun c => rightBut6 h.signs (lastN h c []) []
def rights6 (h : House) : List Nat := (courses h).map (right6 h)
def truths6 (h : House) : List Course := (courses h).filter fun c => decide (right6 h c = full6 h)
theorem touchOk_iff {h : House} {t : Touch} : touchOk h t = true ↔ (0 ≤ t.a ∧ t.a ≤ h.things - 1) ∧ (0 ≤ t.b ∧ t.b ≤ h.things - 1) ∧ t.a ≠ t.b ∧ (0 ≤ t.lo ∧ t.lo ≤ h.last) ∧ (0 ≤ t.hi ∧ t.hi ≤ h.last) ∧ t.lo ≤ t.hi := by
  unfold touchOk isThing isHour
  simp only [Bool.and_eq_true, Bool.not_eq_true', decide_eq_true_eq, decide_eq_false_iff_not]
  constructor
  · rintro ⟨⟨⟨⟨⟨a, b⟩, c⟩, d⟩, e⟩, f⟩; exact ⟨a, b, c, d, e, f⟩
  · rintro ⟨a, b, c, d, e, f⟩; exact ⟨⟨⟨⟨⟨a, b⟩, c⟩, d⟩, e⟩, f⟩
theorem ValidH.sizes {h : House} (hV : ValidH h) : ∀ t ∈ h.touches, t.lo ≤ t.hi := fun t ht => by
  obtain ⟨i, hi, rfl⟩ := List.mem_iff_getElem.1 ht
  have := (touchOk_iff.1 (hV.touch i hi)).2.2.2.2.2
  rwa [List.getD_eq_getElem?_getD, List.getElem?_eq_getElem hi] at this
theorem ValidH.manyPos {h : House} (hV : ValidH h) : 1 ≤ Go.Proofs.YtdnbkjgbehakpaaGreat.many h.table := by
  have h1 : allOwners h.table ≠ [] := fun e => hV.some (by unfold ask; rw [e]; rfl)
  have h2 := (allOwners_many hV.table.many).1
  have h3 := List.length_pos_iff.2 h1
  omega
theorem times_pos {h : House} (hs : ∀ t ∈ h.touches, t.lo ≤ t.hi) : 1 ≤ times h := by
  have h1 := prodL_pos hs
  have h2 := times_prod hs
  omega
theorem ValidH.times {h : House} (hV : ValidH h) : times h ≤ 2000 := by
  have h1 := hV.manyPos
  have h2 := times_pos hV.sizes
  have h3 := hV.many
  have h4 : 1 * Go.Proofs.YtdnbkjgbehakpaaGreat.times h ≤ Go.Proofs.YtdnbkjgbehakpaaGreat.many h.table * Go.Proofs.YtdnbkjgbehakpaaGreat.times h := Int.mul_le_mul_of_nonneg_right h1 (by omega)
  omega
theorem ValidH.mem {h : House} (hV : ValidH h) {c : Course} : c ∈ courses h ↔ c ∈ scenes h := by
  rw [mem_courses hV.table hV.sizes hV.times]; exact mem_scenes.symm
theorem right6_bit (h : House) (c : Course) (i : Nat) : (right6 h c).testBit i = (decide (i < h.signs.length) && signS h.signs (lastN h c []) i) := bset_bit ..
theorem right_full6 {h : House} {c : Course} : right6 h c = full6 h ↔ rightBut6 h.signs (lastN h c []) [] = true := by
  rw [rightNil_iff6]
  constructor
  · intro e i hi
    have := congrArg (fun x => x.testBit i) e
    simp only [right6_bit, full6, testBit_full, hi, decide_true, Bool.true_and] at this
    exact this
  · intro e
    apply Nat.eq_of_testBit_eq
    intro i
    rw [right6_bit, full6, testBit_full]
    by_cases hi : i < h.signs.length
    · rw [e i hi]; simp
    · simp [hi]
theorem ValidH.truths {h : House} (hV : ValidH h) {c : Course} : c ∈ truths6 h ↔ c ∈ ask6 h := by
  unfold truths6 ask6
  rw [List.mem_filter, List.mem_filter, hV.mem, decide_eq_true_eq, right_full6]
/-- A verdict. -/
def verdictL (l : List Course) (f : Course → Bool) : Int := if l.countP f = l.length then 1 else if l.countP f = 0 then 2 else 3
theorem verdict_one {l : List Course} {f : Course → Bool} : verdictL l f = 1 ↔ ∀ c ∈ l, f c = true := by
  unfold verdictL
  rw [← List.countP_eq_length]
  split
  · rename_i h; simp [h]
  · rename_i h
    split <;> simp [h]
theorem verdict_two {l : List Course} {f : Course → Bool} (h0 : l ≠ []) : verdictL l f = 2 ↔ ∀ c ∈ l, f c = false := by
  unfold verdictL
  have hz : l.countP f = 0 ↔ ∀ c ∈ l, f c = false := by rw [List.countP_eq_zero]; simp
  have hl := List.length_pos_iff.2 h0
  rw [← hz]
  split
  · rename_i h
    exact ⟨fun e => absurd e (by decide), fun e => by omega⟩
  · split
    · rename_i h; simp [h]
    · rename_i h; simp [h]
theorem verdict_cases (l : List Course) (f : Course → Bool) : verdictL l f = 1 ∨ verdictL l f = 2 ∨ verdictL l f = 3 := by
  unfold verdictL
  split
  · exact .inl rfl
  · split
    · exact .inr (.inl rfl)
    · exact .inr (.inr rfl)
theorem poss_can6 {h : House} (hV : ValidH h) {out : List Int} {w : Nat} (hw : ∀ i : Nat, w.testBit i = (decide (i < h.signs.length) && !decide ((i : Int) ∈ out))) : possible6 h out = can (rights6 h) w := by
  rw [Bool.eq_iff_iff, possible_iff6, can_iff]
  have key : ∀ c, rightBut6 h.signs (lastN h c []) out = true ↔ right6 h c &&& w = w := fun c => by
    rw [rightBut_iff6, and_eq_iff]
    constructor
    · intro hr i hi
      rw [hw] at hi
      simp only [Bool.and_eq_true, decide_eq_true_eq, Bool.not_eq_true', decide_eq_false_iff_not] at hi
      rw [right6_bit]
      simp only [Bool.and_eq_true, decide_eq_true_eq]
      refine ⟨hi.1, ?_⟩
      cases hs : signS h.signs (lastN h c []) i with
      | true => rfl
      | false => exact absurd (hr i hi.1 hs) hi.2
    · intro hr i hi hs
      refine Classical.byContradiction fun hn => ?_
      have := hr i (by rw [hw]; simp [hi, hn])
      rw [right6_bit, hs] at this
      simp at this
  unfold rights6
  constructor
  · rintro ⟨c, hc, e⟩
    exact ⟨_, List.mem_map.2 ⟨c, hV.mem.2 hc, rfl⟩, (key c).1 e⟩
  · rintro ⟨n, hn, e⟩
    obtain ⟨c, hc, rfl⟩ := List.mem_map.1 hn
    exact ⟨c, hV.mem.1 hc, (key c).2 e⟩
/-- A house with other signs. -/
def withSigns (h : House) (ss : List Sign) : House := ⟨h.table, h.sick, h.others, h.last, h.touches, h.boiled, ss⟩
theorem withSigns_valid {h : House} (hV : ValidH h) {ss : List Sign} (h5 : ss.length ≤ 5) (hs : ∀ i, i < ss.length → signOk h (ss.getD i default) = true) : ValidH (withSigns h ss) := by
  obtain ⟨a, b, c, d, e, f, g, i, j, k, l, m⟩ := hV
  exact ⟨a, b, c, d, e, f, h5, i, j, k, hs, m⟩
theorem signs_take {ss : List Sign} {k i : Nat} (h : i < k) : (ss.take k).getD i default = ss.getD i default := by
  rw [List.getD_eq_getElem?_getD, List.getD_eq_getElem?_getD, List.getElem?_take, if_pos h]
/-- Can the first signs be right? -/
def firstQ6 (h : House) (k : Nat) : Bool := possible6 (withSigns h (h.signs.take (k + 1))) []
def first6N (h : House) : Nat := fstNo (firstQ6 h) h.signs.length
def first6V (h : House) : Int × Int := if fault6 h ≠ 0 then (0, fault6 h) else if first6N h < h.signs.length then ((first6N h : Int), 0) else (0, 7)
/-- What must be left out. -/
def leave6 (h : House) : Option (List Int) := setAll (possible6 h) h.signs.length
theorem scenes_some {h : House} (hV : ValidH h) : scenes h ≠ [] := by
  obtain ⟨l, hl⟩ := List.exists_mem_of_ne_nil _ hV.some
  have : (⟨l, h.touches.map (·.lo)⟩ : Course) ∈ scenesOf h.table h.touches := mem_scenes.2 ⟨hl, by simp, fun i hi => by
    show _ ≤ (h.touches.map (·.lo)).getD i 0 ∧ (h.touches.map (·.lo)).getD i 0 ≤ _
    have e : (h.touches.map (·.lo)).getD i 0 = (h.touches.getD i default).lo := by simp [List.getD_eq_getElem?_getD, List.getElem?_eq_getElem hi]
    rw [e]
    have := (touchOk_iff.1 (hV.touch i hi)).2.2.2.2.2
    exact ⟨Int.le_refl _, this⟩⟩
  exact List.ne_nil_of_mem this
theorem full_poss6 {h : House} (hV : ValidH h) : possible6 h (bits (2 ^ h.signs.length - 1)) = true := by
  obtain ⟨c, hc⟩ := List.exists_mem_of_ne_nil _ (scenes_some hV)
  refine possible_iff6.2 ⟨c, hc, rightBut_iff6.2 fun i hi _ => mem_bits.2 ⟨by have := hV.signN; omega, ?_⟩⟩
  rw [testBit_full]; simpa using hi
/-- The least of the sets of which something holds, by bits. -/
def leastK (ok : Nat → Bool) (top : Nat) : Nat → List Int
  | 0 => bits top
  | k + 1 => if shorter (bits k) (leastK ok top k) = true ∧ ok k = true then bits k else leastK ok top k
theorem leastK_eq {f : List Int → Bool} {ok : Nat → Bool} {W : Nat} : ∀ {k : Nat}, k ≤ 2 ^ W → (∀ j, j < 2 ^ W → ok j = f (bits j)) → leastK ok (2 ^ W - 1) k = leastTo f W k
  | 0, _, _ => rfl
  | k + 1, hk, h => by
    simp only [leastK, leastTo]
    rw [leastK_eq (k := k) (by omega) h, h k (by omega)]
theorem leave6_ref {h : House} (hV : ValidH h) : leave6 h = some (leastK (fun k => can (rights6 h) (without (full6 h) k)) (full6 h) (full6 h + 1)) := by
  have hn := hV.signN
  unfold leave6
  rw [setAll_eq (by omega) (full_poss6 hV)]
  have h1 := Nat.one_le_two_pow (n := h.signs.length)
  have h2 : 2 ^ h.signs.length ≤ 2 ^ 5 := Nat.pow_le_pow_right (by omega) hn
  have e : full6 h + 1 = 2 ^ h.signs.length := by unfold full6; omega
  rw [e]
  congr 1
  symm
  refine leastK_eq (Nat.le_refl _) fun j hj => ?_
  symm
  refine poss_can6 hV fun i => ?_
  by_cases hi : i < 64
  · rw [without_bit (by omega) hi]
    unfold full6
    rw [testBit_full]
    by_cases h3 : i < h.signs.length
    · rw [decide_eq_true h3, Bool.true_and, Bool.true_and]
      cases hb : j.testBit i with
      | true => rw [decide_eq_true (mem_bits.2 ⟨hi, hb⟩)]
      | false => rw [decide_eq_false (fun hm => by have := (mem_bits.1 hm).2; rw [hb] at this; cases this)]
    · rw [decide_eq_false h3]; simp
  · have h3 : without (full6 h) j < 2 ^ i := Nat.lt_of_le_of_lt Nat.and_le_left (Nat.lt_of_lt_of_le (by unfold full6; omega : full6 h < 2 ^ 5) (Nat.pow_le_pow_right (by omega) (by omega)))
    rw [Nat.testBit_lt_two_pow h3, decide_eq_false (by omega)]; rfl
/-! ### Sets of things -/
theorem without_le (x y : Nat) : without x y ≤ x := Nat.and_le_left
theorem boilN_spec {bs : List Boil} {hour s : Nat} (hs : s < 2 ^ 64) : ∀ n, n ≤ 60 → boilN bs hour s n ≤ s ∧ ∀ i, (boilN bs hour s n).testBit i = (s.testBit i && !(decide (i < n) && isBoiled bs (i : Int) (hour : Int)))
  | 0, _ => ⟨Nat.le_refl _, fun i => by simp [boilN]⟩
  | n + 1, hn => by
    obtain ⟨h1, h2⟩ := boilN_spec (bs := bs) (hour := hour) hs n (by omega)
    simp only [boilN]
    have hp : 2 ^ n < 2 ^ 64 := Nat.pow_lt_pow_right (by omega) (by omega)
    have hd : ∀ i, i ≠ n → decide (i < n + 1) = decide (i < n) := fun i hi => by
      by_cases h : i < n
      · rw [decide_eq_true h, decide_eq_true (by omega)]
      · rw [decide_eq_false h, decide_eq_false (by omega)]
    split
    · rename_i hb
      refine ⟨Nat.le_trans (without_le _ _) h1, fun i => ?_⟩
      by_cases hi : i < 64
      · rw [without_bit hp hi, h2, Nat.testBit_two_pow]
        by_cases e : n = i
        · subst e
          rw [hb]; simp
        · rw [decide_eq_false e, hd i (fun h => e h.symm)]; simp
      · have h3 : s < 2 ^ i := Nat.lt_of_lt_of_le hs (Nat.pow_le_pow_right (by omega) (by omega))
        rw [Nat.testBit_lt_two_pow h3, Nat.testBit_lt_two_pow (Nat.lt_of_le_of_lt (Nat.le_trans (without_le _ _) h1) h3)]; rfl
    · rename_i hb
      refine ⟨h1, fun i => ?_⟩
      rw [h2]
      by_cases e : i = n
      · subst e
        have : isBoiled bs (i : Int) (hour : Int) = false := by simpa using hb
        rw [this]; simp
      · rw [hd i e]
/-- All things of touches are below a number. -/
def TouchLt (ts : List Touch) (W : Nat) : Prop := ∀ i, i < ts.length → (ts.getD i default).a.toNat < W ∧ (ts.getD i default).b.toNat < W
theorem touchN_lt {ts : List Touch} {W : Nat} (h : TouchLt ts W) {c : Course} {hour s : Nat} (hs : s < 2 ^ W) : ∀ k, k ≤ ts.length → touchN ts c hour s k < 2 ^ W
  | 0, _ => hs
  | k + 1, hk => by
    have ih := touchN_lt h (c := c) (hour := hour) hs k (by omega)
    obtain ⟨h1, h2⟩ := h k (by omega)
    simp only [touchN]
    split
    · exact Nat.or_lt_two_pow ih (Nat.or_lt_two_pow (Nat.pow_lt_pow_right (by omega) h1) (Nat.pow_lt_pow_right (by omega) h2))
    · exact ih
theorem carN_lt {sick : List Int} {ts : List Touch} {th : Nat} {c : Course} {bs : List Boil} (h60 : th ≤ 60) (ht : TouchLt ts th) (hc : c.owners.length ≤ th) : ∀ k, carN sick ts th c bs k < 2 ^ th
  | 0 => Nat.lt_of_lt_of_le (bset_lt _ _) (Nat.pow_le_pow_right (by omega) hc)
  | k + 1 => by
    have ih := carN_lt (sick := sick) (bs := bs) h60 ht hc k
    refine touchN_lt ht ?_ _ (Nat.le_refl _)
    exact Nat.lt_of_le_of_lt (boilN_spec (Nat.lt_of_lt_of_le ih (Nat.pow_le_pow_right (by omega) (by omega))) th h60).1 ih
theorem ValidH.touchLt {h : House} (hV : ValidH h) : TouchLt h.touches h.th := fun i hi => by
  have := touchOk_iff.1 (hV.touch i hi)
  unfold House.th
  omega
theorem ValidH.th {h : House} (hV : ValidH h) : (h.th : Int) = h.things ∧ h.np ≤ h.th ∧ h.th ≤ 10 := by
  have h1 := hV.others
  unfold House.th
  unfold House.things at *
  omega
theorem scene_len {h : House} {c : Course} (hc : c ∈ scenes h) : c.owners.length = h.np := ask_lens (mem_scenes.1 hc).owners
theorem lastN_lt {h : House} (hV : ValidH h) {c : Course} (hc : c.owners.length = h.np) (more : List Boil) : lastN h c more < 2 ^ h.th := carN_lt (by have := hV.th; omega) hV.touchLt (by rw [hc]; exact hV.th.2.1) _
/-! ### Safety -/
def safeB (h : House) (c : Course) (s : Nat) : Bool := !ex h.np fun i => s.testBit i && !decide (c.owners.getD i 0 ∈ h.sick)
theorem safeB_iff {h : House} {c : Course} {s : Nat} : safeB h c s = true ↔ ∀ i, i < h.np → s.testBit i = true → c.owners.getD i 0 ∈ h.sick := by
  unfold safeB
  rw [Bool.not_eq_true', ex_no]
  constructor
  · intro e i hi hb
    have := e i hi
    rw [hb] at this
    simpa using this
  · intro e i hi
    cases hb : s.testBit i with
    | false => rfl
    | true => simpa using e i hi hb
def safeL (h : House) (l : List Course) (more : List Boil) : Bool := !ex l.length fun i => !safeB h (l.getD i default) (lastN h (l.getD i default) more)
theorem safeL_iff {h : House} {l : List Course} {more : List Boil} : safeL h l more = true ↔ ∀ c ∈ l, safeB h c (lastN h c more) = true := by
  unfold safeL
  rw [Bool.not_eq_true', ex_no]
  constructor
  · intro e c hc
    obtain ⟨i, hi, rfl⟩ := of_memc hc
    simpa using e i hi
  · intro e i hi
    simpa using e _ (getDc hi)
def atL (x : List Int) (hour : Int) : List Boil := x.map fun n => ⟨n, hour⟩
def rowL (x : List Int) (hour : Int) : List Boil := (List.range x.length).map fun i => ⟨x.getD i 0, hour + (i : Int)⟩
def boil6 (h : House) (hour : Int) : Option (List Int) := setAll (fun x => safeL h (ask6 h) (atL x hour)) h.th
def longest (h : House) (hour : Int) : Int := min 3 (h.last - hour + 1)
def order6 (h : House) (hour : Int) : Option (List Int) := seqAll (fun x => safeL h (ask6 h) (rowL x hour)) h.th ((longest h hour).toNat + 1)
theorem isBoiled_iff {bs : List Boil} {x y : Int} : isBoiled bs x y = true ↔ ⟨x, y⟩ ∈ bs := by
  unfold isBoiled
  rw [ex_iff]
  constructor
  · rintro ⟨i, hi, e⟩
    simp only [Bool.and_eq_true, decide_eq_true_eq] at e
    rw [← e.1, ← e.2]
    show bs.getD i default ∈ bs
    rw [List.getD_eq_getElem?_getD, List.getElem?_eq_getElem hi]; exact List.getElem_mem hi
  · intro hm
    obtain ⟨i, hi, e⟩ := List.mem_iff_getElem.1 hm
    refine ⟨i, hi, ?_⟩
    rw [List.getD_eq_getElem?_getD, List.getElem?_eq_getElem hi, Option.getD_some, e]; simp
theorem leave6_least {h : House} (hV : ValidH h) : ∃ x, leave6 h = some x ∧ LeastS (possible6 h) h.signs.length x := by
  cases e : leave6 h with
  | none => rw [leave6_ref hV] at e; cases e
  | some x => exact ⟨x, rfl, setAll_some e⟩
end Go.Proofs.YtdnbkjgbehakpaaGreat
