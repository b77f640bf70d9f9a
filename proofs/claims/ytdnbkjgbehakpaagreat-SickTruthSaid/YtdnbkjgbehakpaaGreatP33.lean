/- Chapter 6: what more touches, boilings, signs and sick women change. -/
import Derived.Test.YtdnbkjgbehakpaaGreatP30
namespace Go.Proofs.YtdnbkjgbehakpaaGreat
open Go Go.Eng Go.RowKit

/-- A set within another one. -/
def SubN (s s' : Nat) : Prop := ∀ i, s.testBit i = true → s'.testBit i = true
theorem SubN.refl (s : Nat) : SubN s s := fun _ h => h
theorem SubN.trans {a b c : Nat} (h : SubN a b) (k : SubN b c) : SubN a c := fun i hi => k i (h i hi)
theorem boilN_mono {bs bs' : List Boil} {hour s s' : Nat} (hb : ∀ x, isBoiled bs' x (hour : Int) = true → isBoiled bs x (hour : Int) = true) (hs : s < 2 ^ 64) (hs' : s' < 2 ^ 64) (h : SubN s s') {n : Nat} (hn : n ≤ 60) : SubN (boilN bs hour s n) (boilN bs' hour s' n) := fun i hi => by
  rw [(boilN_spec hs n hn).2] at hi
  rw [(boilN_spec hs' n hn).2]
  simp only [Bool.and_eq_true, Bool.not_eq_true'] at hi ⊢
  refine ⟨h i hi.1, ?_⟩
  rw [Bool.and_eq_false_iff] at hi ⊢
  rcases hi.2 with h1 | h1
  · exact .inl h1
  · refine .inr ?_
    cases hc : isBoiled bs' (i : Int) (hour : Int) with
    | false => rfl
    | true => rw [hb _ hc] at h1; cases h1
/-- Touches of the same things. -/
def SameT (ts ts' : List Touch) (n : Nat) : Prop := ∀ i, i < n → (ts.getD i default).a = (ts'.getD i default).a ∧ (ts.getD i default).b = (ts'.getD i default).b
theorem touchB_mono {ts ts' : List Touch} {c c' : Course} {hour s s' k : Nat} (ht : (ts.getD k default).a = (ts'.getD k default).a ∧ (ts.getD k default).b = (ts'.getD k default).b) (hh : c.hours.getD k 0 = c'.hours.getD k 0) (h : SubN s s') (hb : touchB ts c hour s k = true) : touchB ts' c' hour s' k = true := by
  unfold touchB at hb ⊢
  rw [← hh, ← ht.1, ← ht.2]
  simp only [Bool.and_eq_true, Bool.or_eq_true] at hb ⊢
  exact ⟨hb.1, hb.2.imp (h _) (h _)⟩
theorem touchN_mono {ts ts' : List Touch} {c c' : Course} {hour s s' : Nat} (h : SubN s s') : ∀ k, SameT ts ts' k → (∀ i, i < k → c.hours.getD i 0 = c'.hours.getD i 0) → SubN (touchN ts c hour s k) (touchN ts' c' hour s' k)
  | 0, _, _ => h
  | k + 1, ht, hh => fun i hi => by
    have ih := touchN_mono (hour := hour) h k (fun j hj => ht j (by omega)) (fun j hj => hh j (by omega))
    rw [touchN_bit] at hi ⊢
    rw [Bool.or_eq_true] at hi ⊢
    rcases hi with hi | hi
    · exact .inl (ih i hi)
    · rw [Bool.and_eq_true] at hi
      refine .inr ?_
      rw [Bool.and_eq_true]
      refine ⟨touchB_mono (ht k (by omega)) (hh k (by omega)) ih hi.1, ?_⟩
      rw [← (ht k (by omega)).1, ← (ht k (by omega)).2]
      exact hi.2
theorem touchN_more {ts : List Touch} {c : Course} {hour s : Nat} (k : Nat) : SubN (touchN ts c hour s k) (touchN ts c hour s (k + 1)) := fun i hi => by
  rw [touchN_bit, hi]; rfl
/-- With fewer boilings, more touches and more sick women more carries a sickness. -/
theorem carN_mono {sick sick' : List Int} {ts ts' : List Touch} {th : Nat} {c c' : Course} {bs bs' : List Boil} (h60 : th ≤ 60) (ho : c.owners = c'.owners) (hol : c.owners.length ≤ th) (hlt : TouchLt ts th) (hlt' : TouchLt ts' th)
    (hsick : ∀ x ∈ sick, x ∈ sick') (hl : ts'.length = ts.length ∨ ts'.length = ts.length + 1) (ht : SameT ts ts' ts.length) (hh : ∀ i, i < ts.length → c.hours.getD i 0 = c'.hours.getD i 0) (hb : ∀ x y, isBoiled bs' x y = true → isBoiled bs x y = true) :
    ∀ k, SubN (carN sick ts th c bs k) (carN sick' ts' th c' bs' k)
  | 0 => fun i hi => by
    simp only [carN, startN, bset_bit, Bool.and_eq_true, decide_eq_true_eq] at hi ⊢
    rw [← ho]
    exact ⟨hi.1, hsick _ hi.2⟩
  | k + 1 => by
    have ih := carN_mono h60 ho hol hlt hlt' hsick hl ht hh hb k
    have l1 := Nat.lt_of_lt_of_le (carN_lt (sick := sick) (bs := bs) h60 hlt hol k) (Nat.pow_le_pow_right (by omega) (show th ≤ 64 by omega))
    have l2 := Nat.lt_of_lt_of_le (carN_lt (sick := sick') (bs := bs') h60 hlt' (show c'.owners.length ≤ th by rw [← ho]; exact hol) k) (Nat.pow_le_pow_right (by omega) (show th ≤ 64 by omega))
    have h1 := boilN_mono (hour := k) (fun x => hb x k) l1 l2 ih h60
    have h2 := touchN_mono (hour := k) h1 ts.length ht hh
    simp only [carN]
    rcases hl with e | e
    · rw [e]; exact h2
    · rw [e]; exact h2.trans (touchN_more _)
theorem isBoiled_append {a b : List Boil} {x y : Int} : isBoiled (a ++ b) x y = (isBoiled a x y || isBoiled b x y) := by
  rw [Bool.eq_iff_iff, Bool.or_eq_true, isBoiled_iff, isBoiled_iff, isBoiled_iff, List.mem_append]
/-! ### Fewer truths -/
theorem verdict_sub {l k : List Course} {f : Course → Bool} (h : ∀ c ∈ l, c ∈ k) (h0 : l ≠ []) (h3 : verdictL k f ≠ 3) : verdictL l f = verdictL k f := by
  have hk : k ≠ [] := by
    obtain ⟨c, hc⟩ := List.exists_mem_of_ne_nil _ h0
    exact List.ne_nil_of_mem (h c hc)
  rcases verdict_cases k f with e | e | e
  · rw [e]; exact verdict_one.2 fun c hc => verdict_one.1 e c (h c hc)
  · rw [e]; exact (verdict_two h0).2 fun c hc => (verdict_two hk).1 e c (h c hc)
  · exact absurd e h3
/-- Who is not sick and owns something that carries a sickness. -/
def harmB (h : House) (c : Course) (s : Nat) (w : Int) : Bool := ex h.np fun i => s.testBit i && decide (c.owners.getD i 0 = w) && !decide (c.owners.getD i 0 ∈ h.sick)
theorem harmB_iff {h : House} {c : Course} {s : Nat} {w : Int} : harmB h c s w = true ↔ w ∉ h.sick ∧ ∃ i, i < h.np ∧ s.testBit i = true ∧ c.owners.getD i 0 = w := by
  unfold harmB
  rw [ex_iff]
  constructor
  · rintro ⟨i, hi, e⟩
    simp only [Bool.and_eq_true, decide_eq_true_eq, Bool.not_eq_true', decide_eq_false_iff_not] at e
    obtain ⟨⟨e1, e2⟩, e3⟩ := e
    exact ⟨by rw [← e2]; exact e3, i, hi, e1, e2⟩
  · rintro ⟨h1, i, hi, e1, e2⟩
    refine ⟨i, hi, ?_⟩
    simp only [Bool.and_eq_true, decide_eq_true_eq, Bool.not_eq_true', decide_eq_false_iff_not]
    exact ⟨⟨e1, e2⟩, by rw [e2]; exact h1⟩
def carryF (h : House) (i : Nat) (c : Course) : Bool := (lastN h c []).testBit i
def harmF (h : House) (w : Nat) (c : Course) : Bool := harmB h c (lastN h c []) (w : Int)
def carry6 (h : House) : List Int := (List.range h.th).map fun i => verdictL (ask6 h) (carryF h i)
def whose6 (h : House) : List Int := sel h.table.women.length fun w => !decide (verdictL (ask6 h) (harmF h w) = 2)
theorem carry6_len (h : House) : (carry6 h).length = h.th := by simp [carry6]
theorem carry6_get {h : House} {i : Nat} (hi : i < h.th) : (carry6 h).getD i 0 = verdictL (ask6 h) (carryF h i) := by simp [carry6, List.getD_eq_getElem?_getD, hi]
theorem mem_whose6 {h : House} (h0 : ask6 h ≠ []) {x : Int} : x ∈ whose6 h ↔ ∃ w : Nat, w < h.table.women.length ∧ x = w ∧ ∃ c ∈ ask6 h, harmF h w c = true := by
  unfold whose6
  rw [mem_sel]
  have key : ∀ w : Nat, (!decide (verdictL (ask6 h) (harmF h w) = 2)) = true ↔ ∃ c ∈ ask6 h, harmF h w c = true := fun w => by
    rw [Bool.not_eq_true', decide_eq_false_iff_not, verdict_two h0]
    constructor
    · intro hn
      refine Classical.byContradiction fun hx => hn fun c hc => ?_
      cases hf : harmF h w c with
      | false => rfl
      | true => exact absurd ⟨c, hc, hf⟩ hx
    · rintro ⟨c, hc, e⟩ hn
      rw [hn c hc] at e; cases e
  constructor
  · rintro ⟨w, h1, h2, e⟩; exact ⟨w, h1, e, (key w).1 h2⟩
  · rintro ⟨w, h1, e, h2⟩; exact ⟨w, h1, (key w).2 h2, e⟩
/-- Houses of which one has fewer truths, and all else alike. -/
structure Closer (x h : House) : Prop where
  sub : ∀ c ∈ ask6 x, c ∈ ask6 h
  last : ∀ c more, lastN x c more = lastN h c more
  np : x.np = h.np
  sick : x.sick = h.sick
  th : x.th = h.th
  women : x.table.women.length = h.table.women.length
def keptL (old now : List Int) : Bool := decide (old.length = now.length ∧ ∀ i, i < old.length → old.getD i 0 = 3 ∨ old.getD i 0 = now.getD i 0)
theorem Closer.kept {x h : House} (a : Closer x h) (h0 : ask6 x ≠ []) : keptL (carry6 h) (carry6 x) = true := by
  refine decide_eq_true ⟨by rw [carry6_len, carry6_len, a.th], fun i hi => ?_⟩
  rw [carry6_len] at hi
  rw [carry6_get hi, carry6_get (by rw [a.th]; exact hi)]
  by_cases h3 : verdictL (ask6 h) (carryF h i) = 3
  · exact .inl h3
  · right
    have e : carryF x i = carryF h i := funext fun c => by unfold carryF; rw [a.last]
    rw [e]
    exact (verdict_sub a.sub h0 h3).symm
theorem Closer.whose {x h : House} (a : Closer x h) (h0 : ask6 x ≠ []) : ∀ w ∈ whose6 x, w ∈ whose6 h := fun y hy => by
  obtain ⟨w, h1, rfl, c, hc, e⟩ := (mem_whose6 h0).1 hy
  have hn : ask6 h ≠ [] := List.ne_nil_of_mem (a.sub c hc)
  refine (mem_whose6 hn).2 ⟨w, by rw [← a.women]; exact h1, rfl, c, a.sub c hc, ?_⟩
  unfold harmF harmB at e ⊢
  rwa [a.last, a.np, a.sick] at e
theorem Closer.safe {x h : House} (a : Closer x h) {more : List Boil} (hs : safeL h (ask6 h) more = true) : safeL x (ask6 x) more = true := by
  rw [safeL_iff] at hs ⊢
  intro c hc
  have := hs c (a.sub c hc)
  unfold safeB at this ⊢
  rwa [a.last, a.np, a.sick]
theorem Closer.boil {x h : House} (a : Closer x h) {hour : Int} {p q : List Int} (hp : LeastS (fun y => safeL x (ask6 x) (atL y hour)) x.th p) (hq : LeastS (fun y => safeL h (ask6 h) (atL y hour)) h.th q) : p.length ≤ q.length := by
  have := hp.no q (by rw [a.th]; exact hq.inc) (a.safe hq.is)
  refine Classical.byContradiction fun hn => ?_
  rw [shorter_iff.2 (.inl (by omega))] at this; cases this
end Go.Proofs.YtdnbkjgbehakpaaGreat

/- Chapter 6: some of the signs. -/
namespace Go.Proofs.YtdnbkjgbehakpaaGreat
open Go Go.Eng Go.RowKit

theorem fstNo_spec6 {p : Nat → Bool} : ∀ n, (∀ i, i < fstNo p n → p i = true) ∧ (fstNo p n < n → p (fstNo p n) = false)
  | 0 => ⟨fun i hi => absurd hi (Nat.not_lt_zero _), fun h => absurd h (Nat.not_lt_zero _)⟩
  | n + 1 => by
    have ih := fstNo_spec6 (p := p) n
    have hle := fstNo_le p n
    simp only [fstNo]
    by_cases h : fstNo p n < n
    · rw [if_pos h]
      exact ⟨ih.1, fun _ => ih.2 h⟩
    · rw [if_neg h]
      have e : fstNo p n = n := by omega
      rw [e] at ih
      by_cases hp : p n = true
      · rw [if_pos hp]
        refine ⟨fun i hi => ?_, fun h => absurd h (by omega)⟩
        rcases Nat.lt_succ_iff_lt_or_eq.1 hi with h1 | rfl
        · exact ih.1 i h1
        · exact hp
      · rw [if_neg hp]
        exact ⟨ih.1, fun _ => by simpa using hp⟩
def sgn (t : Sign) (s : Nat) : Bool := decide (s.testBit t.thing.toNat = t.carries)
theorem right_all {ss : List Sign} {s : Nat} : rightBut6 ss s [] = true ↔ ∀ t ∈ ss, sgn t s = true := by
  rw [rightNil_iff6]
  constructor
  · intro h t ht
    obtain ⟨i, hi, e⟩ := List.mem_iff_getElem.1 ht
    have := h i hi
    unfold signS at this
    have e2 : ss.getD i default = t := by rw [List.getD_eq_getElem?_getD, List.getElem?_eq_getElem hi]; exact e
    rw [e2] at this; exact this
  · intro h i hi
    have : ss.getD i default ∈ ss := by rw [List.getD_eq_getElem?_getD, List.getElem?_eq_getElem hi]; exact List.getElem_mem hi
    exact h _ this
theorem poss_ask {h : House} : possible6 h [] = true ↔ ask6 h ≠ [] := by
  rw [possible_iff6]
  constructor
  · rintro ⟨c, h1, h2⟩ e
    have : c ∈ ask6 h := List.mem_filter.2 ⟨h1, h2⟩
    rw [e] at this; cases this
  · intro hne
    obtain ⟨c, hc⟩ := List.exists_mem_of_ne_nil _ hne
    exact ⟨c, (List.mem_filter.1 hc).1, (List.mem_filter.1 hc).2⟩
end Go.Proofs.YtdnbkjgbehakpaaGreat
