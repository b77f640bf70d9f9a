/- Chapter 6: what more touches, boilings, signs and sick women change. -/
import Derived.Test.YtdnbkjgbehakpaaP30
namespace Go.Proofs.Ytdnbkjgbehakpaa
open Go Go.Eng Go.RowKit

/-- A set within another one. -/
def SubN (s s' : Nat) : Prop := ∀ i, s.testBit i = true → s'.testBit i = true
theorem SubN.refl (s : Nat) : SubN s s := fun _ h => h
theorem SubN.trans {a b c : Nat} (h : SubN a b) (k : SubN b c) : SubN a c := fun i hi => k i (h i hi)
/-! ### Fewer truths -/
theorem verdict_sub {l k : List Course} {f : Course → Bool} (h : ∀ c ∈ l, c ∈ k) (h0 : l ≠ []) (h3 : verdictL k f ≠ 3) : verdictL l f = verdictL k f := by
  have hk : k ≠ [] := by
    obtain ⟨c, hc⟩ := List.exists_mem_of_ne_nil _ h0
    exact List.ne_nil_of_mem (h c hc)
  rcases verdict_cases k f with e | e | e
  · rw [e]; exact verdict_one.2 fun c hc => verdict_one.1 e c (h c hc)
  · rw [e]; exact (verdict_two h0).2 fun c hc => (verdict_two hk).1 e c (h c hc)
  · exact absurd e h3
/-- Who is not sick and owns something that carries a sickness. -/
def harmB (h : House) (c : Course) (s : Nat) (w : Int) : Bool := ex h.np fun i => s.testBit i && decide (c.owners.getD i 0 = w) && !decide (c.owners.getD i 0 ∈ h.sick)
def carryF (h : House) (i : Nat) (c : Course) : Bool := (lastN h c []).testBit i
def harmF (h : House) (w : Nat) (c : Course) : Bool := harmB h c (lastN h c []) (w : Int)
def carry6 (h : House) : List Int := (List.range h.th).map fun i => verdictL (ask6 h) (carryF h i)
def whose6 (h : House) : List Int := sel h.table.women.length fun w => !decide (verdictL (ask6 h) (harmF h w) = 2)
theorem carry6_len (h : House) : (carry6 h).length = h.th := by simp [carry6]
theorem carry6_get {h : House} {i : Nat} (hi : i < h.th) : (carry6 h).getD i 0 = verdictL (ask6 h) (carryF h i) := by simp [carry6, List.getD_eq_getElem?_getD, hi]
theorem mem_whose6 {h : House} (h0 : ask6 h ≠ []) {x : Int} : x ∈ whose6 h ↔ ∃ w : Nat, w < h.table.women.length ∧ x = w ∧ ∃ c ∈ ask6 h, harmF h w c = true := by
  unfold whose6
  rw [mem_sel]
  have key : ∀ w : Nat, (!decide (verdictL (ask6 h) (harmF h w) = 2)) = true ↔ ∃ c ∈ ask6 h, harmF h w c = true := fun w => by
    rw [Bool.not_eq_true', decide_eq_false_iff_not, verdict_two h0]
    constructor
    · intro hn
      refine Classical.byContradiction fun hx => hn fun c hc => ?_
      cases hf : harmF h w c with
      | false => rfl
      | true => exact absurd ⟨c, hc, hf⟩ hx
    · rintro ⟨c, hc, e⟩ hn
      rw [hn c hc] at e; cases e
  constructor
  · rintro ⟨w, h1, h2, e⟩; exact ⟨w, h1, e, (key w).1 h2⟩
  · rintro ⟨w, h1, e, h2⟩; exact ⟨w, h1, (key w).2 h2, e⟩
/-- Houses of which one has fewer truths, and all else alike. -/
structure Closer (x h : House) : Prop where
  sub : ∀ c ∈ ask6 x, c ∈ ask6 h
  last : ∀ c more, lastN x c more = lastN h c more
  np : x.np = h.np
  sick : x.sick = h.sick
  th : x.th = h.th
  women : x.table.women.length = h.table.women.length
def keptL (old now : List Int) : Bool := decide (old.length = now.length ∧ ∀ i, i < old.length → old.getD i 0 = 3 ∨ old.getD i 0 = now.getD i 0)
theorem Closer.kept {x h : House} (a : Closer x h) (h0 : ask6 x ≠ []) : keptL (carry6 h) (carry6 x) = true := by
  refine decide_eq_true ⟨by rw [carry6_len, carry6_len, a.th], fun i hi => ?_⟩
  rw [carry6_len] at hi
  rw [carry6_get hi, carry6_get (by rw [a.th]; exact hi)]
  by_cases h3 : verdictL (ask6 h) (carryF h i) = 3
  · exact .inl h3
  · right
    have e : carryF x i = carryF h i := funext fun c => by unfold carryF; rw [a.last]
    rw [e]
    exact (verdict_sub a.sub h0 h3).symm
theorem Closer.whose {x h : House} (a : Closer x h) (h0 : ask6 x ≠ []) : ∀ w ∈ whose6 x, w ∈ whose6 h := fun y hy => by
  obtain ⟨w, h1, rfl, c, hc, e⟩ := (mem_whose6 h0).1 hy
  have hn : ask6 h ≠ [] := List.ne_nil_of_mem (a.sub c hc)
  refine (mem_whose6 hn).2 ⟨w, by rw [← a.women]; exact h1, rfl, c, a.sub c hc, ?_⟩
  unfold harmF harmB at e ⊢
  rwa [a.last, a.np, a.sick] at e
theorem Closer.safe {x h : House} (a : Closer x h) {more : List Boil} (hs : safeL h (ask6 h) more = true) : safeL x (ask6 x) more = true := by
  rw [safeL_iff] at hs ⊢
  intro c hc
  have := hs c (a.sub c hc)
  unfold safeB at this ⊢
  rwa [a.last, a.np, a.sick]
theorem Closer.boil {x h : House} (a : Closer x h) {hour : Int} {p q : List Int} (hp : LeastS (fun y => safeL x (ask6 x) (atL y hour)) x.th p) (hq : LeastS (fun y => safeL h (ask6 h) (atL y hour)) h.th q) : p.length ≤ q.length := by
  have := hp.no q (by rw [a.th]; exact hq.inc) (a.safe hq.is)
  refine Classical.byContradiction fun hn => ?_
  rw [shorter_iff.2 (.inl (by omega))] at this; cases this
end Go.Proofs.Ytdnbkjgbehakpaa

/- Chapter 6: some of the signs. -/
namespace Go.Proofs.Ytdnbkjgbehakpaa
open Go Go.Eng Go.RowKit

end Go.Proofs.Ytdnbkjgbehakpaa
