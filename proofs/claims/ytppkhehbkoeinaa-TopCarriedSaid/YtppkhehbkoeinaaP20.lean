/- Plain law: errands. -/
import Derived.Test.YtppkhehbkoeinaaP1
namespace Go.Proofs.Ytppkhehbkoeinaa
open Go Go.Eng Go.RowKit

structure Rg where
  lo : Int
  hi : Int
  deriving DecidableEq
instance : Inhabited Rg := ⟨⟨0, 0⟩⟩
structure Errand where
  table : Table
  home : List Rg
  streets : List Rg
  start : Int
  calls : Int
def Errand.n (r : Errand) : Nat := r.table.women.length
def inside (r : Rg) (most : Int) : Bool := decide (0 ≤ r.lo) && decide (r.lo ≤ r.hi) && decide (r.hi ≤ most)
def faultT (r : Errand) : Int :=
  if fault r.table ≠ 0 then fault r.table
  else if truths r.table = [] then 11
  else if 4 < r.n ∨ 7 < r.calls then 3
  else if r.home.length ≠ r.n ∨ r.streets.length ≠ r.n * (r.n + 1) / 2 ∨ ¬ (0 ≤ r.start ∧ r.start ≤ 1439) ∨ r.calls < 0 then 1
  else if ex r.home.length (fun i => !inside (r.home.getD i default) 1439) = true then 1
  else if ex r.streets.length (fun i => !inside (r.streets.getD i default) 60) = true then 1 else 0
structure ValidE (r : Errand) : Prop where
  table : Valid r.table
  some : truths r.table ≠ []
  women : r.n ≤ 4
  calls : 0 ≤ r.calls ∧ r.calls ≤ 7
  homeLen : r.home.length = r.n
  streetsLen : r.streets.length = r.n * (r.n + 1) / 2
  start : 0 ≤ r.start ∧ r.start ≤ 1439
  home : ∀ i, i < r.home.length → inside (r.home.getD i default) 1439 = true
  street : ∀ i, i < r.streets.length → inside (r.streets.getD i default) 60 = true
theorem faultT_zero {r : Errand} : faultT r = 0 ↔ ValidE r := by
  unfold faultT
  constructor
  · intro h
    split at h
    · rename_i h0; exact absurd h h0
    rename_i h0
    split at h
    · cases h
    rename_i h1
    split at h
    · cases h
    rename_i h2
    split at h
    · cases h
    rename_i h3
    split at h
    · cases h
    rename_i h4
    split at h
    · cases h
    rename_i h5
    refine ⟨fault_zero.1 (by omega), h1, by omega, by omega, by omega, by omega, by omega, fun i hi => ?_, fun i hi => ?_⟩
    · have := ex_no.1 (by simpa using h4) i hi; simpa using this
    · have := ex_no.1 (by simpa using h5) i hi; simpa using this
  · rintro ⟨h1, h2, h3, h4, h5, h6, h7, h8, h9⟩
    rw [if_neg (by rw [fault_zero.2 h1]; simp), if_neg h2, if_neg (by omega), if_neg (by omega), if_neg (by rw [ex_no.2 fun i hi => by rw [h8 i hi]; rfl]; simp), if_neg (by rw [ex_no.2 fun i hi => by rw [h9 i hi]; rfl]; simp)]
theorem inside_iff {r : Rg} {most : Int} : inside r most = true ↔ 0 ≤ r.lo ∧ r.lo ≤ r.hi ∧ r.hi ≤ most := by
  simp [inside, and_assoc]
/-- The moves of an errand. -/
def movesR (r : Errand) : List Move := movesOf r.table (fewest r.table (truths r.table))
/-- The streets that begin before a place. -/
def sumTo (n : Nat) : Nat → Nat
  | 0 => 0
  | k + 1 => sumTo n k + (n - k)
def streetL (n a b : Nat) : Nat := sumTo n a + (b - a - 1)
def streetN (n a b : Nat) : Nat := streetL n (min a b) (max a b)
theorem streetL_lt {n a b : Nat} (hn : n ≤ 4) (h1 : a < b) (h2 : b ≤ n) : streetL n a b < n * (n + 1) / 2 := by
  have h : ∀ n : Fin 5, ∀ a b : Fin 5, a.val < b.val → b.val ≤ n.val → streetL n.val a.val b.val < n.val * (n.val + 1) / 2 := by decide
  exact h ⟨n, by omega⟩ ⟨a, by omega⟩ ⟨b, by omega⟩ h1 h2
theorem streetN_lt {n a b : Nat} (hn : n ≤ 4) (h0 : a ≠ b) (h1 : a ≤ n) (h2 : b ≤ n) : streetN n a b < n * (n + 1) / 2 :=
  streetL_lt hn (by omega) (by omega)
theorem streets_le {n : Nat} (hn : n ≤ 4) : n * (n + 1) / 2 ≤ 10 := by
  have h : ∀ n : Fin 5, n.val * (n.val + 1) / 2 ≤ 10 := by decide
  exact h ⟨n, by omega⟩
structure Walk (n : Nat) (l : List Int) : Prop where
  len : l.length ≤ 7
  lt : ∀ i, i < l.length → 0 ≤ l.getD i 0 ∧ l.getD i 0 < n
  ne : ∀ i, i + 1 < l.length → l.getD (i + 1) 0 ≠ l.getD i 0
structure TruthE (r : Errand) (l : List Int) : Prop where
  len : l.length = r.streets.length
  has : ∀ i, i < r.streets.length → (r.streets.getD i default).lo ≤ l.getD i 0 ∧ l.getD i 0 ≤ (r.streets.getD i default).hi
/-- Where one is before a call. -/
def placeAt (n : Nat) (walk : List Int) : Nat → Int
  | 0 => n
  | k + 1 => walk.getD k 0
/-- The minute after some calls. -/
def minuteAt (r : Errand) (truth walk : List Int) : Nat → Int
  | 0 => r.start
  | k + 1 => max (r.home.getD (walk.getD k 0).toNat default).lo (minuteAt r truth walk k + truth.getD (streetN r.n (placeAt r.n walk k).toNat (walk.getD k 0).toNat) 0)
def minutes (r : Errand) (truth walk : List Int) : List Int := (List.range walk.length).map fun k => minuteAt r truth walk (k + 1)
def minutesTo (r : Errand) (truth walk : List Int) (k : Nat) : List Int := (List.range k).map fun k => minuteAt r truth walk (k + 1)
theorem minutesTo_succ (r : Errand) (truth walk : List Int) (k : Nat) : minutesTo r truth walk (k + 1) = minutesTo r truth walk k ++ [minuteAt r truth walk (k + 1)] := by simp [minutesTo, List.range_succ]
theorem minutesTo_len (r : Errand) (truth walk : List Int) (k : Nat) : (minutesTo r truth walk k).length = k := by simp [minutesTo]
theorem minutes_len (r : Errand) (truth walk : List Int) : (minutes r truth walk).length = walk.length := by simp [minutes]
theorem minutes_get {r : Errand} {truth walk : List Int} {k : Nat} (h : k < walk.length) : (minutes r truth walk).getD k 0 = minuteAt r truth walk (k + 1) := by
  simp [minutes, List.getD_eq_getElem?_getD, h]
def greatestE (r : Errand) : List Int := r.streets.map (·.hi)
/-- A place and the next one on a walk. -/
theorem Walk.step {n : Nat} {walk : List Int} (h : Walk n walk) {k : Nat} (hk : k < walk.length) : 0 ≤ placeAt n walk k ∧ placeAt n walk k ≤ n ∧ 0 ≤ walk.getD k 0 ∧ walk.getD k 0 < n ∧ placeAt n walk k ≠ walk.getD k 0 := by
  have h1 := h.lt k hk
  cases k with
  | zero => exact ⟨by show (0 : Int) ≤ n; omega, by show (n : Int) ≤ n; omega, h1.1, h1.2, by show (n : Int) ≠ _; omega⟩
  | succ k =>
    have h2 := h.lt k (by omega)
    exact ⟨h2.1, by show walk.getD k 0 ≤ n; omega, h1.1, h1.2, fun e => h.ne k hk e.symm⟩
theorem Walk.street {r : Errand} {walk : List Int} (hn : r.n ≤ 4) (h : Walk r.n walk) {k : Nat} (hk : k < walk.length) : streetN r.n (placeAt r.n walk k).toNat (walk.getD k 0).toNat < r.n * (r.n + 1) / 2 := by
  obtain ⟨h1, h2, h3, h4, h5⟩ := h.step hk
  exact streetN_lt hn (by omega) (by omega) (by omega)
theorem TruthE.small {r : Errand} (hV : ValidE r) {l : List Int} (h : TruthE r l) {i : Nat} (hi : i < r.streets.length) : 0 ≤ l.getD i 0 ∧ l.getD i 0 ≤ 60 := by
  have h1 := h.has i hi
  have h2 := inside_iff.1 (hV.street i hi)
  omega
theorem minuteAt_bound {r : Errand} (hV : ValidE r) {truth walk : List Int} (ht : TruthE r truth) (hw : Walk r.n walk) : ∀ k, k ≤ walk.length → 0 ≤ minuteAt r truth walk k ∧ minuteAt r truth walk k ≤ 1439 + 60 * k
  | 0, _ => by have := hV.start; simp only [minuteAt]; omega
  | k + 1, hk => by
    have ih := minuteAt_bound hV ht hw k (by omega)
    have h1 := hw.street hV.women (show k < walk.length by omega)
    have h2 := ht.small hV (i := streetN r.n (placeAt r.n walk k).toNat (walk.getD k 0).toNat) (by rw [hV.streetsLen]; exact h1)
    have h3 := hw.step (show k < walk.length by omega)
    have h4 := inside_iff.1 (hV.home (walk.getD k 0).toNat (by rw [hV.homeLen]; omega))
    simp only [minuteAt]
    omega
theorem greatest_truth {r : Errand} (hV : ValidE r) : TruthE r (greatestE r) := ⟨by simp [greatestE], fun i hi => by
  have h := inside_iff.1 (hV.street i hi)
  have e : (greatestE r).getD i 0 = (r.streets.getD i default).hi := by simp [greatestE, List.getD_eq_getElem?_getD, List.getElem?_eq_getElem hi]
  rw [e]; omega⟩
/-- Does a call come in time, at the latest? -/
def inTime (r : Errand) (walk : List Int) (i : Nat) : Bool := decide (minuteAt r (greatestE r) walk (i + 1) ≤ (r.home.getD (walk.getD i 0).toNat default).hi)
def lateN (r : Errand) (walk : List Int) : Nat := fstNo (inTime r walk) walk.length
def sureB (r : Errand) (walk : List Int) : Bool := decide ((walk.length : Int) ≤ r.calls) && decide (lateN r walk = walk.length)
def endingE (r : Errand) (walk : List Int) : Int := minuteAt r (greatestE r) walk walk.length
/-- Does a walk bring a piece back? -/
def brought (walk : List Int) (m : Move) : Bool := ex walk.length fun i => ex i fun k => decide (walk.getD k 0 = m.fro) && decide (walk.getD i 0 = m.to)
def bringsN (ms : List Move) (walk : List Int) : Nat := bset ms.length fun i => brought walk (ms.getD i default)
/-- The pieces of some moves. -/
def piecesTo (ms : List Move) (p : Nat → Bool) (k : Nat) : List Int := ((List.range k).filter p).map fun i => (ms.getD i default).piece
def piecesB (ms : List Move) (p : Nat → Bool) : List Int := piecesTo ms p ms.length
def pieces (ms : List Move) (b : Nat) : List Int := piecesB ms (fun i => b.testBit i)
def fullM (ms : List Move) : Nat := 2 ^ ms.length - 1
/-- May a walk that begins so go on to a woman? -/
def goes (b : List Int) (w : Nat) : Bool := decide (b.length = 0) || !decide (b.getD (b.length - 1) 0 = w)
/-- All walks that begin so, of at most so many calls more. -/
def walksFrom (n : Nat) : Nat → List Int → List (List Int)
  | 0, b => [b]
  | f + 1, b => b :: (List.range n).flatMap fun w => if goes b w then walksFrom n f (b ++ [(w : Int)]) else []
/-- The walks, up to one woman. -/
def walksUpto (n f : Nat) (b : List Int) (k : Nat) : List (List Int) := b :: (List.range k).flatMap fun w => if goes b w then walksFrom n f (b ++ [(w : Int)]) else []
theorem walksUpto_succ (n f : Nat) (b : List Int) (k : Nat) : walksUpto n f b (k + 1) = walksUpto n f b k ++ if goes b k then walksFrom n f (b ++ [(k : Int)]) else [] := by
  simp [walksUpto, List.range_succ, List.flatMap_append]
theorem walksUpto_all (n f : Nat) (b : List Int) : walksUpto n f b n = walksFrom n (f + 1) b := rfl
def walks (n most : Nat) : List (List Int) := walksFrom n most []
def better (walk : List Int) (ending : Int) (other : List Int) (otherEnding : Int) : Bool :=
  if walk.length ≠ other.length then decide (walk.length < other.length) else decide (ending < otherEnding) || (decide (ending = otherEnding) && before walk other)
/-- Does some walk of at most so many calls bring all back? -/
def canIn (n : Nat) (ms : List Move) (most : Nat) : Bool := ex (walks n most).length fun i => decide (bringsN ms ((walks n most).getD i []) = fullM ms)
end Go.Proofs.Ytppkhehbkoeinaa

/- Plain law: walks in lexicographic order; the best one; the fewest calls; the pieces that must wait. -/
namespace Go.Proofs.Ytppkhehbkoeinaa
open Go Go.Eng Go.RowKit

/-- A list goes on from a beginning. -/
def Goes (n : Nat) : List Int → List Int → Prop
  | _, [] => True
  | b, w :: d => (0 ≤ w ∧ w < n) ∧ goes b w.toNat = true ∧ Goes n (b ++ [w]) d
theorem mem_walksFrom {n : Nat} : ∀ {f : Nat} {b l : List Int}, l ∈ walksFrom n f b ↔ ∃ d, l = b ++ d ∧ d.length ≤ f ∧ Goes n b d
  | 0, b, l => by
    simp only [walksFrom, List.mem_singleton]
    constructor
    · rintro rfl; exact ⟨[], by simp, by simp, trivial⟩
    · rintro ⟨d, rfl, h, _⟩
      have : d = [] := List.length_eq_zero_iff.1 (by omega)
      simp [this]
  | f + 1, b, l => by
    simp only [walksFrom, List.mem_cons, List.mem_flatMap, List.mem_range]
    constructor
    · rintro (rfl | ⟨w, hw, hl⟩)
      · exact ⟨[], by simp, by simp, trivial⟩
      · split at hl
        · rename_i hg
          obtain ⟨d, rfl, h1, h2⟩ := mem_walksFrom.1 hl
          exact ⟨(w : Int) :: d, by simp, by simp; omega, ⟨by omega, by omega⟩, by simpa using hg, h2⟩
        · cases hl
    · rintro ⟨d, rfl, h1, h2⟩
      cases d with
      | nil => left; simp
      | cons w d =>
        obtain ⟨⟨h3, h4⟩, h5, h6⟩ := h2
        right
        refine ⟨w.toNat, by omega, ?_⟩
        rw [if_pos h5]
        have e : (w.toNat : Int) = w := by omega
        rw [e]
        exact mem_walksFrom.2 ⟨d, by simp, by simp at h1; omega, h6⟩
theorem goes_iff {n : Nat} : ∀ {d b : List Int}, Goes n b d ↔ (∀ i, i < d.length → 0 ≤ d.getD i 0 ∧ d.getD i 0 < n) ∧ ∀ i, b.length ≤ i + 1 → i + 1 < (b ++ d).length → (b ++ d).getD (i + 1) 0 ≠ (b ++ d).getD i 0
  | [], b => by
    simp only [Goes, true_iff]
    refine ⟨fun i hi => absurd hi (Nat.not_lt_zero _), fun i h1 h2 => ?_⟩
    simp at h2; omega
  | w :: d, b => by
    have e : b ++ [w] ++ d = b ++ w :: d := by simp
    simp only [Goes, goes_iff (d := d) (b := b ++ [w]), e]
    have hg : ((b ++ w :: d).getD b.length 0) = w := by simp [List.getD_eq_getElem?_getD]
    constructor
    · rintro ⟨h1, h2, h3, h4⟩
      refine ⟨fun i hi => ?_, fun i k1 k2 => ?_⟩
      · cases i with
        | zero => simpa using h1
        | succ i => have := h3 i (by simp at hi; omega); simpa using this
      · by_cases hi : i + 1 = b.length
        · rw [hi, hg]
          simp only [goes, Bool.or_eq_true, decide_eq_true_eq, Bool.not_eq_true', decide_eq_false_iff_not] at h2
          rcases h2 with h2 | h2
          · omega
          · have e2 : (b ++ w :: d).getD i 0 = b.getD (b.length - 1) 0 := by
              simp only [List.getD_eq_getElem?_getD]
              rw [List.getElem?_append_left (by omega), show b.length - 1 = i by omega]
            rw [e2]
            intro h; exact h2 (by rw [← h]; omega)
        · exact h4 i (by simp; omega) k2
    · rintro ⟨h1, h2⟩
      have hw : 0 ≤ w ∧ w < n := by have := h1 0 (by simp); simpa using this
      refine ⟨hw, ?_, fun i hi => ?_, fun i k1 k2 => h2 i (by simp at k1; omega) k2⟩
      · simp only [goes, Bool.or_eq_true, decide_eq_true_eq, Bool.not_eq_true', decide_eq_false_iff_not]
        by_cases h0 : b.length = 0
        · exact .inl h0
        · refine .inr fun h => ?_
          have := h2 (b.length - 1) (by omega) (by simp; omega)
          rw [show b.length - 1 + 1 = b.length by omega, hg] at this
          refine this ?_
          have e2 : (b ++ w :: d).getD (b.length - 1) 0 = b.getD (b.length - 1) 0 := by
            simp only [List.getD_eq_getElem?_getD]
            rw [List.getElem?_append_left (by omega)]
          rw [e2, h]; omega
      · have := h1 (i + 1) (by simp; omega); simpa using this
theorem mem_walks {n most : Nat} (h7 : most ≤ 7) {l : List Int} : l ∈ walks n most ↔ Walk n l ∧ l.length ≤ most := by
  unfold walks
  rw [mem_walksFrom]
  constructor
  · rintro ⟨d, rfl, h1, h2⟩
    obtain ⟨h3, h4⟩ := goes_iff.1 h2
    simp only [List.nil_append] at *
    exact ⟨⟨by omega, h3, fun i hi => h4 i (by simp) hi⟩, h1⟩
  · rintro ⟨⟨h1, h2, h3⟩, h4⟩
    exact ⟨l, by simp, h4, goes_iff.2 ⟨h2, fun i _ hi => by simpa using h3 i (by simpa using hi)⟩⟩
/-! ### Which pieces a walk brings -/
theorem bringsN_full {ms : List Move} {walk : List Int} : bringsN ms walk = fullM ms ↔ ∀ m ∈ ms, brought walk m = true := by
  rw [forall_getD (d := (default : Move))]
  unfold bringsN fullM
  constructor
  · intro h i hi
    have := bset_bit (fun i => brought walk (ms.getD i default)) ms.length i
    rw [h, testBit_full] at this
    simpa [hi] using this
  · intro h
    apply Nat.eq_of_testBit_eq
    intro i
    rw [bset_bit, testBit_full]
    by_cases hi : i < ms.length
    · simp only [hi, decide_true, Bool.true_and]; exact h i hi
    · simp [hi]
/-! ### The best walk -/
theorem better_iff {w o : List Int} {e f : Int} : better w e o f = true ↔ w.length < o.length ∨ w.length = o.length ∧ (e < f ∨ e = f ∧ before w o = true) := by
  unfold better
  by_cases h : w.length = o.length
  · rw [if_neg (by simpa using h)]
    simp only [Bool.or_eq_true, Bool.and_eq_true, decide_eq_true_eq]
    constructor
    · intro h2; exact .inr ⟨h, h2⟩
    · rintro (h2 | ⟨_, h2⟩)
      · omega
      · exact h2
  · rw [if_pos (by simpa using h)]
    simp only [decide_eq_true_eq]
    constructor
    · exact .inl
    · rintro (h2 | ⟨h2, _⟩)
      · exact h2
      · exact absurd h2 h
/-- Does a walk serve? -/
def servesB (r : Errand) (ms : List Move) (l : List Int) : Bool := decide (bringsN ms l = fullM ms) && sureB r l
/-- The best of the first k of some walks, the first one of those with its calls and its ending. -/
def bestP (r : Errand) (ms : List Move) (all : List (List Int)) : Nat → Option (List Int)
  | 0 => none
  | k + 1 => if servesB r ms (all.getD k []) = true then
      match bestP r ms all k with
      | none => some (all.getD k [])
      | some b => if (all.getD k []).length < b.length ∨ (all.getD k []).length = b.length ∧ endingE r (all.getD k []) < endingE r b then some (all.getD k []) else some b
    else bestP r ms all k
theorem servesB_iff {r : Errand} {ms : List Move} {l : List Int} : servesB r ms l = true ↔ bringsN ms l = fullM ms ∧ sureB r l = true := by simp [servesB]
theorem bestP_spec {r : Errand} {ms : List Move} {all : List (List Int)} : ∀ {k : Nat} {b : List Int}, bestP r ms all k = some b → ∃ j, j < k ∧ b = all.getD j [] ∧ servesB r ms b = true
  | 0, _, h => by cases h
  | k + 1, b, h => by
    simp only [bestP] at h
    have old : bestP r ms all k = some b → ∃ j, j < k + 1 ∧ b = all.getD j [] ∧ servesB r ms b = true := fun h => let ⟨j, h1, h2⟩ := bestP_spec h; ⟨j, by omega, h2⟩
    split at h
    · rename_i hs
      split at h
      · cases h; exact ⟨k, by omega, rfl, hs⟩
      · rename_i b' hb
        split at h
        · cases h; exact ⟨k, by omega, rfl, hs⟩
        · cases h; exact old hb
    · exact old h
/-- What the best walk is. -/
structure Best (r : Errand) (ms : List Move) (all : List (List Int)) (b : List Int) : Prop where
  mem : b ∈ all
  serves : servesB r ms b = true
  least : ∀ l ∈ all, servesB r ms l = true → better l (endingE r l) b (endingE r b) = false
theorem getD_mem_nil {all : List (List Int)} {j : Nat} (h : j < all.length) : all.getD j [] ∈ all := by
  rw [List.getD_eq_getElem?_getD, List.getElem?_eq_getElem h]; exact List.getElem_mem h
theorem mem_getD_nil {all : List (List Int)} {l : List Int} (h : l ∈ all) : ∃ j, j < all.length ∧ all.getD j [] = l := by
  obtain ⟨j, hj, rfl⟩ := List.mem_iff_getElem.1 h
  exact ⟨j, hj, by simp [List.getD_eq_getElem?_getD, List.getElem?_eq_getElem hj]⟩
theorem Best.unique {r : Errand} {ms : List Move} {all : List (List Int)} {a b : List Int} (ha : Best r ms all a) (hb : Best r ms all b) : a = b := by
  have h1 := ha.least b hb.mem hb.serves
  have h2 := hb.least a ha.mem ha.serves
  refine Classical.byContradiction fun hne => ?_
  have n1 : ¬ better b (endingE r b) a (endingE r a) = true := by rw [h1]; simp
  have n2 : ¬ better a (endingE r a) b (endingE r b) = true := by rw [h2]; simp
  rw [better_iff] at n1 n2
  have hl : a.length = b.length := by omega
  have he : endingE r a = endingE r b := by omega
  rcases before_total hne with h | h
  · exact n2 (.inr ⟨hl, .inr ⟨he, h⟩⟩)
  · exact n1 (.inr ⟨hl.symm, .inr ⟨he.symm, h⟩⟩)
end Go.Proofs.Ytppkhehbkoeinaa

/- Plain law: the fewest calls, and the pieces that must wait. -/
namespace Go.Proofs.Ytppkhehbkoeinaa
open Go Go.Eng Go.RowKit

/-! ### The fewest calls -/
theorem canIn_iff {n most : Nat} {ms : List Move} : canIn n ms most = true ↔ ∃ l ∈ walks n most, bringsN ms l = fullM ms := by
  unfold canIn
  rw [ex_iff]
  constructor
  · rintro ⟨i, hi, h⟩
    exact ⟨_, getD_mem_nil hi, by simpa using h⟩
  · rintro ⟨l, hl, h⟩
    obtain ⟨i, hi, rfl⟩ := mem_getD_nil hl
    exact ⟨i, hi, by simpa using h⟩
/-- Moves between women. -/
structure MovesOk (n : Nat) (ms : List Move) : Prop where
  fro : ∀ m ∈ ms, 0 ≤ m.fro ∧ m.fro < n
  to : ∀ m ∈ ms, 0 ≤ m.to ∧ m.to < n
  ne : ∀ m ∈ ms, m.fro ≠ m.to
  inc : (ms.map (·.piece)).Pairwise (· < ·)
  len : ms.length ≤ 7
/-- The fewest calls, as the program looks for them. -/
def fewestP (n : Nat) (ms : List Move) : Nat := fstNo (fun k => !canIn n ms k) 7
/-! ### The pieces that must wait -/
/-- The least of some lists. -/
structure LeastL (Q : List Int → Prop) (l : List Int) : Prop where
  is : Q l
  no : ∀ x, Q x → shorter x l = false
theorem LeastL.unique {Q : List Int → Prop} {a b : List Int} (ha : LeastL Q a) (hb : LeastL Q b) : a = b := by
  refine Classical.byContradiction fun hne => ?_
  rcases shorter_total hne with h | h
  · rw [hb.no a ha.is] at h; cases h
  · rw [ha.no b hb.is] at h; cases h
end Go.Proofs.Ytppkhehbkoeinaa

/- Plain law: the minutes of calls, compared. -/
namespace Go.Proofs.Ytppkhehbkoeinaa
open Go Go.Eng Go.RowKit

theorem greatestE_get (r : Errand) (i : Nat) : (greatestE r).getD i 0 = (r.streets.getD i default).hi := by
  unfold greatestE
  simp only [List.getD_eq_getElem?_getD, List.getElem?_map]
  cases r.streets[i]? <;> rfl
theorem getD_out {α : Type} {l : List α} {i : Nat} {d : α} (h : l.length ≤ i) : l.getD i d = d := by
  rw [List.getD_eq_getElem?_getD, List.getElem?_eq_none h]; rfl
theorem TruthE.le {r : Errand} {l : List Int} (h : TruthE r l) (i : Nat) : l.getD i 0 ≤ (greatestE r).getD i 0 := by
  rw [greatestE_get]
  rcases Nat.lt_or_ge i r.streets.length with hi | hi
  · exact (h.has i hi).2
  · rw [getD_out hi, getD_out (by rw [h.len]; exact hi)]; exact Int.le_refl _
/-- The moves of a valid errand. -/
theorem movesR_len (r : Errand) : (movesR r).length = (astray r.table (fewest r.table (truths r.table))).length := by simp [movesR, movesOf]
theorem fewest_owns {t : Table} (hV : Valid t) (h : truths t ≠ []) : areOwners t (fewest t (truths t)) = true := by
  rw [← ask_truths hV] at *
  have hpos : 0 < (ask t).length := List.length_pos_iff.2 h
  have := bestTo_lt t hpos _ (Nat.le_refl _)
  unfold fewest
  exact ask_are (by rw [List.getD_eq_getElem?_getD, List.getElem?_eq_getElem this]; exact List.getElem_mem this)
theorem movesR_get {r : Errand} {m : Move} (h : m ∈ movesR r) : ∃ i : Nat, i < (fewest r.table (truths r.table)).length ∧ (r.table.pieces.getD i default).bundle ≠ (fewest r.table (truths r.table)).getD i 0 ∧ m = ⟨i, (r.table.pieces.getD i default).bundle, (fewest r.table (truths r.table)).getD i 0⟩ := by
  unfold movesR movesOf at h
  obtain ⟨x, hx, rfl⟩ := List.mem_map.1 h
  obtain ⟨i, hi, hb, rfl⟩ := mem_sel.1 hx
  exact ⟨i, hi, by simpa using hb, rfl⟩
theorem movesR_ok {r : Errand} (hV : ValidE r) : MovesOk r.n (movesR r) := by
  have hF := areOwners_iff.1 (fewest_owns hV.table hV.some)
  refine ⟨fun m hm => ?_, fun m hm => ?_, fun m hm => ?_, ?_, ?_⟩
  · obtain ⟨i, hi, _, rfl⟩ := movesR_get hm
    have hp := hV.table.piece i (by have := hF.1; omega)
    unfold pieceBad at hp
    simp only [Bool.or_eq_false_iff, Bool.not_eq_false', decide_eq_true_eq] at hp
    have := hp.1.2
    show 0 ≤ (r.table.pieces.getD i default).bundle ∧ (r.table.pieces.getD i default).bundle < (r.table.women.length : Int)
    omega
  · obtain ⟨i, hi, _, rfl⟩ := movesR_get hm
    obtain ⟨w, hw, _, e⟩ := mem_sel.1 (hF.2 i hi)
    show 0 ≤ (fewest r.table (truths r.table)).getD i 0 ∧ (fewest r.table (truths r.table)).getD i 0 < (r.table.women.length : Int)
    omega
  · obtain ⟨i, hi, hne, rfl⟩ := movesR_get hm
    exact hne
  · unfold movesR movesOf
    rw [List.map_map]
    have e : (Move.piece ∘ fun i : Int => (⟨i, (r.table.pieces.getD i.toNat default).bundle, (fewest r.table (truths r.table)).getD i.toNat 0⟩ : Move)) = id := rfl
    rw [e, List.map_id]
    exact sel_pairwise _ _
  · rw [movesR_len]
    have h1 : (astray r.table (fewest r.table (truths r.table))).length ≤ (fewest r.table (truths r.table)).length := sel_len _ _
    have h2 := hF.1
    have h3 := hV.table.pieces
    omega
end Go.Proofs.Ytppkhehbkoeinaa

/- Plain law: with streets of which none is longer than two others the best walk calls at no other women. -/
namespace Go.Proofs.Ytppkhehbkoeinaa
open Go Go.Eng Go.RowKit

section
variable {w : List Int} {a b : Nat}
end
end Go.Proofs.Ytppkhehbkoeinaa
