/- Plain law: errands. -/
import Derived.Test.YtdjkokpbeaapoaaGreatP1
namespace Go.Proofs.YtdjkokpbeaapoaaGreat
open Go Go.Eng Go.RowKit

structure Rg where
  lo : Int
  hi : Int
  deriving DecidableEq
instance : Inhabited Rg := ⟨⟨0, 0⟩⟩
structure Errand where
  table : Table
  home : List Rg
  streets : List Rg
  start : Int
  calls : Int
def Errand.n (r : Errand) : Nat := r.table.women.length
def inside (r : Rg) (most : Int) : Bool := decide (0 ≤ r.lo) && decide (r.lo ≤ r.hi) && decide (r.hi ≤ most)
def faultT (r : Errand) : Int :=
  if fault r.table ≠ 0 then fault r.table
  else if truths r.table = [] then 11
  else if 4 < r.n ∨ 7 < r.calls then 3
  else if r.home.length ≠ r.n ∨ r.streets.length ≠ r.n * (r.n + 1) / 2 ∨ ¬ (0 ≤ r.start ∧ r.start ≤ 1439) ∨ r.calls < 0 then 1
  else if ex r.home.length (fun i => !inside (r.home.getD i default) 1439) = true then 1
  else if ex r.streets.length (fun i => !inside (r.streets.getD i default) 60) = true then 1 else 0
structure ValidE (r : Errand) : Prop where
  table : Valid r.table
  some : truths r.table ≠ []
  women : r.n ≤ 4
  calls : 0 ≤ r.calls ∧ r.calls ≤ 7
  homeLen : r.home.length = r.n
  streetsLen : r.streets.length = r.n * (r.n + 1) / 2
  start : 0 ≤ r.start ∧ r.start ≤ 1439
  home : ∀ i, i < r.home.length → inside (r.home.getD i default) 1439 = true
  street : ∀ i, i < r.streets.length → inside (r.streets.getD i default) 60 = true
theorem faultT_zero {r : Errand} : faultT r = 0 ↔ ValidE r := by
  unfold faultT
  constructor
  · intro h
    split at h
    · rename_i h0; exact absurd h h0
    rename_i h0
    split at h
    · cases h
    rename_i h1
    split at h
    · cases h
    rename_i h2
    split at h
    · cases h
    rename_i h3
    split at h
    · cases h
    rename_i h4
    split at h
    · cases h
    rename_i h5
    refine ⟨fault_zero.1 (by omega), h1, by omega, by omega, by omega, by omega, by omega, fun i hi => ?_, fun i hi => ?_⟩
    · have := ex_no.1 (by simpa using h4) i hi; simpa using this
    · have := ex_no.1 (by simpa using h5) i hi; simpa using this
  · rintro ⟨h1, h2, h3, h4, h5, h6, h7, h8, h9⟩
    rw [if_neg (by rw [fault_zero.2 h1]; simp), if_neg h2, if_neg (by omega), if_neg (by omega), if_neg (by rw [ex_no.2 fun i hi => by rw [h8 i hi]; rfl]; simp), if_neg (by rw [ex_no.2 fun i hi => by rw [h9 i hi]; rfl]; simp)]
theorem inside_iff {r : Rg} {most : Int} : inside r most = true ↔ 0 ≤ r.lo ∧ r.lo ≤ r.hi ∧ r.hi ≤ most := by
  simp [inside, and_assoc]
/-- The moves of an errand. -/
def movesR (r : Errand) : List Move := movesOf r.table (fewest r.table (truths r.table))
/-- The streets that begin before a place. -/
def sumTo (n : Nat) : Nat → Nat
  | 0 => 0
  | k + 1 => sumTo n k + (n - k)
def streetL (n a b : Nat) : Nat := sumTo n a + (b - a - 1)
def streetN (n a b : Nat) : Nat := streetL n (min a b) (max a b)
theorem streetL_lt {n a b : Nat} (hn : n ≤ 4) (h1 : a < b) (h2 : b ≤ n) : streetL n a b < n * (n + 1) / 2 := by
  have h : ∀ n : Fin 5, ∀ a b : Fin 5, a.val < b.val → b.val ≤ n.val → streetL n.val a.val b.val < n.val * (n.val + 1) / 2 := by decide
  exact h ⟨n, by omega⟩ ⟨a, by omega⟩ ⟨b, by omega⟩ h1 h2
theorem streetN_lt {n a b : Nat} (hn : n ≤ 4) (h0 : a ≠ b) (h1 : a ≤ n) (h2 : b ≤ n) : streetN n a b < n * (n + 1) / 2 :=
  streetL_lt hn (by omega) (by omega)
theorem streets_le {n : Nat} (hn : n ≤ 4) : n * (n + 1) / 2 ≤ 10 := by
  have h : ∀ n : Fin 5, n.val * (n.val + 1) / 2 ≤ 10 := by decide
  exact h ⟨n, by omega⟩
/-- Is a list a walk? -/
def walkBad (n : Nat) (l : List Int) (i : Nat) : Bool := !decide (0 ≤ l.getD i 0 ∧ l.getD i 0 ≤ (n : Int) - 1) || (decide (0 < i) && decide (l.getD i 0 = l.getD (i - 1) 0))
def isWalk (n : Nat) (l : List Int) : Bool := !ex l.length (walkBad n l) && decide (l.length ≤ 7)
structure Walk (n : Nat) (l : List Int) : Prop where
  len : l.length ≤ 7
  lt : ∀ i, i < l.length → 0 ≤ l.getD i 0 ∧ l.getD i 0 < n
  ne : ∀ i, i + 1 < l.length → l.getD (i + 1) 0 ≠ l.getD i 0
theorem isWalk_iff {n : Nat} {l : List Int} : isWalk n l = true ↔ Walk n l := by
  unfold isWalk
  simp only [Bool.and_eq_true, Bool.not_eq_true', decide_eq_true_eq, ex_no]
  constructor
  · rintro ⟨h1, h2⟩
    refine ⟨h2, fun i hi => ?_, fun i hi => ?_⟩
    · have := h1 i hi
      simp only [walkBad, Bool.or_eq_false_iff, Bool.not_eq_false', decide_eq_true_eq] at this
      omega
    · have := h1 (i + 1) hi
      simp only [walkBad, Bool.or_eq_false_iff, Bool.not_eq_false', decide_eq_true_eq, Bool.and_eq_false_iff, decide_eq_false_iff_not] at this
      rcases this.2 with h | h
      · omega
      · exact h
  · rintro ⟨h1, h2, h3⟩
    refine ⟨fun i hi => ?_, h1⟩
    have h4 := h2 i hi
    simp only [walkBad, Bool.or_eq_false_iff, Bool.not_eq_false', decide_eq_true_eq, Bool.and_eq_false_iff, decide_eq_false_iff_not]
    refine ⟨by omega, ?_⟩
    cases i with
    | zero => exact .inl (by omega)
    | succ i => exact .inr (h3 i hi)
/-- Is a list a truth? -/
def isTruthE (r : Errand) (l : List Int) : Bool := decide (l.length = r.streets.length) && !ex r.streets.length (fun i => !decide ((r.streets.getD i default).lo ≤ l.getD i 0 ∧ l.getD i 0 ≤ (r.streets.getD i default).hi))
structure TruthE (r : Errand) (l : List Int) : Prop where
  len : l.length = r.streets.length
  has : ∀ i, i < r.streets.length → (r.streets.getD i default).lo ≤ l.getD i 0 ∧ l.getD i 0 ≤ (r.streets.getD i default).hi
theorem isTruthE_iff {r : Errand} {l : List Int} : isTruthE r l = true ↔ TruthE r l := by
  unfold isTruthE
  simp only [Bool.and_eq_true, Bool.not_eq_true', decide_eq_true_eq, ex_no]
  constructor
  · rintro ⟨h1, h2⟩; exact ⟨h1, fun i hi => by have := h2 i hi; simpa using this⟩
  · rintro ⟨h1, h2⟩; exact ⟨h1, fun i hi => by have := h2 i hi; simpa using this⟩
/-- Where one is before a call. -/
def placeAt (n : Nat) (walk : List Int) : Nat → Int
  | 0 => n
  | k + 1 => walk.getD k 0
/-- The minute after some calls. -/
def minuteAt (r : Errand) (truth walk : List Int) : Nat → Int
  | 0 => r.start
  | k + 1 => max (r.home.getD (walk.getD k 0).toNat default).lo (minuteAt r truth walk k + truth.getD (streetN r.n (placeAt r.n walk k).toNat (walk.getD k 0).toNat) 0)
def minutes (r : Errand) (truth walk : List Int) : List Int := (List.range walk.length).map fun k => minuteAt r truth walk (k + 1)
def minutesTo (r : Errand) (truth walk : List Int) (k : Nat) : List Int := (List.range k).map fun k => minuteAt r truth walk (k + 1)
theorem minutesTo_succ (r : Errand) (truth walk : List Int) (k : Nat) : minutesTo r truth walk (k + 1) = minutesTo r truth walk k ++ [minuteAt r truth walk (k + 1)] := by simp [minutesTo, List.range_succ]
theorem minutesTo_len (r : Errand) (truth walk : List Int) (k : Nat) : (minutesTo r truth walk k).length = k := by simp [minutesTo]
theorem minutes_len (r : Errand) (truth walk : List Int) : (minutes r truth walk).length = walk.length := by simp [minutes]
theorem minutes_get {r : Errand} {truth walk : List Int} {k : Nat} (h : k < walk.length) : (minutes r truth walk).getD k 0 = minuteAt r truth walk (k + 1) := by
  simp [minutes, List.getD_eq_getElem?_getD, h]
def leastE (r : Errand) : List Int := r.streets.map (·.lo)
def greatestE (r : Errand) : List Int := r.streets.map (·.hi)
/-- A place and the next one on a walk. -/
theorem Walk.step {n : Nat} {walk : List Int} (h : Walk n walk) {k : Nat} (hk : k < walk.length) : 0 ≤ placeAt n walk k ∧ placeAt n walk k ≤ n ∧ 0 ≤ walk.getD k 0 ∧ walk.getD k 0 < n ∧ placeAt n walk k ≠ walk.getD k 0 := by
  have h1 := h.lt k hk
  cases k with
  | zero => exact ⟨by show (0 : Int) ≤ n; omega, by show (n : Int) ≤ n; omega, h1.1, h1.2, by show (n : Int) ≠ _; omega⟩
  | succ k =>
    have h2 := h.lt k (by omega)
    exact ⟨h2.1, by show walk.getD k 0 ≤ n; omega, h1.1, h1.2, fun e => h.ne k hk e.symm⟩
theorem Walk.street {r : Errand} {walk : List Int} (hn : r.n ≤ 4) (h : Walk r.n walk) {k : Nat} (hk : k < walk.length) : streetN r.n (placeAt r.n walk k).toNat (walk.getD k 0).toNat < r.n * (r.n + 1) / 2 := by
  obtain ⟨h1, h2, h3, h4, h5⟩ := h.step hk
  exact streetN_lt hn (by omega) (by omega) (by omega)
theorem TruthE.small {r : Errand} (hV : ValidE r) {l : List Int} (h : TruthE r l) {i : Nat} (hi : i < r.streets.length) : 0 ≤ l.getD i 0 ∧ l.getD i 0 ≤ 60 := by
  have h1 := h.has i hi
  have h2 := inside_iff.1 (hV.street i hi)
  omega
theorem minuteAt_bound {r : Errand} (hV : ValidE r) {truth walk : List Int} (ht : TruthE r truth) (hw : Walk r.n walk) : ∀ k, k ≤ walk.length → 0 ≤ minuteAt r truth walk k ∧ minuteAt r truth walk k ≤ 1439 + 60 * k
  | 0, _ => by have := hV.start; simp only [minuteAt]; omega
  | k + 1, hk => by
    have ih := minuteAt_bound hV ht hw k (by omega)
    have h1 := hw.street hV.women (show k < walk.length by omega)
    have h2 := ht.small hV (i := streetN r.n (placeAt r.n walk k).toNat (walk.getD k 0).toNat) (by rw [hV.streetsLen]; exact h1)
    have h3 := hw.step (show k < walk.length by omega)
    have h4 := inside_iff.1 (hV.home (walk.getD k 0).toNat (by rw [hV.homeLen]; omega))
    simp only [minuteAt]
    omega
theorem least_truth {r : Errand} (hV : ValidE r) : TruthE r (leastE r) := ⟨by simp [leastE], fun i hi => by
  have h := inside_iff.1 (hV.street i hi)
  have e : (leastE r).getD i 0 = (r.streets.getD i default).lo := by simp [leastE, List.getD_eq_getElem?_getD, List.getElem?_eq_getElem hi]
  rw [e]; omega⟩
theorem greatest_truth {r : Errand} (hV : ValidE r) : TruthE r (greatestE r) := ⟨by simp [greatestE], fun i hi => by
  have h := inside_iff.1 (hV.street i hi)
  have e : (greatestE r).getD i 0 = (r.streets.getD i default).hi := by simp [greatestE, List.getD_eq_getElem?_getD, List.getElem?_eq_getElem hi]
  rw [e]; omega⟩
/-- Does a call come in time, at the latest? -/
def inTime (r : Errand) (walk : List Int) (i : Nat) : Bool := decide (minuteAt r (greatestE r) walk (i + 1) ≤ (r.home.getD (walk.getD i 0).toNat default).hi)
def lateN (r : Errand) (walk : List Int) : Nat := fstNo (inTime r walk) walk.length
def sureB (r : Errand) (walk : List Int) : Bool := decide ((walk.length : Int) ≤ r.calls) && decide (lateN r walk = walk.length)
def endingE (r : Errand) (walk : List Int) : Int := minuteAt r (greatestE r) walk walk.length
/-- Does a walk bring a piece back? -/
def brought (walk : List Int) (m : Move) : Bool := ex walk.length fun i => ex i fun k => decide (walk.getD k 0 = m.fro) && decide (walk.getD i 0 = m.to)
def bringsN (ms : List Move) (walk : List Int) : Nat := bset ms.length fun i => brought walk (ms.getD i default)
/-- The pieces of some moves. -/
def piecesTo (ms : List Move) (p : Nat → Bool) (k : Nat) : List Int := ((List.range k).filter p).map fun i => (ms.getD i default).piece
def piecesB (ms : List Move) (p : Nat → Bool) : List Int := piecesTo ms p ms.length
def pieces (ms : List Move) (b : Nat) : List Int := piecesB ms (fun i => b.testBit i)
theorem piecesTo_yes {ms : List Move} {p : Nat → Bool} {k : Nat} (h : p k = true) : piecesTo ms p (k + 1) = piecesTo ms p k ++ [(ms.getD k default).piece] := by simp [piecesTo, List.range_succ, h]
theorem piecesTo_no {ms : List Move} {p : Nat → Bool} {k : Nat} (h : p k = false) : piecesTo ms p (k + 1) = piecesTo ms p k := by simp [piecesTo, List.range_succ, h]
theorem piecesTo_len (ms : List Move) (p : Nat → Bool) (k : Nat) : (piecesTo ms p k).length ≤ k := by
  simp only [piecesTo, List.length_map]
  exact Nat.le_trans (List.length_filter_le _ _) (by simp)
def fullM (ms : List Move) : Nat := 2 ^ ms.length - 1
/-- May a walk that begins so go on to a woman? -/
def goes (b : List Int) (w : Nat) : Bool := decide (b.length = 0) || !decide (b.getD (b.length - 1) 0 = w)
/-- All walks that begin so, of at most so many calls more. -/
def walksFrom (n : Nat) : Nat → List Int → List (List Int)
  | 0, b => [b]
  | f + 1, b => b :: (List.range n).flatMap fun w => if goes b w then walksFrom n f (b ++ [(w : Int)]) else []
/-- The walks, up to one woman. -/
def walksUpto (n f : Nat) (b : List Int) (k : Nat) : List (List Int) := b :: (List.range k).flatMap fun w => if goes b w then walksFrom n f (b ++ [(w : Int)]) else []
theorem walksUpto_succ (n f : Nat) (b : List Int) (k : Nat) : walksUpto n f b (k + 1) = walksUpto n f b k ++ if goes b k then walksFrom n f (b ++ [(k : Int)]) else [] := by
  simp [walksUpto, List.range_succ, List.flatMap_append]
theorem walksUpto_all (n f : Nat) (b : List Int) : walksUpto n f b n = walksFrom n (f + 1) b := rfl
def walks (n most : Nat) : List (List Int) := walksFrom n most []
def better (walk : List Int) (ending : Int) (other : List Int) (otherEnding : Int) : Bool :=
  if walk.length ≠ other.length then decide (walk.length < other.length) else decide (ending < otherEnding) || (decide (ending = otherEnding) && before walk other)
/-- The best of the first k of some walks. -/
def bestW (r : Errand) (ms : List Move) (all : List (List Int)) : Nat → Option (List Int)
  | 0 => none
  | k + 1 => if bringsN ms (all.getD k []) = fullM ms ∧ sureB r (all.getD k []) = true then
      match bestW r ms all k with
      | none => some (all.getD k [])
      | some b => if better (all.getD k []) (endingE r (all.getD k [])) b (endingE r b) = true then some (all.getD k []) else some b
    else bestW r ms all k
def bestE (r : Errand) : Option (List Int) := bestW r (movesR r) (walks r.n r.calls.toNat) (walks r.n r.calls.toNat).length
/-- Does some walk of at most so many calls bring all back? -/
def canIn (n : Nat) (ms : List Move) (most : Nat) : Bool := ex (walks n most).length fun i => decide (bringsN ms ((walks n most).getD i []) = fullM ms)
def fewestC (n : Nat) (ms : List Move) : Nat := fstNo (fun k => !canIn n ms k) 8
/-- What all sure walks bring. -/
def broughtTo (r : Errand) (ms : List Move) (all : List (List Int)) : Nat → List Nat
  | 0 => []
  | k + 1 => if sureB r (all.getD k []) = true then broughtTo r ms all k ++ [bringsN ms (all.getD k [])] else broughtTo r ms all k
def coverB (ms : List Move) (br : List Nat) (k : Nat) : Bool := ex br.length fun i => decide (br.getD i 0 ||| k = fullM ms)
def waitTo (ms : List Move) (br : List Nat) : Nat → List Int
  | 0 => pieces ms (fullM ms)
  | k + 1 => if coverB ms br k = true ∧ shorter (pieces ms k) (waitTo ms br k) = true then pieces ms k else waitTo ms br k
def waitR (r : Errand) : List Int := waitTo (movesR r) (broughtTo r (movesR r) (walks r.n r.calls.toNat) (walks r.n r.calls.toNat).length) (fullM (movesR r) + 1)
end Go.Proofs.YtdjkokpbeaapoaaGreat

/- Plain law: walks in lexicographic order; the best one; the fewest calls; the pieces that must wait. -/
namespace Go.Proofs.YtdjkokpbeaapoaaGreat
open Go Go.Eng Go.RowKit

/-- A list goes on from a beginning. -/
def Goes (n : Nat) : List Int → List Int → Prop
  | _, [] => True
  | b, w :: d => (0 ≤ w ∧ w < n) ∧ goes b w.toNat = true ∧ Goes n (b ++ [w]) d
theorem mem_walksFrom {n : Nat} : ∀ {f : Nat} {b l : List Int}, l ∈ walksFrom n f b ↔ ∃ d, l = b ++ d ∧ d.length ≤ f ∧ Goes n b d
  | 0, b, l => by
    simp only [walksFrom, List.mem_singleton]
    constructor
    · rintro rfl; exact ⟨[], by simp, by simp, trivial⟩
    · rintro ⟨d, rfl, h, _⟩
      have : d = [] := List.length_eq_zero_iff.1 (by omega)
      simp [this]
  | f + 1, b, l => by
    simp only [walksFrom, List.mem_cons, List.mem_flatMap, List.mem_range]
    constructor
    · rintro (rfl | ⟨w, hw, hl⟩)
      · exact ⟨[], by simp, by simp, trivial⟩
      · split at hl
        · rename_i hg
          obtain ⟨d, rfl, h1, h2⟩ := mem_walksFrom.1 hl
          exact ⟨(w : Int) :: d, by simp, by simp; omega, ⟨by omega, by omega⟩, by simpa using hg, h2⟩
        · cases hl
    · rintro ⟨d, rfl, h1, h2⟩
      cases d with
      | nil => left; simp
      | cons w d =>
        obtain ⟨⟨h3, h4⟩, h5, h6⟩ := h2
        right
        refine ⟨w.toNat, by omega, ?_⟩
        rw [if_pos h5]
        have e : (w.toNat : Int) = w := by omega
        rw [e]
        exact mem_walksFrom.2 ⟨d, by simp, by simp at h1; omega, h6⟩
theorem goes_iff {n : Nat} : ∀ {d b : List Int}, Goes n b d ↔ (∀ i, i < d.length → 0 ≤ d.getD i 0 ∧ d.getD i 0 < n) ∧ ∀ i, b.length ≤ i + 1 → i + 1 < (b ++ d).length → (b ++ d).getD (i + 1) 0 ≠ (b ++ d).getD i 0
  | [], b => by
    simp only [Goes, true_iff]
    refine ⟨fun i hi => absurd hi (Nat.not_lt_zero _), fun i h1 h2 => ?_⟩
    simp at h2; omega
  | w :: d, b => by
    have e : b ++ [w] ++ d = b ++ w :: d := by simp
    simp only [Goes, goes_iff (d := d) (b := b ++ [w]), e]
    have hg : ((b ++ w :: d).getD b.length 0) = w := by simp [List.getD_eq_getElem?_getD]
    constructor
    · rintro ⟨h1, h2, h3, h4⟩
      refine ⟨fun i hi => ?_, fun i k1 k2 => ?_⟩
      · cases i with
        | zero => simpa using h1
        | succ i => have := h3 i (by simp at hi; omega); simpa using this
      · by_cases hi : i + 1 = b.length
        · rw [hi, hg]
          simp only [goes, Bool.or_eq_true, decide_eq_true_eq, Bool.not_eq_true', decide_eq_false_iff_not] at h2
          rcases h2 with h2 | h2
          · omega
          · have e2 : (b ++ w :: d).getD i 0 = b.getD (b.length - 1) 0 := by
              simp only [List.getD_eq_getElem?_getD]
              rw [List.getElem?_append_left (by omega), show b.length - 1 = i by omega]
            rw [e2]
            intro h; exact h2 (by rw [← h]; omega)
        · exact h4 i (by simp; omega) k2
    · rintro ⟨h1, h2⟩
      have hw : 0 ≤ w ∧ w < n := by have := h1 0 (by simp); simpa using this
      refine ⟨hw, ?_, fun i hi => ?_, fun i k1 k2 => h2 i (by simp at k1; omega) k2⟩
      · simp only [goes, Bool.or_eq_true, decide_eq_true_eq, Bool.not_eq_true', decide_eq_false_iff_not]
        by_cases h0 : b.length = 0
        · exact .inl h0
        · refine .inr fun h => ?_
          have := h2 (b.length - 1) (by omega) (by simp; omega)
          rw [show b.length - 1 + 1 = b.length by omega, hg] at this
          refine this ?_
          have e2 : (b ++ w :: d).getD (b.length - 1) 0 = b.getD (b.length - 1) 0 := by
            simp only [List.getD_eq_getElem?_getD]
            rw [List.getElem?_append_left (by omega)]
          rw [e2, h]; omega
      · have := h1 (i + 1) (by simp; omega); simpa using this
theorem mem_walks {n most : Nat} (h7 : most ≤ 7) {l : List Int} : l ∈ walks n most ↔ Walk n l ∧ l.length ≤ most := by
  unfold walks
  rw [mem_walksFrom]
  constructor
  · rintro ⟨d, rfl, h1, h2⟩
    obtain ⟨h3, h4⟩ := goes_iff.1 h2
    simp only [List.nil_append] at *
    exact ⟨⟨by omega, h3, fun i hi => h4 i (by simp) hi⟩, h1⟩
  · rintro ⟨⟨h1, h2, h3⟩, h4⟩
    exact ⟨l, by simp, h4, goes_iff.2 ⟨h2, fun i _ hi => by simpa using h3 i (by simpa using hi)⟩⟩
theorem before_append (b : List Int) : ∀ {x y : List Int}, before (b ++ x) (b ++ y) = before x y := by
  induction b with
  | nil => intros; rfl
  | cons w b ih => intro x y; simp [before, ih]
theorem walksFrom_pairwise (n : Nat) : ∀ f b, (walksFrom n f b).Pairwise (fun x y => before x y = true)
  | 0, b => by simp [walksFrom]
  | f + 1, b => by
    simp only [walksFrom]
    refine List.pairwise_cons.2 ⟨fun y hy => ?_, ?_⟩
    · obtain ⟨w, hw, hl⟩ := List.mem_flatMap.1 hy
      split at hl
      · obtain ⟨d, rfl, _, _⟩ := mem_walksFrom.1 hl
        have := before_append b (x := []) (y := (w : Int) :: d)
        rw [List.append_nil] at this
        rw [List.append_assoc]
        exact this.trans (by simp [before])
      · cases hl
    · rw [List.pairwise_flatMap]
      refine ⟨fun w _ => ?_, ?_⟩
      · split
        · exact walksFrom_pairwise n f _
        · exact List.Pairwise.nil
      · refine List.pairwise_lt_range.imp (fun {a c} hac => ?_)
        intro x hx y hy
        split at hx
        · split at hy
          · obtain ⟨d, rfl, _, _⟩ := mem_walksFrom.1 hx
            obtain ⟨d', rfl, _, _⟩ := mem_walksFrom.1 hy
            rw [List.append_assoc, List.append_assoc, before_append]
            have : (a : Int) ≠ c := by omega
            simp [before, this]; omega
          · cases hy
        · cases hx
theorem walks_pairwise (n most : Nat) : (walks n most).Pairwise (fun x y => before x y = true) := walksFrom_pairwise n most []
theorem before_asymm {a b : List Int} (h : before a b = true) : before b a = false := by
  cases hb : before b a with
  | false => rfl
  | true => have := before_trans h hb; rw [before_irrefl] at this; cases this

/-! ### Which pieces a walk brings -/
theorem getD_mem' {α : Type} [Inhabited α] {l : List α} {i : Nat} (h : i < l.length) : l.getD i default ∈ l := by
  rw [List.getD_eq_getElem?_getD, List.getElem?_eq_getElem h]; exact List.getElem_mem h
theorem bringsN_full {ms : List Move} {walk : List Int} : bringsN ms walk = fullM ms ↔ ∀ m ∈ ms, brought walk m = true := by
  rw [forall_getD (d := (default : Move))]
  unfold bringsN fullM
  constructor
  · intro h i hi
    have := bset_bit (fun i => brought walk (ms.getD i default)) ms.length i
    rw [h, testBit_full] at this
    simpa [hi] using this
  · intro h
    apply Nat.eq_of_testBit_eq
    intro i
    rw [bset_bit, testBit_full]
    by_cases hi : i < ms.length
    · simp only [hi, decide_true, Bool.true_and]; exact h i hi
    · simp [hi]
theorem brought_iff {walk : List Int} {m : Move} : brought walk m = true ↔ ∃ k i, k < i ∧ i < walk.length ∧ walk.getD k 0 = m.fro ∧ walk.getD i 0 = m.to := by
  unfold brought
  rw [ex_iff]
  constructor
  · rintro ⟨i, hi, h⟩
    obtain ⟨k, hk, h2⟩ := ex_iff.1 h
    simp only [Bool.and_eq_true, decide_eq_true_eq] at h2
    exact ⟨k, i, hk, hi, h2⟩
  · rintro ⟨k, i, h1, h2, h3, h4⟩
    exact ⟨i, h2, ex_iff.2 ⟨k, h1, by simp only [Bool.and_eq_true, decide_eq_true_eq]; exact ⟨h3, h4⟩⟩⟩

/-! ### The best walk -/
theorem better_iff {w o : List Int} {e f : Int} : better w e o f = true ↔ w.length < o.length ∨ w.length = o.length ∧ (e < f ∨ e = f ∧ before w o = true) := by
  unfold better
  by_cases h : w.length = o.length
  · rw [if_neg (by simpa using h)]
    simp only [Bool.or_eq_true, Bool.and_eq_true, decide_eq_true_eq]
    constructor
    · intro h2; exact .inr ⟨h, h2⟩
    · rintro (h2 | ⟨_, h2⟩)
      · omega
      · exact h2
  · rw [if_pos (by simpa using h)]
    simp only [decide_eq_true_eq]
    constructor
    · exact .inl
    · rintro (h2 | ⟨h2, _⟩)
      · exact h2
      · exact absurd h2 h
theorem better_irrefl (w : List Int) (e : Int) : better w e w e = false := by
  cases h : better w e w e with
  | false => rfl
  | true =>
    rcases better_iff.1 h with h | ⟨_, h | ⟨_, h⟩⟩
    · omega
    · omega
    · rw [before_irrefl] at h; cases h
theorem better_trans {a b c : List Int} {e f g : Int} (h1 : better a e b f = true) (h2 : better b f c g = true) : better a e c g = true := by
  rw [better_iff] at *
  rcases h1 with h1 | ⟨h1, h1'⟩ <;> rcases h2 with h2 | ⟨h2, h2'⟩
  · exact .inl (by omega)
  · exact .inl (by omega)
  · exact .inl (by omega)
  · refine .inr ⟨by omega, ?_⟩
    rcases h1' with h1' | ⟨h1', h3⟩ <;> rcases h2' with h2' | ⟨h2', h4⟩
    · exact .inl (by omega)
    · exact .inl (by omega)
    · exact .inl (by omega)
    · exact .inr ⟨by omega, before_trans h3 h4⟩
/-- Does a walk serve? -/
def servesB (r : Errand) (ms : List Move) (l : List Int) : Bool := decide (bringsN ms l = fullM ms) && sureB r l
/-- The best of the first k of some walks, the first one of those with its calls and its ending. -/
def bestP (r : Errand) (ms : List Move) (all : List (List Int)) : Nat → Option (List Int)
  | 0 => none
  | k + 1 => if servesB r ms (all.getD k []) = true then
      match bestP r ms all k with
      | none => some (all.getD k [])
      | some b => if (all.getD k []).length < b.length ∨ (all.getD k []).length = b.length ∧ endingE r (all.getD k []) < endingE r b then some (all.getD k []) else some b
    else bestP r ms all k
theorem servesB_iff {r : Errand} {ms : List Move} {l : List Int} : servesB r ms l = true ↔ bringsN ms l = fullM ms ∧ sureB r l = true := by simp [servesB]
theorem bestP_spec {r : Errand} {ms : List Move} {all : List (List Int)} : ∀ {k : Nat} {b : List Int}, bestP r ms all k = some b → ∃ j, j < k ∧ b = all.getD j [] ∧ servesB r ms b = true
  | 0, _, h => by cases h
  | k + 1, b, h => by
    simp only [bestP] at h
    have old : bestP r ms all k = some b → ∃ j, j < k + 1 ∧ b = all.getD j [] ∧ servesB r ms b = true := fun h => let ⟨j, h1, h2⟩ := bestP_spec h; ⟨j, by omega, h2⟩
    split at h
    · rename_i hs
      split at h
      · cases h; exact ⟨k, by omega, rfl, hs⟩
      · rename_i b' hb
        split at h
        · cases h; exact ⟨k, by omega, rfl, hs⟩
        · cases h; exact old hb
    · exact old h
theorem bestP_eq {r : Errand} {ms : List Move} {all : List (List Int)} (hp : all.Pairwise fun x y => before x y = true) : ∀ {k : Nat}, k ≤ all.length → bestP r ms all k = bestW r ms all k
  | 0, _ => rfl
  | k + 1, hk => by
    have ih := bestP_eq (r := r) (ms := ms) hp (k := k) (by omega)
    simp only [bestP, bestW, ← ih]
    by_cases hs : servesB r ms (all.getD k []) = true
    · rw [if_pos hs, if_pos (servesB_iff.1 hs)]
      cases hb : bestP r ms all k with
      | none => rfl
      | some b =>
        simp only
        obtain ⟨j, hj, rfl, _⟩ := bestP_spec hb
        have hlt := List.pairwise_iff_getElem.1 hp j k (by omega) (by omega) hj
        have e1 : all.getD j [] = all[j]'(by omega) := by simp [List.getD_eq_getElem?_getD, List.getElem?_eq_getElem (show j < all.length by omega)]
        have e2 : all.getD k [] = all[k]'(by omega) := by simp [List.getD_eq_getElem?_getD, List.getElem?_eq_getElem (show k < all.length by omega)]
        rw [← e1, ← e2] at hlt
        have hno := before_asymm hlt
        generalize all.getD k [] = l at *
        generalize all.getD j [] = b at *
        have : (l.length < b.length ∨ l.length = b.length ∧ endingE r l < endingE r b) ↔ better l (endingE r l) b (endingE r b) = true := by
          rw [better_iff, hno]; simp
        by_cases h : better l (endingE r l) b (endingE r b) = true
        · rw [if_pos (this.2 h), if_pos h]
        · rw [if_neg (fun h' => h (this.1 h')), if_neg h]
    · rw [if_neg hs, if_neg (fun h => hs (servesB_iff.2 h))]
/-- What the best walk is. -/
structure Best (r : Errand) (ms : List Move) (all : List (List Int)) (b : List Int) : Prop where
  mem : b ∈ all
  serves : servesB r ms b = true
  least : ∀ l ∈ all, servesB r ms l = true → better l (endingE r l) b (endingE r b) = false
theorem bestW_spec {r : Errand} {ms : List Move} {all : List (List Int)} : ∀ {k : Nat}, k ≤ all.length →
    match bestW r ms all k with
    | none => ∀ j, j < k → servesB r ms (all.getD j []) = false
    | some b => (∃ j, j < k ∧ b = all.getD j []) ∧ servesB r ms b = true ∧ ∀ j, j < k → servesB r ms (all.getD j []) = true → better (all.getD j []) (endingE r (all.getD j [])) b (endingE r b) = false
  | 0, _ => by simp [bestW]
  | k + 1, hk => by
    have ih := bestW_spec (r := r) (ms := ms) (all := all) (k := k) (by omega)
    simp only [bestW]
    by_cases hs : bringsN ms (all.getD k []) = fullM ms ∧ sureB r (all.getD k []) = true
    · rw [if_pos hs]
      have hs' := servesB_iff.2 hs
      cases hb : bestW r ms all k with
      | none =>
        rw [hb] at ih
        simp only at ih ⊢
        refine ⟨⟨k, by omega, rfl⟩, hs', fun j hj hsj => ?_⟩
        rcases Nat.lt_succ_iff_lt_or_eq.1 hj with h | rfl
        · rw [ih j h] at hsj; cases hsj
        · exact better_irrefl _ _
      | some b =>
        rw [hb] at ih
        simp only at ih ⊢
        obtain ⟨⟨j0, hj0, hb0⟩, h2, h3⟩ := ih
        by_cases hbt : better (all.getD k []) (endingE r (all.getD k [])) b (endingE r b) = true
        · rw [if_pos hbt]
          simp only
          refine ⟨⟨k, by omega, rfl⟩, hs', fun j hj hsj => ?_⟩
          rcases Nat.lt_succ_iff_lt_or_eq.1 hj with h | rfl
          · cases hc : better (all.getD j []) (endingE r (all.getD j [])) (all.getD k []) (endingE r (all.getD k [])) with
            | false => rfl
            | true => have := better_trans hc hbt; rw [h3 j h hsj] at this; cases this
          · exact better_irrefl _ _
        · rw [if_neg hbt]
          simp only
          refine ⟨⟨j0, by omega, hb0⟩, h2, fun j hj hsj => ?_⟩
          rcases Nat.lt_succ_iff_lt_or_eq.1 hj with h | rfl
          · exact h3 j h hsj
          · simpa using hbt
    · rw [if_neg hs]
      have hs' : servesB r ms (all.getD k []) = false := by
        cases h : servesB r ms (all.getD k []) with
        | false => rfl
        | true => exact absurd (servesB_iff.1 h) hs
      cases hb : bestW r ms all k with
      | none =>
        rw [hb] at ih
        simp only at ih ⊢
        intro j hj
        rcases Nat.lt_succ_iff_lt_or_eq.1 hj with h | rfl
        · exact ih j h
        · exact hs'
      | some b =>
        rw [hb] at ih
        simp only at ih ⊢
        obtain ⟨⟨j0, hj0, hb0⟩, h2, h3⟩ := ih
        refine ⟨⟨j0, by omega, hb0⟩, h2, fun j hj hsj => ?_⟩
        rcases Nat.lt_succ_iff_lt_or_eq.1 hj with h | rfl
        · exact h3 j h hsj
        · rw [hs'] at hsj; cases hsj
theorem getD_mem_nil {all : List (List Int)} {j : Nat} (h : j < all.length) : all.getD j [] ∈ all := by
  rw [List.getD_eq_getElem?_getD, List.getElem?_eq_getElem h]; exact List.getElem_mem h
theorem mem_getD_nil {all : List (List Int)} {l : List Int} (h : l ∈ all) : ∃ j, j < all.length ∧ all.getD j [] = l := by
  obtain ⟨j, hj, rfl⟩ := List.mem_iff_getElem.1 h
  exact ⟨j, hj, by simp [List.getD_eq_getElem?_getD, List.getElem?_eq_getElem hj]⟩
theorem bestW_some {r : Errand} {ms : List Move} {all : List (List Int)} {b : List Int} (h : bestW r ms all all.length = some b) : Best r ms all b := by
  have := bestW_spec (r := r) (ms := ms) (all := all) (Nat.le_refl _)
  rw [h] at this
  obtain ⟨⟨j, hj, rfl⟩, h2, h3⟩ := this
  refine ⟨getD_mem_nil hj, h2, fun l hl hs => ?_⟩
  obtain ⟨i, hi, rfl⟩ := mem_getD_nil hl
  exact h3 i hi hs
theorem bestW_none {r : Errand} {ms : List Move} {all : List (List Int)} (h : bestW r ms all all.length = none) : ∀ l ∈ all, servesB r ms l = false := by
  have := bestW_spec (r := r) (ms := ms) (all := all) (Nat.le_refl _)
  rw [h] at this
  intro l hl
  obtain ⟨i, hi, rfl⟩ := mem_getD_nil hl
  exact this i hi
theorem Best.unique {r : Errand} {ms : List Move} {all : List (List Int)} {a b : List Int} (ha : Best r ms all a) (hb : Best r ms all b) : a = b := by
  have h1 := ha.least b hb.mem hb.serves
  have h2 := hb.least a ha.mem ha.serves
  refine Classical.byContradiction fun hne => ?_
  have n1 : ¬ better b (endingE r b) a (endingE r a) = true := by rw [h1]; simp
  have n2 : ¬ better a (endingE r a) b (endingE r b) = true := by rw [h2]; simp
  rw [better_iff] at n1 n2
  have hl : a.length = b.length := by omega
  have he : endingE r a = endingE r b := by omega
  rcases before_total hne with h | h
  · exact n2 (.inr ⟨hl, .inr ⟨he, h⟩⟩)
  · exact n1 (.inr ⟨hl.symm, .inr ⟨he.symm, h⟩⟩)
end Go.Proofs.YtdjkokpbeaapoaaGreat

/- Plain law: the fewest calls, and the pieces that must wait. -/
namespace Go.Proofs.YtdjkokpbeaapoaaGreat
open Go Go.Eng Go.RowKit

/-! ### The fewest calls -/
theorem canIn_iff {n most : Nat} {ms : List Move} : canIn n ms most = true ↔ ∃ l ∈ walks n most, bringsN ms l = fullM ms := by
  unfold canIn
  rw [ex_iff]
  constructor
  · rintro ⟨i, hi, h⟩
    exact ⟨_, getD_mem_nil hi, by simpa using h⟩
  · rintro ⟨l, hl, h⟩
    obtain ⟨i, hi, rfl⟩ := mem_getD_nil hl
    exact ⟨i, hi, by simpa using h⟩
theorem fstNo_props {p : Nat → Bool} : ∀ n, (∀ i, i < fstNo p n → p i = true) ∧ (fstNo p n < n → p (fstNo p n) = false)
  | 0 => ⟨fun i hi => absurd hi (Nat.not_lt_zero _), fun h => absurd h (Nat.not_lt_zero _)⟩
  | n + 1 => by
    have ih := fstNo_props (p := p) n
    have hle := fstNo_le p n
    simp only [fstNo]
    by_cases h : fstNo p n < n
    · rw [if_pos h]
      exact ⟨ih.1, fun _ => ih.2 h⟩
    · rw [if_neg h]
      have e : fstNo p n = n := by omega
      rw [e] at ih
      by_cases hp : p n = true
      · rw [if_pos hp]
        refine ⟨fun i hi => ?_, fun h => absurd h (by omega)⟩
        rcases Nat.lt_succ_iff_lt_or_eq.1 hi with h1 | rfl
        · exact ih.1 i h1
        · exact hp
      · rw [if_neg hp]
        exact ⟨ih.1, fun _ => by simpa using hp⟩
/-- Women one after the other, and again. -/
def rounds (who : List Int) : List Int := who ++ who.dropLast
theorem rounds_brought {who : List Int} {m : Move} (h1 : m.fro ∈ who) (h2 : m.to ∈ who) (h3 : m.fro ≠ m.to) : brought (rounds who) m = true := by
  obtain ⟨a, ha, ea⟩ := getD_of_mem h1
  obtain ⟨b, hb, eb⟩ := getD_of_mem h2
  have hab : a ≠ b := fun e => by subst e; exact h3 (ea.symm.trans eb)
  have g1 : ∀ i, i < who.length → (rounds who).getD i 0 = who.getD i 0 := fun i hi => by
    simp only [rounds, List.getD_eq_getElem?_getD]; rw [List.getElem?_append_left hi]
  refine brought_iff.2 ?_
  rcases Nat.lt_or_ge a b with h | h
  · exact ⟨a, b, h, by simp [rounds]; omega, by rw [g1 a ha, ea], by rw [g1 b hb, eb]⟩
  · refine ⟨a, who.length + b, by omega, by simp [rounds]; omega, by rw [g1 a ha, ea], ?_⟩
    simp only [rounds, List.getD_eq_getElem?_getD]
    rw [List.getElem?_append_right (by omega), show who.length + b - who.length = b by omega, List.getElem?_dropLast, if_pos (by omega)]
    rw [List.getD_eq_getElem?_getD] at eb
    exact eb
theorem getD_inj {l : List Int} (h : l.Nodup) {i j : Nat} (hi : i < l.length) (hj : j < l.length) (e : l.getD i 0 = l.getD j 0) : i = j := by
  simp only [List.getD_eq_getElem?_getD, List.getElem?_eq_getElem hi, List.getElem?_eq_getElem hj, Option.getD_some] at e
  rcases Nat.lt_trichotomy i j with h1 | h1 | h1
  · exact absurd e (List.pairwise_iff_getElem.1 h i j hi hj h1)
  · exact h1
  · exact absurd e.symm (List.pairwise_iff_getElem.1 h j i hj hi h1)
theorem rounds_walk {n : Nat} {who : List Int} (h1 : who.Nodup) (h2 : ∀ w ∈ who, 0 ≤ w ∧ w < n) (h4 : who.length ≤ 4) : Walk n (rounds who) := by
  have hl : (rounds who).length = who.length + (who.length - 1) := by simp [rounds]
  have g1 : ∀ i, i < who.length → (rounds who).getD i 0 = who.getD i 0 := fun i hi => by
    simp only [rounds, List.getD_eq_getElem?_getD]; rw [List.getElem?_append_left hi]
  have g2 : ∀ i, i < who.length - 1 → (rounds who).getD (who.length + i) 0 = who.getD i 0 := fun i hi => by
    simp only [rounds, List.getD_eq_getElem?_getD]
    rw [List.getElem?_append_right (by omega), show who.length + i - who.length = i by omega, List.getElem?_dropLast, if_pos hi]
  refine ⟨by omega, fun i hi => ?_, fun i hi => ?_⟩
  · by_cases h : i < who.length
    · rw [g1 i h]; exact h2 _ (mem_getD h)
    · have := g2 (i - who.length) (by omega)
      rw [show who.length + (i - who.length) = i by omega] at this
      rw [this]; exact h2 _ (mem_getD (by omega))
  · by_cases h : i + 1 < who.length
    · rw [g1 _ h, g1 i (by omega)]
      intro e
      have := getD_inj h1 h (by omega) e
      omega
    · by_cases h' : i + 1 = who.length
      · have e1 := g2 0 (by omega)
        rw [h', ← Nat.add_zero who.length, e1, g1 i (by omega)]
        intro e
        have := getD_inj h1 (by omega) (by omega) e
        omega
      · have e1 := g2 (i + 1 - who.length) (by omega)
        have e2 := g2 (i - who.length) (by omega)
        rw [show who.length + (i + 1 - who.length) = i + 1 by omega] at e1
        rw [show who.length + (i - who.length) = i by omega] at e2
        rw [e1, e2]
        intro e
        have := getD_inj h1 (by omega) (by omega) e
        omega
theorem nodup_len {l k : List Int} (hn : l.Nodup) (h : ∀ x ∈ l, x ∈ k) : l.length ≤ k.length := by
  induction l generalizing k with
  | nil => simp
  | cons x l ih =>
    obtain ⟨hx, hl⟩ := List.nodup_cons.1 hn
    have hxk := h x (.head _)
    have := ih (k := k.erase x) hl (fun y hy => (List.mem_erase_of_ne (fun e => hx (by subst e; exact hy))).2 (h y (.tail _ hy)))
    rw [List.length_erase_of_mem hxk] at this
    have hpos := List.length_pos_of_mem hxk
    simp only [List.length_cons]; omega
/-- Moves between women. -/
structure MovesOk (n : Nat) (ms : List Move) : Prop where
  fro : ∀ m ∈ ms, 0 ≤ m.fro ∧ m.fro < n
  to : ∀ m ∈ ms, 0 ≤ m.to ∧ m.to < n
  ne : ∀ m ∈ ms, m.fro ≠ m.to
  inc : (ms.map (·.piece)).Pairwise (· < ·)
  len : ms.length ≤ 7
theorem canIn_who {n : Nat} {ms : List Move} (hm : MovesOk n ms) {who : List Int} (h1 : who.Nodup) (h2 : ∀ w ∈ who, 0 ≤ w ∧ w < n) (h4 : who.length ≤ 4) (h5 : ∀ m ∈ ms, m.fro ∈ who ∧ m.to ∈ who) {most : Nat} (h6 : most ≤ 7) (h7 : 2 * who.length - 1 ≤ most) : canIn n ms most = true := by
  refine canIn_iff.2 ⟨rounds who, (mem_walks h6).2 ⟨rounds_walk h1 h2 h4, by simp [rounds]; omega⟩, bringsN_full.2 fun m hmm => rounds_brought (h5 m hmm).1 (h5 m hmm).2 (hm.ne m hmm)⟩
theorem canIn_seven {n : Nat} (hn : n ≤ 4) {ms : List Move} (hm : MovesOk n ms) : canIn n ms 7 = true := by
  refine canIn_who hm (who := (List.range n).map Int.ofNat) ?_ ?_ (by simpa using hn) ?_ (Nat.le_refl _) (by simp; omega)
  · exact List.pairwise_map.2 (List.nodup_range.imp fun h e => h (Int.ofNat.inj e))
  · intro w hw
    obtain ⟨i, hi, rfl⟩ := List.mem_map.1 hw
    have := List.mem_range.1 hi
    exact ⟨Int.natCast_nonneg i, by show (i : Int) < n; omega⟩
  · intro m hmm
    have h1 := hm.fro m hmm
    have h2 := hm.to m hmm
    exact ⟨List.mem_map.2 ⟨m.fro.toNat, List.mem_range.2 (by omega), by show ((m.fro.toNat : Nat) : Int) = _; omega⟩, List.mem_map.2 ⟨m.to.toNat, List.mem_range.2 (by omega), by show ((m.to.toNat : Nat) : Int) = _; omega⟩⟩
/-- The fewest calls, as the program looks for them. -/
def fewestP (n : Nat) (ms : List Move) : Nat := fstNo (fun k => !canIn n ms k) 7
theorem fewestP_eq {n : Nat} (hn : n ≤ 4) {ms : List Move} (hm : MovesOk n ms) : fewestP n ms = fewestC n ms := by
  have h7 := canIn_seven hn hm
  unfold fewestP fewestC
  show _ = if fstNo (fun k => !canIn n ms k) 7 < 7 then fstNo (fun k => !canIn n ms k) 7 else if (!canIn n ms 7) = true then 8 else 7
  have hle := fstNo_le (fun k => !canIn n ms k) 7
  by_cases h : fstNo (fun k => !canIn n ms k) 7 < 7
  · rw [if_pos h]
  · rw [if_neg h, h7, if_neg (by simp)]; omega
theorem fewestP_can {n : Nat} (hn : n ≤ 4) {ms : List Move} (hm : MovesOk n ms) : fewestP n ms ≤ 7 ∧ canIn n ms (fewestP n ms) = true ∧ ∀ k, k < fewestP n ms → canIn n ms k = false := by
  have hp := fstNo_props (p := fun k => !canIn n ms k) 7
  have hle := fstNo_le (fun k => !canIn n ms k) 7
  refine ⟨hle, ?_, fun k hk => by simpa using hp.1 k hk⟩
  by_cases h : fewestP n ms < 7
  · have := hp.2 h
    unfold fewestP
    simpa using this
  · rw [show fewestP n ms = 7 by unfold fewestP at *; omega]; exact canIn_seven hn hm
theorem fewestP_le {n : Nat} {ms : List Move} {k : Nat} (hk : k ≤ 7) (h : canIn n ms k = true) : fewestP n ms ≤ k := by
  have hp := fstNo_props (p := fun k => !canIn n ms k) 7
  refine Classical.byContradiction fun hlt => ?_
  have := hp.1 k (by unfold fewestP at hlt; omega)
  rw [h] at this; cases this

/-! ### The pieces that must wait -/
theorem piecesTo_filter (ms : List Move) (p : Nat → Bool) (k : Nat) : piecesTo ms p k = ((List.range k).filter p).map fun i => (ms.getD i default).piece := rfl
theorem pieces_sub {ms : List Move} {p q : Nat → Bool} (h : ∀ i, i < ms.length → p i = true → q i = true) : (piecesB ms p).Sublist (piecesB ms q) := by
  unfold piecesB
  rw [piecesTo_filter, piecesTo_filter]
  refine List.Sublist.map _ ?_
  have e : (List.range ms.length).filter p = ((List.range ms.length).filter q).filter p := by
    rw [List.filter_filter]
    refine List.filter_congr fun i hi => ?_
    have hi' := List.mem_range.1 hi
    cases hp : p i with
    | false => rfl
    | true => rw [h i hi' hp]; rfl
  rw [e]
  exact List.filter_sublist
theorem sub_shorter {a b : List Int} (h : a.Sublist b) : a = b ∨ shorter a b = true := by
  rcases Nat.lt_or_ge a.length b.length with h1 | h1
  · exact .inr (shorter_iff.2 (.inl h1))
  · exact .inl (h.eq_of_length_le h1)
theorem pieces_congr {ms : List Move} {p q : Nat → Bool} (h : ∀ i, i < ms.length → p i = q i) : piecesB ms p = piecesB ms q := by
  unfold piecesB
  rw [piecesTo_filter, piecesTo_filter]
  congr 1
  exact List.filter_congr fun i hi => h i (List.mem_range.1 hi)
theorem pieces_full (ms : List Move) : pieces ms (fullM ms) = ms.map (·.piece) := by
  unfold pieces piecesB
  rw [piecesTo_filter]
  rw [List.filter_eq_self.2 (fun i hi => by unfold fullM; rw [testBit_full]; simpa using hi)]
  apply List.ext_getElem
  · simp
  · intro i h1 h2
    simp at h1 h2
    simp [List.getD_eq_getElem?_getD, List.getElem?_eq_getElem h2]
/-- What a walk leaves. -/
def leftP (ms : List Move) (l : List Int) : List Int := piecesB ms fun i => !brought l (ms.getD i default)
def waitP (r : Errand) (ms : List Move) (all : List (List Int)) : Nat → List Int
  | 0 => ms.map (·.piece)
  | k + 1 => if sureB r (all.getD k []) = true ∧ shorter (leftP ms (all.getD k [])) (waitP r ms all k) = true then leftP ms (all.getD k []) else waitP r ms all k
/-- The least of some lists. -/
structure LeastL (Q : List Int → Prop) (l : List Int) : Prop where
  is : Q l
  no : ∀ x, Q x → shorter x l = false
theorem LeastL.unique {Q : List Int → Prop} {a b : List Int} (ha : LeastL Q a) (hb : LeastL Q b) : a = b := by
  refine Classical.byContradiction fun hne => ?_
  rcases shorter_total hne with h | h
  · rw [hb.no a ha.is] at h; cases h
  · rw [ha.no b hb.is] at h; cases h
/-- What sure walks leave, and all. -/
def LeftQ (r : Errand) (ms : List Move) (all : List (List Int)) (x : List Int) : Prop := x = ms.map (·.piece) ∨ ∃ l ∈ all, sureB r l = true ∧ x = leftP ms l
theorem shorter_no_trans {x a b : List Int} (h1 : shorter a b = true) (h2 : shorter x b = false) : shorter x a = false := by
  cases h : shorter x a with
  | false => rfl
  | true => rw [shorter_trans h h1] at h2; cases h2
theorem waitP_spec {r : Errand} {ms : List Move} {all : List (List Int)} : ∀ {k : Nat}, k ≤ all.length → LeftQ r ms all (waitP r ms all k) ∧ shorter (ms.map (·.piece)) (waitP r ms all k) = false ∧ ∀ j, j < k → sureB r (all.getD j []) = true → shorter (leftP ms (all.getD j [])) (waitP r ms all k) = false
  | 0, _ => ⟨.inl rfl, shorter_irrefl _, fun j hj => absurd hj (Nat.not_lt_zero _)⟩
  | k + 1, hk => by
    obtain ⟨h1, h2, h3⟩ := waitP_spec (r := r) (ms := ms) (all := all) (k := k) (by omega)
    simp only [waitP]
    by_cases h : sureB r (all.getD k []) = true ∧ shorter (leftP ms (all.getD k [])) (waitP r ms all k) = true
    · rw [if_pos h]
      refine ⟨.inr ⟨_, getD_mem_nil (by omega), h.1, rfl⟩, ?_, fun j hj hs => ?_⟩
      · cases hc : shorter (ms.map (·.piece)) (leftP ms (all.getD k [])) with
        | false => rfl
        | true => rw [shorter_trans hc h.2] at h2; cases h2
      · rcases Nat.lt_succ_iff_lt_or_eq.1 hj with h4 | rfl
        · cases hc : shorter (leftP ms (all.getD j [])) (leftP ms (all.getD k [])) with
          | false => rfl
          | true => have := shorter_trans hc h.2; rw [h3 j h4 hs] at this; cases this
        · exact shorter_irrefl _
    · rw [if_neg h]
      refine ⟨h1, h2, fun j hj hs => ?_⟩
      rcases Nat.lt_succ_iff_lt_or_eq.1 hj with h4 | rfl
      · exact h3 j h4 hs
      · cases hc : shorter (leftP ms (all.getD j [])) (waitP r ms all j) with
        | false => rfl
        | true => exact absurd ⟨hs, hc⟩ h
theorem waitP_least {r : Errand} {ms : List Move} {all : List (List Int)} : LeastL (LeftQ r ms all) (waitP r ms all all.length) := by
  obtain ⟨h1, h2, h3⟩ := waitP_spec (r := r) (ms := ms) (all := all) (Nat.le_refl _)
  refine ⟨h1, ?_⟩
  rintro x (rfl | ⟨l, hl, hs, rfl⟩)
  · exact h2
  · obtain ⟨j, hj, rfl⟩ := mem_getD_nil hl
    exact h3 j hj hs
theorem mem_broughtTo {r : Errand} {ms : List Move} {all : List (List Int)} {x : Nat} : ∀ {k : Nat}, x ∈ broughtTo r ms all k ↔ ∃ j, j < k ∧ sureB r (all.getD j []) = true ∧ x = bringsN ms (all.getD j [])
  | 0 => by simp [broughtTo]
  | k + 1 => by
    have ih := mem_broughtTo (r := r) (ms := ms) (all := all) (x := x) (k := k)
    simp only [broughtTo]
    by_cases h : sureB r (all.getD k []) = true
    · rw [if_pos h, List.mem_append, ih, List.mem_singleton]
      constructor
      · rintro (⟨j, h1, h2⟩ | rfl)
        · exact ⟨j, by omega, h2⟩
        · exact ⟨k, by omega, h, rfl⟩
      · rintro ⟨j, h1, h2, h3⟩
        rcases Nat.lt_succ_iff_lt_or_eq.1 h1 with h4 | rfl
        · exact .inl ⟨j, h4, h2, h3⟩
        · exact .inr h3
    · rw [if_neg h, ih]
      constructor
      · rintro ⟨j, h1, h2⟩; exact ⟨j, by omega, h2⟩
      · rintro ⟨j, h1, h2, h3⟩
        rcases Nat.lt_succ_iff_lt_or_eq.1 h1 with h4 | rfl
        · exact ⟨j, h4, h2, h3⟩
        · exact absurd h2 h
theorem waitTo_spec {ms : List Move} {br : List Nat} : ∀ k, (waitTo ms br k = pieces ms (fullM ms) ∨ ∃ j, j < k ∧ coverB ms br j = true ∧ waitTo ms br k = pieces ms j) ∧ shorter (pieces ms (fullM ms)) (waitTo ms br k) = false ∧ ∀ j, j < k → coverB ms br j = true → shorter (pieces ms j) (waitTo ms br k) = false
  | 0 => ⟨.inl rfl, shorter_irrefl _, fun j hj => absurd hj (Nat.not_lt_zero _)⟩
  | k + 1 => by
    obtain ⟨h1, h2, h3⟩ := waitTo_spec (ms := ms) (br := br) k
    simp only [waitTo]
    by_cases h : coverB ms br k = true ∧ shorter (pieces ms k) (waitTo ms br k) = true
    · rw [if_pos h]
      refine ⟨.inr ⟨k, by omega, h.1, rfl⟩, ?_, fun j hj hs => ?_⟩
      · cases hc : shorter (pieces ms (fullM ms)) (pieces ms k) with
        | false => rfl
        | true => rw [shorter_trans hc h.2] at h2; cases h2
      · rcases Nat.lt_succ_iff_lt_or_eq.1 hj with h4 | rfl
        · cases hc : shorter (pieces ms j) (pieces ms k) with
          | false => rfl
          | true => have := shorter_trans hc h.2; rw [h3 j h4 hs] at this; cases this
        · exact shorter_irrefl _
    · rw [if_neg h]
      refine ⟨h1.imp_right fun ⟨j, k1, k2⟩ => ⟨j, by omega, k2⟩, h2, fun j hj hs => ?_⟩
      rcases Nat.lt_succ_iff_lt_or_eq.1 hj with h4 | rfl
      · exact h3 j h4 hs
      · cases hc : shorter (pieces ms j) (waitTo ms br j) with
        | false => rfl
        | true => exact absurd ⟨hs, hc⟩ h
theorem cover_bits {ms : List Move} {b k : Nat} (hb : b < 2 ^ ms.length) : b ||| k = fullM ms → ∀ i, i < ms.length → b.testBit i = false → k.testBit i = true := fun h i hi h1 => by
  have := congrArg (fun x => x.testBit i) h
  simp only [Nat.testBit_or, fullM, testBit_full, h1, hi, decide_true, Bool.false_or] at this
  exact this
theorem bits_cover {ms : List Move} {b : Nat} (hb : b < 2 ^ ms.length) : b ||| (fullM ms - b) = fullM ms := by
  have hle : b ≤ fullM ms := by unfold fullM; omega
  apply Nat.eq_of_testBit_eq
  intro i
  rw [Nat.testBit_or]
  unfold fullM
  rw [show 2 ^ ms.length - 1 - b = 2 ^ ms.length - (b + 1) by omega, Nat.testBit_two_pow_sub_succ hb, testBit_full]
  by_cases hi : i < ms.length
  · simp [hi]
  · have : b.testBit i = false := Nat.testBit_lt_two_pow (Nat.lt_of_lt_of_le hb (Nat.pow_le_pow_right (by omega) (by omega)))
    simp [hi, this]
theorem wait_eq {r : Errand} {ms : List Move} {all : List (List Int)} : waitTo ms (broughtTo r ms all all.length) (fullM ms + 1) = waitP r ms all all.length := by
  refine LeastL.unique (Q := LeftQ r ms all) ?_ waitP_least
  obtain ⟨h1, h2, h3⟩ := waitTo_spec (ms := ms) (br := broughtTo r ms all all.length) (fullM ms + 1)
  have hfull := pieces_full ms
  have left : ∀ l, leftP ms l = pieces ms (fullM ms - bringsN ms l) := fun l => by
    have hb : bringsN ms l < 2 ^ ms.length := bset_lt _ _
    refine pieces_congr fun i hi => ?_
    unfold fullM
    rw [show 2 ^ ms.length - 1 - bringsN ms l = 2 ^ ms.length - (bringsN ms l + 1) by omega, Nat.testBit_two_pow_sub_succ hb]
    unfold bringsN
    rw [bset_bit]; simp [hi]
  have no : ∀ x, LeftQ r ms all x → shorter x (waitTo ms (broughtTo r ms all all.length) (fullM ms + 1)) = false := by
    rintro x (rfl | ⟨l, hl, hs, rfl⟩)
    · rw [← hfull]; exact h2
    · obtain ⟨j, hj, rfl⟩ := mem_getD_nil hl
      rw [left]
      refine h3 _ (by omega) ?_
      have hm := (mem_broughtTo (ms := ms) (k := all.length)).2 ⟨j, hj, hs, rfl⟩
      obtain ⟨i, hi, e⟩ := List.mem_iff_getElem.1 hm
      refine ex_iff.2 ⟨i, hi, ?_⟩
      rw [List.getD_eq_getElem?_getD, List.getElem?_eq_getElem hi, Option.getD_some, e]
      exact decide_eq_true (bits_cover (bset_lt _ _))
  refine ⟨?_, no⟩
  rcases h1 with h1 | ⟨j, hj, hc, h1⟩
  · rw [h1, hfull]; exact .inl rfl
  · obtain ⟨i, hi, h4⟩ := ex_iff.1 hc
    have h5 := of_decide_eq_true h4
    have hm : (broughtTo r ms all all.length).getD i 0 ∈ broughtTo r ms all all.length := by
      rw [List.getD_eq_getElem?_getD, List.getElem?_eq_getElem hi]; exact List.getElem_mem hi
    obtain ⟨q, hq, hs, e⟩ := mem_broughtTo.1 hm
    rw [e] at h5
    have hsub : (leftP ms (all.getD q [])).Sublist (pieces ms j) := by
      refine pieces_sub fun x hx hb => ?_
      refine cover_bits (bset_lt _ _) h5 x hx ?_
      rw [bset_bit]
      simp only [hx, decide_true, Bool.true_and]
      simpa using hb
    have hL : LeftQ r ms all (leftP ms (all.getD q [])) := .inr ⟨_, getD_mem_nil hq, hs, rfl⟩
    rcases sub_shorter hsub with h6 | h6
    · rw [h1, ← h6]; exact hL
    · have := no _ hL
      rw [h1, h6] at this; cases this
end Go.Proofs.YtdjkokpbeaapoaaGreat

/- Plain law: the minutes of calls, compared. -/
namespace Go.Proofs.YtdjkokpbeaapoaaGreat
open Go Go.Eng Go.RowKit

theorem minuteAt_le {x r : Errand} {a b w : List Int} (hn : x.n = r.n) (hs : x.start ≤ r.start) (hh : ∀ i, (x.home.getD i default).lo ≤ (r.home.getD i default).lo) (ht : ∀ i, a.getD i 0 ≤ b.getD i 0) : ∀ k, minuteAt x a w k ≤ minuteAt r b w k
  | 0 => hs
  | k + 1 => by
    have ih := minuteAt_le (x := x) (r := r) (w := w) hn hs hh ht k
    simp only [minuteAt, hn]
    have h1 := hh (w.getD k 0).toNat
    have h2 := ht (streetN r.n (placeAt r.n w k).toNat (w.getD k 0).toNat)
    omega
theorem minuteAt_congr {r : Errand} {t w w' : List Int} : ∀ {k : Nat}, (∀ i, i < k → w.getD i 0 = w'.getD i 0) → minuteAt r t w k = minuteAt r t w' k
  | 0, _ => rfl
  | k + 1, h => by
    have ih := minuteAt_congr (r := r) (t := t) (k := k) fun i hi => h i (by omega)
    simp only [minuteAt, ih, h k (by omega)]
    congr 3
    cases k with
    | zero => rfl
    | succ k => simp only [placeAt, h k (by omega)]
theorem minuteAt_home (r : Errand) (t w : List Int) (k : Nat) : (r.home.getD (w.getD k 0).toNat default).lo ≤ minuteAt r t w (k + 1) := by
  simp only [minuteAt]; omega
theorem minuteAt_step {r : Errand} {t w : List Int} (ht : ∀ i, 0 ≤ t.getD i 0) (k : Nat) : minuteAt r t w k ≤ minuteAt r t w (k + 1) := by
  have := ht (streetN r.n (placeAt r.n w k).toNat (w.getD k 0).toNat)
  simp only [minuteAt]; omega
theorem leastE_get (r : Errand) (i : Nat) : (leastE r).getD i 0 = (r.streets.getD i default).lo := by
  unfold leastE
  simp only [List.getD_eq_getElem?_getD, List.getElem?_map]
  cases r.streets[i]? <;> rfl
theorem greatestE_get (r : Errand) (i : Nat) : (greatestE r).getD i 0 = (r.streets.getD i default).hi := by
  unfold greatestE
  simp only [List.getD_eq_getElem?_getD, List.getElem?_map]
  cases r.streets[i]? <;> rfl
theorem getD_out {α : Type} {l : List α} {i : Nat} {d : α} (h : l.length ≤ i) : l.getD i d = d := by
  rw [List.getD_eq_getElem?_getD, List.getElem?_eq_none h]; rfl
theorem TruthE.ge {r : Errand} {l : List Int} (h : TruthE r l) (i : Nat) : (leastE r).getD i 0 ≤ l.getD i 0 := by
  rw [leastE_get]
  rcases Nat.lt_or_ge i r.streets.length with hi | hi
  · exact (h.has i hi).1
  · rw [getD_out hi, getD_out (by rw [h.len]; exact hi)]; exact Int.le_refl _
theorem TruthE.le {r : Errand} {l : List Int} (h : TruthE r l) (i : Nat) : l.getD i 0 ≤ (greatestE r).getD i 0 := by
  rw [greatestE_get]
  rcases Nat.lt_or_ge i r.streets.length with hi | hi
  · exact (h.has i hi).2
  · rw [getD_out hi, getD_out (by rw [h.len]; exact hi)]; exact Int.le_refl _
theorem TruthE.nonneg {r : Errand} (hV : ValidE r) {l : List Int} (h : TruthE r l) (i : Nat) : 0 ≤ l.getD i 0 := by
  rcases Nat.lt_or_ge i r.streets.length with hi | hi
  · exact (h.small hV hi).1
  · rw [getD_out (by rw [h.len]; exact hi)]; exact Int.le_refl _
theorem fstNo_all_iff {p : Nat → Bool} {n : Nat} : fstNo p n = n ↔ ∀ i, i < n → p i = true := by
  refine ⟨fun h i hi => (fstNo_props (p := p) n).1 i (by omega), fstNo_all⟩
theorem sureB_iff {r : Errand} {w : List Int} : sureB r w = true ↔ (w.length : Int) ≤ r.calls ∧ ∀ i, i < w.length → inTime r w i = true := by
  unfold sureB lateN
  simp only [Bool.and_eq_true, decide_eq_true_eq, fstNo_all_iff]
/-- A walk that is sure stays sure. -/
theorem sureB_mono {x r : Errand} {w : List Int} (hn : x.n = r.n) (hs : x.start ≤ r.start) (hlo : ∀ i, (x.home.getD i default).lo ≤ (r.home.getD i default).lo) (hhi : ∀ i, (r.home.getD i default).hi ≤ (x.home.getD i default).hi)
    (hst : ∀ i, (x.streets.getD i default).hi ≤ (r.streets.getD i default).hi) (hc : r.calls ≤ x.calls) (h : sureB r w = true) : sureB x w = true := by
  rw [sureB_iff] at *
  refine ⟨by omega, fun i hi => ?_⟩
  have h1 := of_decide_eq_true (h.2 i hi)
  have h2 := minuteAt_le (w := w) hn hs hlo (a := greatestE x) (b := greatestE r) (fun i => by rw [greatestE_get, greatestE_get]; exact hst i) (i + 1)
  have h3 := hhi (w.getD i 0).toNat
  exact decide_eq_true (by omega)
/-- With more sure walks no more pieces must wait. -/
theorem waitP_mono {x r : Errand} {ms : List Move} {all all' : List (List Int)} (h : ∀ l ∈ all, sureB r l = true → l ∈ all' ∧ sureB x l = true) : (waitP x ms all' all'.length).length ≤ (waitP r ms all all.length).length := by
  have h1 := waitP_least (r := r) (ms := ms) (all := all)
  have h2 := waitP_least (r := x) (ms := ms) (all := all')
  have h3 : LeftQ x ms all' (waitP r ms all all.length) := by
    rcases h1.is with h4 | ⟨l, hl, hs, e⟩
    · exact .inl h4
    · exact .inr ⟨l, (h l hl hs).1, (h l hl hs).2, e⟩
  have h5 := h2.no _ h3
  refine Classical.byContradiction fun hlt => ?_
  have : shorter (waitP r ms all all.length) (waitP x ms all' all'.length) = true := shorter_iff.2 (.inl (by omega))
  rw [h5] at this; cases this
/-- The moves of a valid errand. -/
theorem movesR_len (r : Errand) : (movesR r).length = (astray r.table (fewest r.table (truths r.table))).length := by simp [movesR, movesOf]
theorem fewest_owns {t : Table} (hV : Valid t) (h : truths t ≠ []) : areOwners t (fewest t (truths t)) = true := by
  rw [← ask_truths hV] at *
  have hpos : 0 < (ask t).length := List.length_pos_iff.2 h
  have := bestTo_lt t hpos _ (Nat.le_refl _)
  unfold fewest
  exact ask_are (by rw [List.getD_eq_getElem?_getD, List.getElem?_eq_getElem this]; exact List.getElem_mem this)
theorem movesR_get {r : Errand} {m : Move} (h : m ∈ movesR r) : ∃ i : Nat, i < (fewest r.table (truths r.table)).length ∧ (r.table.pieces.getD i default).bundle ≠ (fewest r.table (truths r.table)).getD i 0 ∧ m = ⟨i, (r.table.pieces.getD i default).bundle, (fewest r.table (truths r.table)).getD i 0⟩ := by
  unfold movesR movesOf at h
  obtain ⟨x, hx, rfl⟩ := List.mem_map.1 h
  obtain ⟨i, hi, hb, rfl⟩ := mem_sel.1 hx
  exact ⟨i, hi, by simpa using hb, rfl⟩
theorem movesR_ok {r : Errand} (hV : ValidE r) : MovesOk r.n (movesR r) := by
  have hF := areOwners_iff.1 (fewest_owns hV.table hV.some)
  refine ⟨fun m hm => ?_, fun m hm => ?_, fun m hm => ?_, ?_, ?_⟩
  · obtain ⟨i, hi, _, rfl⟩ := movesR_get hm
    have hp := hV.table.piece i (by have := hF.1; omega)
    unfold pieceBad at hp
    simp only [Bool.or_eq_false_iff, Bool.not_eq_false', decide_eq_true_eq] at hp
    have := hp.1.2
    show 0 ≤ (r.table.pieces.getD i default).bundle ∧ (r.table.pieces.getD i default).bundle < (r.table.women.length : Int)
    omega
  · obtain ⟨i, hi, _, rfl⟩ := movesR_get hm
    obtain ⟨w, hw, _, e⟩ := mem_sel.1 (hF.2 i hi)
    show 0 ≤ (fewest r.table (truths r.table)).getD i 0 ∧ (fewest r.table (truths r.table)).getD i 0 < (r.table.women.length : Int)
    omega
  · obtain ⟨i, hi, hne, rfl⟩ := movesR_get hm
    exact hne
  · unfold movesR movesOf
    rw [List.map_map]
    have e : (Move.piece ∘ fun i : Int => (⟨i, (r.table.pieces.getD i.toNat default).bundle, (fewest r.table (truths r.table)).getD i.toNat 0⟩ : Move)) = id := rfl
    rw [e, List.map_id]
    exact sel_pairwise _ _
  · rw [movesR_len]
    have h1 : (astray r.table (fewest r.table (truths r.table))).length ≤ (fewest r.table (truths r.table)).length := sel_len _ _
    have h2 := hF.1
    have h3 := hV.table.pieces
    omega
end Go.Proofs.YtdjkokpbeaapoaaGreat

/- Plain law: with streets of which none is longer than two others the best walk calls at no other women. -/
namespace Go.Proofs.YtdjkokpbeaapoaaGreat
open Go Go.Eng Go.RowKit

def wayStreet (s : Rg) : Rg := ⟨20 + s.lo % 9, 20 + s.lo % 9 + (s.hi - s.lo) % 9⟩
def wayX (r : Errand) : Errand := ⟨r.table, r.home.map fun _ => ⟨0, 1439⟩, r.streets.map wayStreet, r.start, r.calls⟩
theorem wayX_home (r : Errand) {i : Nat} (hi : i < r.home.length) : (wayX r).home.getD i default = ⟨0, 1439⟩ := by
  simp [wayX, List.getD_eq_getElem?_getD, List.getElem?_eq_getElem hi]
theorem wayX_street (r : Errand) {i : Nat} (hi : i < r.streets.length) : (wayX r).streets.getD i default = wayStreet (r.streets.getD i default) := by
  simp [wayX, List.getD_eq_getElem?_getD, List.getElem?_eq_getElem hi]
theorem wayX_valid {r : Errand} (hV : ValidE r) : ValidE (wayX r) := by
  obtain ⟨h1, h2, h3, h4, h5, h6, h7, h8, h9⟩ := hV
  refine ⟨h1, h2, h3, h4, (by simp [wayX] : (wayX r).home.length = r.home.length).trans h5, (by simp [wayX] : (wayX r).streets.length = r.streets.length).trans h6, h7, fun i hi => ?_, fun i hi => ?_⟩
  · rw [wayX_home r (by simpa [wayX] using hi)]; rfl
  · have hi' : i < r.streets.length := by simpa [wayX] using hi
    rw [wayX_street r hi']
    have := inside_iff.1 (h9 i hi')
    rw [inside_iff]
    simp only [wayStreet]
    omega
theorem wayX_moves (r : Errand) : movesR (wayX r) = movesR r := rfl
/-- Part of a walk is left out. -/
def cut (w : List Int) (a b : Nat) : List Int := w.take a ++ w.drop b
section
variable {w : List Int} {a b : Nat}
theorem cut_len (h1 : a < b) (h2 : b ≤ w.length) : (cut w a b).length = w.length - (b - a) := by
  simp [cut]; omega
theorem cut_lo (h1 : a < b) (h2 : b ≤ w.length) {i : Nat} (hi : i < a) : (cut w a b).getD i 0 = w.getD i 0 := by
  simp only [cut, List.getD_eq_getElem?_getD]
  rw [List.getElem?_append_left (by simp; omega), List.getElem?_take, if_pos hi]
theorem cut_hi (h1 : a < b) (h2 : b ≤ w.length) {i : Nat} (hi : a ≤ i) : (cut w a b).getD i 0 = w.getD (i + (b - a)) 0 := by
  simp only [cut, List.getD_eq_getElem?_getD]
  rw [List.getElem?_append_right (by simp; omega), List.getElem?_drop]
  congr 2
  simp; omega
theorem cut_walk {n : Nat} (hw : Walk n w) (h1 : a < b) (h2 : b ≤ w.length) (hj : 0 < a → b < w.length → w.getD (a - 1) 0 ≠ w.getD b 0) : Walk n (cut w a b) := by
  have hl := cut_len h1 h2
  have h7 := hw.len
  refine ⟨by omega, fun i hi => ?_, fun i hi => ?_⟩
  · rcases Nat.lt_or_ge i a with h | h
    · rw [cut_lo h1 h2 h]; exact hw.lt i (by omega)
    · rw [cut_hi h1 h2 h]; exact hw.lt _ (by omega)
  · rcases Nat.lt_trichotomy (i + 1) a with h | h | h
    · rw [cut_lo h1 h2 h, cut_lo h1 h2 (by omega)]; exact hw.ne i (by omega)
    · rw [cut_hi h1 h2 (by omega), cut_lo h1 h2 (by omega)]
      have := hj (by omega) (by omega)
      rw [show i + 1 + (b - a) = b by omega]
      rw [show a - 1 = i by omega] at this
      exact fun e => this e.symm
    · rw [cut_hi h1 h2 (by omega), cut_hi h1 h2 (by omega), show i + 1 + (b - a) = (i + (b - a)) + 1 by omega]
      exact hw.ne _ (by omega)
theorem cut_minute_lo {r : Errand} {t : List Int} (h1 : a < b) (h2 : b ≤ w.length) {k : Nat} (hk : k ≤ a) : minuteAt r t (cut w a b) k = minuteAt r t w k :=
  minuteAt_congr fun i hi => cut_lo h1 h2 (by omega)
end
theorem way_min {r : Errand} (hV : ValidE r) {w : List Int} (hw : Walk r.n w) {k : Nat} (hk : k < w.length) : minuteAt (wayX r) (greatestE (wayX r)) w k + 20 ≤ minuteAt (wayX r) (greatestE (wayX r)) w (k + 1) ∧ minuteAt (wayX r) (greatestE (wayX r)) w (k + 1) ≤ minuteAt (wayX r) (greatestE (wayX r)) w k + 36 ∧
    minuteAt (wayX r) (greatestE (wayX r)) w (k + 1) = minuteAt (wayX r) (greatestE (wayX r)) w k + (greatestE (wayX r)).getD (streetN r.n (placeAt r.n w k).toNat (w.getD k 0).toNat) 0 := by
  have h1 := hw.street hV.women hk
  have h2 : streetN r.n (placeAt r.n w k).toNat (w.getD k 0).toNat < r.streets.length := by rw [hV.streetsLen]; exact h1
  have h3 := hw.lt k hk
  have h4 := wayX_home r (i := (w.getD k 0).toNat) (by rw [hV.homeLen]; omega)
  have h5 := inside_iff.1 (hV.street _ h2)
  have hb := minuteAt_bound (wayX_valid hV) (greatest_truth (wayX_valid hV)) hw k (by omega)
  have e : minuteAt (wayX r) (greatestE (wayX r)) w (k + 1) = max ((wayX r).home.getD (w.getD k 0).toNat default).lo (minuteAt (wayX r) (greatestE (wayX r)) w k + (greatestE (wayX r)).getD (streetN r.n (placeAt r.n w k).toNat (w.getD k 0).toNat) 0) := rfl
  rw [e, h4, greatestE_get, wayX_street r h2]
  simp only [wayStreet]
  omega
theorem cut_minute_hi {r : Errand} (hV : ValidE r) {w : List Int} {a b : Nat} (hw : Walk r.n w) (hc : Walk r.n (cut w a b)) (h1 : a < b) (h2 : b ≤ w.length) : ∀ j, a + j < (cut w a b).length → minuteAt (wayX r) (greatestE (wayX r)) (cut w a b) (a + j + 1) ≤ minuteAt (wayX r) (greatestE (wayX r)) w (b + j + 1)
  | 0, hj => by
    have hl := cut_len h1 h2
    have k1 := way_min hV hc hj
    have k2 := way_min hV hw (k := a) (by omega)
    have k3 := way_min hV hw (k := b) (by omega)
    have k4 : minuteAt (wayX r) (greatestE (wayX r)) w (a + 1) ≤ minuteAt (wayX r) (greatestE (wayX r)) w b := by
      have hb : ∀ d, a + 1 + d ≤ b → minuteAt (wayX r) (greatestE (wayX r)) w (a + 1) ≤ minuteAt (wayX r) (greatestE (wayX r)) w (a + 1 + d) := fun d => by
        induction d with
        | zero => intro _; exact Int.le_refl _
        | succ d ih =>
          intro hd
          have k5 := way_min hV hw (k := a + 1 + d) (by omega)
          have k6 := ih (by omega)
          rw [show a + 1 + (d + 1) = a + 1 + d + 1 by omega]
          omega
      have := hb (b - (a + 1)) (by omega)
      rwa [show a + 1 + (b - (a + 1)) = b by omega] at this
    have k5 := cut_minute_lo (r := wayX r) (t := greatestE (wayX r)) h1 h2 (k := a) (Nat.le_refl _)
    simp only [Nat.add_zero] at *
    omega
  | j + 1, hj => by
    have hl := cut_len h1 h2
    have ih := cut_minute_hi hV hw hc h1 h2 j (by omega)
    have k1 := way_min hV hc (k := a + (j + 1)) hj
    have k2 := way_min hV hw (k := b + (j + 1)) (by omega)
    have e : (greatestE (wayX r)).getD (streetN r.n (placeAt r.n (cut w a b) (a + (j + 1))).toNat ((cut w a b).getD (a + (j + 1)) 0).toNat) 0 = (greatestE (wayX r)).getD (streetN r.n (placeAt r.n w (b + (j + 1))).toNat (w.getD (b + (j + 1)) 0).toNat) 0 := by
      have e1 : (cut w a b).getD (a + (j + 1)) 0 = w.getD (b + (j + 1)) 0 := by rw [cut_hi h1 h2 (by omega)]; congr 1; omega
      have e2 : placeAt r.n (cut w a b) (a + (j + 1)) = placeAt r.n w (b + (j + 1)) := by
        rw [show a + (j + 1) = (a + j) + 1 by omega, show b + (j + 1) = (b + j) + 1 by omega]
        show (cut w a b).getD (a + j) 0 = w.getD (b + j) 0
        rw [cut_hi h1 h2 (by omega)]; congr 1; omega
      rw [e1, e2]
    have k1' := k1.2.2
    have k2' := k2.2.2
    rw [e] at k1'
    rw [show a + (j + 1) + 1 = a + j + 1 + 1 by omega, show b + (j + 1) + 1 = b + j + 1 + 1 by omega]
    rw [show a + (j + 1) = a + j + 1 by omega, show b + (j + 1) = b + j + 1 by omega] at k1'
    rw [show b + (j + 1) = b + j + 1 by omega] at k2'
    omega
theorem cut_sure {r : Errand} (hV : ValidE r) {w : List Int} {a b : Nat} (hw : Walk r.n w) (hc : Walk r.n (cut w a b)) (h1 : a < b) (h2 : b ≤ w.length) (hs : sureB (wayX r) w = true) : sureB (wayX r) (cut w a b) = true := by
  have hl := cut_len h1 h2
  rw [sureB_iff] at *
  have late : ∀ {v : List Int}, Walk r.n v → ∀ i, i < v.length → (inTime (wayX r) v i = true ↔ minuteAt (wayX r) (greatestE (wayX r)) v (i + 1) ≤ 1439) := fun {v} hv i hi => by
    have h3 := hv.lt i hi
    unfold inTime
    rw [wayX_home r (by rw [hV.homeLen]; omega)]
    simp
  refine ⟨by omega, fun i hi => ?_⟩
  rw [late hc i hi]
  rcases Nat.lt_or_ge i a with h | h
  · have := (late hw i (by omega)).1 (hs.2 i (by omega))
    rw [cut_minute_lo h1 h2 (by omega)]; exact this
  · have k1 := cut_minute_hi hV hw hc h1 h2 (i - a) (by omega)
    have k2 := (late hw (b + (i - a)) (by omega)).1 (hs.2 _ (by omega))
    rw [show a + (i - a) = i by omega] at k1
    omega
theorem cut_brought {w : List Int} {a b : Nat} {m : Move} (h1 : a < b) (h2 : b ≤ w.length) (hm : m.fro ≠ m.to) (hf : w.getD a 0 ≠ m.fro) (ht : w.getD a 0 ≠ m.to) (hb : b = a + 1 ∨ b = a + 2 ∧ 0 < a ∧ w.getD (a + 1) 0 = w.getD (a - 1) 0) (h : brought w m = true) : brought (cut w a b) m = true := by
  have hl := cut_len h1 h2
  obtain ⟨k, i, hki, hi, ek, ei⟩ := brought_iff.1 h
  have pos : ∀ p, p < w.length → p ≠ a → ∃ q, q < (cut w a b).length ∧ (cut w a b).getD q 0 = w.getD p 0 ∧ q = (if p < a then p else if b ≤ p then p - (b - a) else a - 1) := fun p hp hpa => by
    rcases Nat.lt_or_ge p a with h3 | h3
    · exact ⟨p, by omega, cut_lo h1 h2 h3, by rw [if_pos h3]⟩
    · rcases Nat.lt_or_ge p b with h4 | h4
      · obtain ⟨h5, h6, h7⟩ : b = a + 2 ∧ 0 < a ∧ w.getD (a + 1) 0 = w.getD (a - 1) 0 := by
          rcases hb with h5 | h5
          · omega
          · exact h5
        have hp1 : p = a + 1 := by omega
        exact ⟨a - 1, by omega, by rw [cut_lo h1 h2 (by omega), hp1, h7], by rw [if_neg (by omega), if_neg (by omega)]⟩
      · refine ⟨p - (b - a), by omega, ?_, by rw [if_neg (by omega), if_pos h4]⟩
        rw [cut_hi h1 h2 (by omega)]; congr 1; omega
  obtain ⟨q, hq, eq, dq⟩ := pos k (by omega) (fun e => hf (by rw [← e]; exact ek))
  obtain ⟨s, hs, es, ds⟩ := pos i hi (fun e => ht (by rw [← e]; exact ei))
  have hne : q ≠ s := fun e => hm (by rw [← ek, ← ei, ← eq, ← es, e])
  refine brought_iff.2 ⟨q, s, ?_, hs, eq.trans ek, es.trans ei⟩
  have : q ≤ s := by
    rw [dq, ds]
    split <;> split <;> (try split) <;> (try split) <;> omega
  omega
/-- The best walk calls at women alone from whom or to whom something is moved. -/
theorem way_who {r : Errand} (hV : ValidE r) {w : List Int} (h : bestE (wayX r) = some w) {i : Nat} (hi : i < w.length) : ∃ m ∈ movesR r, w.getD i 0 = m.fro ∨ w.getD i 0 = m.to := by
  have hB := bestW_some h
  rw [wayX_moves] at hB
  have hc7 : (wayX r).calls.toNat ≤ 7 := by have := hV.calls; show r.calls.toNat ≤ 7; omega
  obtain ⟨hW, hlen⟩ := (mem_walks hc7).1 hB.mem
  have hW : Walk r.n w := hW
  obtain ⟨hs1, hs2⟩ := servesB_iff.1 hB.serves
  refine Classical.byContradiction fun hno => ?_
  have hno' : ∀ m ∈ movesR r, w.getD i 0 ≠ m.fro ∧ w.getD i 0 ≠ m.to := fun m hm => ⟨fun e => hno ⟨m, hm, .inl e⟩, fun e => hno ⟨m, hm, .inr e⟩⟩
  obtain ⟨b, hb1, hb2, hb3, hj⟩ : ∃ b, i < b ∧ b ≤ w.length ∧ (b = i + 1 ∨ b = i + 2 ∧ 0 < i ∧ w.getD (i + 1) 0 = w.getD (i - 1) 0) ∧ (0 < i → b < w.length → w.getD (i - 1) 0 ≠ w.getD b 0) := by
    by_cases hc : 0 < i ∧ i + 1 < w.length ∧ w.getD (i + 1) 0 = w.getD (i - 1) 0
    · obtain ⟨c1, c2, c3⟩ := hc
      refine ⟨i + 2, by omega, by omega, .inr ⟨rfl, c1, c3⟩, fun _ hlt => ?_⟩
      rw [← c3]
      exact fun e => hW.ne (i + 1) hlt e.symm
    · refine ⟨i + 1, by omega, by omega, .inl rfl, fun h0 hlt e => hc ⟨h0, hlt, e.symm⟩⟩
  have hcw := cut_walk hW hb1 hb2 hj
  have hcl := cut_len hb1 hb2
  have hmem : cut w i b ∈ walks (wayX r).n (wayX r).calls.toNat := (mem_walks hc7).2 ⟨hcw, by omega⟩
  have hserves : servesB (wayX r) (movesR r) (cut w i b) = true := servesB_iff.2 ⟨bringsN_full.2 fun m hm => cut_brought hb1 hb2 ((movesR_ok hV).ne m hm) (hno' m hm).1 (hno' m hm).2 hb3 (bringsN_full.1 hs1 m hm), cut_sure hV hW hcw hb1 hb2 hs2⟩
  have := hB.least _ hmem hserves
  rw [show better (cut w i b) (endingE (wayX r) (cut w i b)) w (endingE (wayX r) w) = true from better_iff.2 (.inl (by omega))] at this
  cases this
end Go.Proofs.YtdjkokpbeaapoaaGreat
