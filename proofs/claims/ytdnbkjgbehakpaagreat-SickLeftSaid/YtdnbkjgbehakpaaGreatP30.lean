/- Chapter 6: houses, courses, and what carries a sickness. -/
import Derived.Test.YtdnbkjgbehakpaaGreatP8
namespace Go.Proofs.YtdnbkjgbehakpaaGreat
open Go Go.Eng Go.RowKit

structure Touch where
  a : Int
  b : Int
  lo : Int
  hi : Int
  deriving DecidableEq
instance : Inhabited Touch := ⟨⟨0, 0, 0, 0⟩⟩
structure Boil where
  thing : Int
  hour : Int
  deriving DecidableEq
instance : Inhabited Boil := ⟨⟨0, 0⟩⟩
structure Sign where
  thing : Int
  carries : Bool
  deriving DecidableEq
instance : Inhabited Sign := ⟨⟨0, false⟩⟩
structure House where
  table : Table
  sick : List Int
  others : Int
  last : Int
  touches : List Touch
  boiled : List Boil
  signs : List Sign
structure Course where
  owners : List Int
  hours : List Int
  deriving DecidableEq
instance : Inhabited Course := ⟨⟨[], []⟩⟩
def House.np (h : House) : Nat := h.table.pieces.length
/-- How many things there are. -/
def House.things (h : House) : Int := h.np + h.others
def House.th (h : House) : Nat := h.things.toNat
def House.tn (h : House) : Nat := h.touches.length
/-- Is a list an increasing one of numbers from 0 to one less than a limit? -/
def risingBad (l : List Int) (limit : Int) (i : Nat) : Bool := !decide (0 ≤ l.getD i 0 ∧ l.getD i 0 ≤ limit - 1) || (decide (0 < i) && decide (l.getD i 0 ≤ l.getD (i - 1) 0))
def risingB (l : List Int) (limit : Int) : Bool := !ex l.length (risingBad l limit)
def isThing (h : House) (n : Int) : Bool := decide (0 ≤ n ∧ n ≤ h.things - 1)
def isHour (h : House) (n : Int) : Bool := decide (0 ≤ n ∧ n ≤ h.last)
def touchOk (h : House) (t : Touch) : Bool := isThing h t.a && isThing h t.b && !decide (t.a = t.b) && isHour h t.lo && isHour h t.hi && decide (t.lo ≤ t.hi)
def boilOk (h : House) (b : Boil) : Bool := isThing h b.thing && isHour h b.hour
def signOk (h : House) (s : Sign) : Bool := isThing h s.thing
/-- The sizes of the hours, multiplied. -/
def timesTo (h : House) (k : Nat) : Int := (List.range k).foldl (fun n i => min 3000 (n * ((h.touches.getD i default).hi - (h.touches.getD i default).lo + 1))) 1
def times (h : House) : Int := timesTo h h.tn
theorem timesTo_succ (h : House) (k : Nat) : timesTo h (k + 1) = min 3000 (timesTo h k * ((h.touches.getD k default).hi - (h.touches.getD k default).lo + 1)) := by simp [timesTo, List.range_succ, List.foldl_append]
def badOf {α : Type} [Inhabited α] (l : List α) (ok : α → Bool) : Bool := ex l.length fun i => !ok (l.getD i default)
def fault6 (h : House) : Int :=
  if 5 < h.last ∨ 10 < h.others ∨ 6 < h.touches.length ∨ 4 < h.boiled.length ∨ 5 < h.signs.length then 3
  else if askE h.table ≠ 0 then askE h.table
  else if h.last < 0 ∨ h.others < 0 ∨ 10 < h.things ∨ risingB h.sick h.table.women.length = false then 1
  else if badOf h.touches (touchOk h) = true ∨ badOf h.boiled (boilOk h) = true ∨ badOf h.signs (signOk h) = true then 1
  else if 2000 < min 3000 (many h.table * times h) then 3 else 0
/-- Houses that are valid. -/
structure ValidH (h : House) : Prop where
  table : Valid h.table
  some : ask h.table ≠ []
  last : 0 ≤ h.last ∧ h.last ≤ 5
  others : 0 ≤ h.others ∧ h.things ≤ 10
  touchN : h.touches.length ≤ 6
  boilN : h.boiled.length ≤ 4
  signN : h.signs.length ≤ 5
  sick : risingB h.sick h.table.women.length = true
  touch : ∀ i, i < h.touches.length → touchOk h (h.touches.getD i default) = true
  boil : ∀ i, i < h.boiled.length → boilOk h (h.boiled.getD i default) = true
  sign : ∀ i, i < h.signs.length → signOk h (h.signs.getD i default) = true
  many : many h.table * times h ≤ 2000
theorem bad_iff {α : Type} [Inhabited α] {l : List α} {ok : α → Bool} : badOf l ok = false ↔ ∀ i, i < l.length → ok (l.getD i default) = true := by
  unfold badOf
  rw [ex_no]
  exact ⟨fun h i hi => by simpa using h i hi, fun h i hi => by rw [h i hi]; rfl⟩
theorem askE_zero {t : Table} : askE t = 0 ↔ Valid t ∧ ask t ≠ [] := by
  unfold askE
  by_cases h : fault t = 0
  · rw [if_pos h]
    by_cases h2 : ask t = []
    · rw [if_pos h2]; simp [h2]
    · rw [if_neg h2]; simp [h2, fault_zero.1 h]
  · rw [if_neg h]
    exact ⟨fun e => absurd e h, fun e => absurd (fault_zero.2 e.1) h⟩
theorem fault6_zero {h : House} : fault6 h = 0 ↔ ValidH h := by
  unfold fault6
  by_cases h1 : 5 < h.last ∨ 10 < h.others ∨ 6 < h.touches.length ∨ 4 < h.boiled.length ∨ 5 < h.signs.length
  · rw [if_pos h1]
    refine ⟨fun e => by simp at e, fun v => ?_⟩
    obtain ⟨v1, v2, v3, v4, v5, v6, v7, _⟩ := v
    unfold House.things at v4
    omega
  rw [if_neg h1]
  by_cases h2 : askE h.table ≠ 0
  · rw [if_pos h2]
    exact ⟨fun e => absurd e h2, fun v => absurd (askE_zero.2 ⟨v.table, v.some⟩) h2⟩
  rw [if_neg h2]
  obtain ⟨ht, hs⟩ := askE_zero.1 (by simpa using h2)
  by_cases h3 : h.last < 0 ∨ h.others < 0 ∨ 10 < h.things ∨ risingB h.sick h.table.women.length = false
  · rw [if_pos h3]
    refine ⟨fun e => by simp at e, fun v => ?_⟩
    rcases h3 with h3 | h3 | h3 | h3
    · have := v.last; omega
    · have := v.others; omega
    · have := v.others; omega
    · rw [v.sick] at h3; cases h3
  rw [if_neg h3]
  by_cases h4 : badOf h.touches (touchOk h) = true ∨ badOf h.boiled (boilOk h) = true ∨ badOf h.signs (signOk h) = true
  · rw [if_pos h4]
    refine ⟨fun e => by simp at e, fun v => ?_⟩
    rcases h4 with h4 | h4 | h4
    · rw [bad_iff.2 v.touch] at h4; cases h4
    · rw [bad_iff.2 v.boil] at h4; cases h4
    · rw [bad_iff.2 v.sign] at h4; cases h4
  rw [if_neg h4]
  have hf : ∀ {b : Bool}, ¬ b = true → b = false := fun h => by simpa using h
  by_cases h5 : 2000 < min 3000 (Go.Proofs.YtdnbkjgbehakpaaGreat.many h.table * times h)
  · rw [if_pos h5]
    refine ⟨fun e => by simp at e, fun v => ?_⟩
    have := v.many; omega
  rw [if_neg h5]
  refine ⟨fun _ => ⟨ht, hs, by omega, by omega, by omega, by omega, by omega, ?_, bad_iff.1 (hf fun e => h4 (.inl e)), bad_iff.1 (hf fun e => h4 (.inr (.inl e))), bad_iff.1 (hf fun e => h4 (.inr (.inr e))), by omega⟩, fun _ => rfl⟩
  cases hr : risingB h.sick h.table.women.length with
  | true => rfl
  | false => exact absurd (.inr (.inr (.inr hr))) h3
/-! ### What carries a sickness: a set as bits -/
def startN (sick : List Int) (c : Course) : Nat := bset c.owners.length fun i => decide (c.owners.getD i 0 ∈ sick)
def isBoiled (bs : List Boil) (thing hour : Int) : Bool := ex bs.length fun k => decide ((bs.getD k default).thing = thing) && decide ((bs.getD k default).hour = hour)
def boilN (bs : List Boil) (hour : Nat) (s : Nat) : Nat → Nat
  | 0 => s
  | i + 1 => if isBoiled bs (i : Int) (hour : Int) = true then without (boilN bs hour s i) (2 ^ i) else boilN bs hour s i
def touchB (ts : List Touch) (c : Course) (hour : Nat) (s k : Nat) : Bool := decide (c.hours.getD k 0 = (hour : Int)) && (s.testBit (ts.getD k default).a.toNat || s.testBit (ts.getD k default).b.toNat)
def touchN (ts : List Touch) (c : Course) (hour : Nat) (s : Nat) : Nat → Nat
  | 0 => s
  | k + 1 => if touchB ts c hour (touchN ts c hour s k) k = true then touchN ts c hour s k ||| (2 ^ (ts.getD k default).a.toNat ||| 2 ^ (ts.getD k default).b.toNat) else touchN ts c hour s k
/-- What carries a sickness after some hours. -/
def carN (sick : List Int) (ts : List Touch) (th : Nat) (c : Course) (bs : List Boil) : Nat → Nat
  | 0 => startN sick c
  | k + 1 => touchN ts c k (boilN bs k (carN sick ts th c bs k) th) ts.length
def lastN (h : House) (c : Course) (more : List Boil) : Nat := carN h.sick h.touches h.th c (h.boiled ++ more) (h.last + 1).toNat
/-! ### Courses and truths -/
structure CourseT (t : Table) (ts : List Touch) (c : Course) : Prop where
  owners : c.owners ∈ ask t
  len : c.hours.length = ts.length
  has : ∀ i, i < ts.length → (ts.getD i default).lo ≤ c.hours.getD i 0 ∧ c.hours.getD i 0 ≤ (ts.getD i default).hi
def signS (ss : List Sign) (s : Nat) (i : Nat) : Bool := decide (s.testBit (ss.getD i default).thing.toNat = (ss.getD i default).carries)
def right6 (h : House) (c : Course) : Nat := bset h.signs.length (signS h.signs (lastN h c []))
def full6 (h : House) : Nat := 2 ^ h.signs.length - 1
/-- Are all signs but some right? -/
def rightBut6 (ss : List Sign) (s : Nat) (out : List Int) : Bool := !ex ss.length fun i => !decide ((i : Int) ∈ out) && !signS ss s i
def Touch.size (t : Touch) : Nat := (t.hi - t.lo + 1).toNat
/-- The hours with a number. -/
def hoursL : List Touch → Nat → List Int
  | [], _ => []
  | t :: ts, n => (t.lo + ((n % t.size : Nat) : Int)) :: hoursL ts (n / t.size)
def coursesOf (ts : List Touch) (l : List Int) (k : Nat) : List Course := (List.range k).map fun n => ⟨l, hoursL ts n⟩
def coursesTo (h : House) (k : Nat) : List Course := (List.range k).flatMap fun i => coursesOf h.touches ((truths h.table).getD i []) (times h).toNat
def courses (h : House) : List Course := coursesTo h (truths h.table).length
theorem hoursL_len : ∀ (ts : List Touch) (n : Nat), (hoursL ts n).length = ts.length
  | [], _ => rfl
  | _ :: ts, _ => by simp [hoursL, hoursL_len ts]
theorem hoursL_has : ∀ {ts : List Touch} (n : Nat), (∀ t ∈ ts, t.lo ≤ t.hi) → ∀ i, i < ts.length → (ts.getD i default).lo ≤ (hoursL ts n).getD i 0 ∧ (hoursL ts n).getD i 0 ≤ (ts.getD i default).hi
  | [], _, _, i, hi => by simp at hi
  | t :: ts, n, h, i, hi => by
    have ht := h t (.head _)
    have hs : 0 < t.size := by unfold Touch.size; omega
    have hm := Nat.mod_lt n hs
    cases i with
    | zero =>
      simp only [hoursL, List.getD_cons_zero]
      generalize n % t.size = m at *
      unfold Touch.size at hm hs
      omega
    | succ i =>
      simp only [hoursL, List.getD_cons_succ]
      exact hoursL_has _ (fun x hx => h x (.tail _ hx)) i (by simpa using hi)
def prodL : List Touch → Nat
  | [] => 1
  | t :: ts => t.size * prodL ts
theorem hoursL_all : ∀ {ts : List Touch} {x : List Int}, x.length = ts.length → (∀ i, i < ts.length → (ts.getD i default).lo ≤ x.getD i 0 ∧ x.getD i 0 ≤ (ts.getD i default).hi) → ∃ n, n < prodL ts ∧ hoursL ts n = x
  | [], x, hl, _ => ⟨0, Nat.one_pos, (List.length_eq_zero_iff.1 hl).symm⟩
  | t :: ts, [], hl, _ => by simp at hl
  | t :: ts, a :: x, hl, h => by
    have h0 := h 0 (by simp)
    simp only [List.getD_cons_zero] at h0
    obtain ⟨n, hn, e⟩ := hoursL_all (ts := ts) (x := x) (by simpa using hl) (fun i hi => by
      have := h (i + 1) (by simpa using hi)
      simpa only [List.getD_cons_succ] using this)
    obtain ⟨d, hd⟩ : ∃ d : Nat, (d : Int) = a - t.lo := ⟨(a - t.lo).toNat, by omega⟩
    have hds : d < t.size := by unfold Touch.size; omega
    refine ⟨d + t.size * n, ?_, ?_⟩
    · have h1 : t.size * (n + 1) ≤ t.size * prodL ts := Nat.mul_le_mul_left _ hn
      rw [Nat.mul_add, Nat.mul_one] at h1
      show _ < t.size * prodL ts
      omega
    · simp only [hoursL]
      rw [Nat.add_mul_mod_self_left, Nat.mod_eq_of_lt hds, Nat.add_mul_div_left _ _ (by omega), Nat.div_eq_of_lt hds, Nat.zero_add, e, hd]
      congr 1; omega
theorem prodL_snoc (ts : List Touch) (t : Touch) : prodL (ts ++ [t]) = prodL ts * t.size := by
  induction ts with
  | nil => simp [prodL]
  | cons x ts ih => simp only [List.cons_append, prodL, ih, Nat.mul_assoc]
theorem prodL_pos {ts : List Touch} (h : ∀ t ∈ ts, t.lo ≤ t.hi) : 0 < prodL ts := by
  induction ts with
  | nil => exact Nat.one_pos
  | cons t ts ih =>
    have := h t (.head _)
    exact Nat.mul_pos (by unfold Touch.size; omega) (ih fun x hx => h x (.tail _ hx))
theorem min_mul {a s : Nat} (hs : 0 < s) : min 3000 ((min 3000 a) * s) = min 3000 (a * s) := by
  rcases Nat.lt_or_ge a 3000 with h | h
  · rw [Nat.min_eq_right (by omega : a ≤ 3000)]
  · have h1 : a ≤ a * s := Nat.le_mul_of_pos_right a hs
    have h2 : 3000 ≤ 3000 * s := Nat.le_mul_of_pos_right 3000 hs
    rw [Nat.min_eq_left h, Nat.min_eq_left h2, Nat.min_eq_left (by omega)]
theorem timesTo_prod {h : House} (hs : ∀ t ∈ h.touches, t.lo ≤ t.hi) : ∀ k, k ≤ h.tn → timesTo h k = ((min 3000 (prodL (h.touches.take k)) : Nat) : Int)
  | 0, _ => rfl
  | k + 1, hk => by
    have hkt : k < h.touches.length := hk
    have ih := timesTo_prod hs k (by omega)
    have hm : h.touches.getD k default ∈ h.touches := by rw [List.getD_eq_getElem?_getD, List.getElem?_eq_getElem hkt]; exact List.getElem_mem hkt
    have h1 := hs _ hm
    rw [timesTo_succ, ih, take_succ_getD (d := default) hkt, prodL_snoc]
    generalize h.touches.getD k default = t at *
    have h2 : t.hi - t.lo + 1 = ((t.size : Nat) : Int) := by unfold Touch.size; omega
    rw [h2, ← min_mul (show 0 < t.size by unfold Touch.size; omega)]
    omega
theorem times_prod {h : House} (hs : ∀ t ∈ h.touches, t.lo ≤ t.hi) : times h = ((min 3000 (prodL h.touches) : Nat) : Int) := by
  unfold times
  rw [timesTo_prod hs _ (Nat.le_refl _), show h.tn = h.touches.length from rfl, List.take_length]
theorem mem_courses {h : House} (hV : Valid h.table) (hs : ∀ t ∈ h.touches, t.lo ≤ t.hi) (ht : times h ≤ 2000) {c : Course} : c ∈ courses h ↔ CourseT h.table h.touches c := by
  have hp := prodL_pos hs
  have htp := times_prod hs
  have hat := ask_truths hV
  unfold courses coursesTo coursesOf
  simp only [List.mem_flatMap, List.mem_map, List.mem_range]
  constructor
  · rintro ⟨i, hi, n, hn, rfl⟩
    refine ⟨?_, hoursL_len _ _, fun j hj => hoursL_has n hs j hj⟩
    show (truths h.table).getD i [] ∈ _
    rw [hat, List.getD_eq_getElem?_getD, List.getElem?_eq_getElem hi]
    exact List.getElem_mem hi
  · rintro ⟨h1, h2, h3⟩
    rw [hat] at h1
    obtain ⟨i, hi, e⟩ := List.mem_iff_getElem.1 h1
    obtain ⟨n, hn, e2⟩ := hoursL_all h2 h3
    refine ⟨i, hi, n, by omega, ?_⟩
    rw [List.getD_eq_getElem?_getD, List.getElem?_eq_getElem hi, Option.getD_some, e, e2]
/-- The hours of the last touches, in lexicographic order. -/
def hTails (ts : List Touch) : Nat → List (List Int)
  | 0 => [[]]
  | r + 1 => (List.range (ts.getD (ts.length - (r + 1)) default).size).flatMap fun (n : Nat) => (hTails ts r).map fun x => ((ts.getD (ts.length - (r + 1)) default).lo + (n : Int)) :: x
/-- Is a list one of the truths of a table? -/
def truB (t : Table) (l : List Int) : Bool := areOwners t l && isTruthP t l
/-- The courses that begin with some owners, as the program goes through them. -/
def scn (t : Table) (ts : List Touch) : Nat → List Int → List Course
  | 0, pre => if truB t pre = true then (hTails ts ts.length).map fun y => ⟨pre, y⟩ else []
  | r + 1, pre => (whoP t (t.pieces.length - (r + 1))).flatMap fun w => scn t ts r (pre ++ [w])
def scenesOf (t : Table) (ts : List Touch) : List Course := scn t ts t.pieces.length []
def scenes (h : House) : List Course := scenesOf h.table h.touches
theorem mem_hTails {ts : List Touch} : ∀ {r : Nat} {x : List Int}, r ≤ ts.length → (x ∈ hTails ts r ↔ x.length = r ∧ ∀ i, i < r → (ts.getD (ts.length - r + i) default).lo ≤ x.getD i 0 ∧ x.getD i 0 ≤ (ts.getD (ts.length - r + i) default).hi)
  | 0, x, _ => by
    simp only [hTails, List.mem_singleton]
    constructor
    · rintro rfl; exact ⟨rfl, fun i hi => absurd hi (Nat.not_lt_zero _)⟩
    · rintro ⟨h1, _⟩; exact List.length_eq_zero_iff.1 h1
  | r + 1, x, hr => by
    simp only [hTails, List.mem_flatMap, List.mem_map, List.mem_range]
    have e : ts.length - (r + 1) + 1 = ts.length - r := by omega
    constructor
    · rintro ⟨n, hn, y, hy, rfl⟩
      obtain ⟨h1, h2⟩ := (mem_hTails (r := r) (by omega)).1 hy
      refine ⟨by simp [h1], fun i hi => ?_⟩
      cases i with
      | zero =>
        unfold Touch.size at hn
        simp only [List.getD_cons_zero, Nat.add_zero]; omega
      | succ i =>
        rw [List.getD_cons_succ, show ts.length - (r + 1) + (i + 1) = ts.length - r + i by omega]
        exact h2 i (by omega)
    · rintro ⟨h1, h2⟩
      match x, h1 with
      | a :: y, h1 =>
        have h0 := h2 0 (by omega)
        simp only [List.getD_cons_zero, Nat.add_zero] at h0
        refine ⟨(a - (ts.getD (ts.length - (r + 1)) default).lo).toNat, by unfold Touch.size; omega, y, (mem_hTails (by omega)).2 ⟨by simpa using h1, fun i hi => ?_⟩, by congr 1; omega⟩
        have := h2 (i + 1) (by omega)
        rw [List.getD_cons_succ, show ts.length - (r + 1) + (i + 1) = ts.length - r + i by omega] at this
        exact this
theorem mem_scn {t : Table} {ts : List Touch} {c : Course} : ∀ {r : Nat} {pre : List Int}, r ≤ t.pieces.length → (c ∈ scn t ts r pre ↔ ∃ x, c.owners = pre ++ x ∧ x.length = r ∧ (∀ i, i < r → x.getD i 0 ∈ whoP t (t.pieces.length - r + i)) ∧ truB t c.owners = true ∧ c.hours ∈ hTails ts ts.length)
  | 0, pre, _ => by
    simp only [scn]
    constructor
    · intro h
      split at h
      · rename_i ht
        obtain ⟨y, hy, rfl⟩ := List.mem_map.1 h
        exact ⟨[], by simp, rfl, fun i hi => absurd hi (Nat.not_lt_zero _), ht, hy⟩
      · cases h
    · rintro ⟨x, h1, h2, _, h3, h4⟩
      have : x = [] := List.length_eq_zero_iff.1 h2
      subst this
      rw [List.append_nil] at h1
      rw [h1] at h3
      rw [if_pos h3]
      exact List.mem_map.2 ⟨c.hours, h4, by rw [← h1]⟩
  | r + 1, pre, hr => by
    simp only [scn, List.mem_flatMap]
    constructor
    · rintro ⟨w, hw, hc⟩
      obtain ⟨x, h1, h2, h3, h4, h5⟩ := (mem_scn (r := r) (by omega)).1 hc
      refine ⟨w :: x, by rw [h1]; simp, by simp [h2], fun i hi => ?_, h4, h5⟩
      cases i with
      | zero => simpa using hw
      | succ i =>
        rw [List.getD_cons_succ, show t.pieces.length - (r + 1) + (i + 1) = t.pieces.length - r + i by omega]
        exact h3 i (by omega)
    · rintro ⟨x, h1, h2, h3, h4, h5⟩
      match x, h2 with
      | w :: x, h2 =>
        refine ⟨w, by have := h3 0 (by omega); simpa using this, (mem_scn (by omega)).2 ⟨x, by rw [h1]; simp, by simpa using h2, fun i hi => ?_, h4, h5⟩⟩
        have := h3 (i + 1) (by omega)
        rw [List.getD_cons_succ] at this
        rwa [show t.pieces.length - (r + 1) + (i + 1) = t.pieces.length - r + i by omega] at this
theorem tails_in6 {t : Table} : ∀ {r : Nat} {l : List Int}, r ≤ t.pieces.length → l.length = r → (∀ i, i < r → l.getD i 0 ∈ womenOf t (t.pieces.length - r + i)) → l ∈ tails t r
  | 0, l, _, h, _ => by
    rw [List.length_eq_zero_iff.1 h]; exact .head _
  | r + 1, [], _, h, _ => by cases h
  | r + 1, a :: l, hr, h, hm => by
    refine List.mem_flatMap.2 ⟨a, by have := hm 0 (by omega); simpa using this, List.mem_map.2 ⟨l, tails_in6 (by omega) (by simpa using h) (fun i hi => ?_), rfl⟩⟩
    have := hm (i + 1) (by omega)
    rw [List.getD_cons_succ] at this
    rwa [show t.pieces.length - (r + 1) + (i + 1) = t.pieces.length - r + i by omega] at this
theorem mem_ask6' {t : Table} {l : List Int} : l ∈ ask t ↔ truB t l = true := by
  unfold truB
  constructor
  · intro h
    rw [ask_are h, (List.mem_filter.1 h).2]; rfl
  · intro h
    rw [Bool.and_eq_true] at h
    obtain ⟨h1, h2⟩ := areOwners_iff.1 h.1
    exact List.mem_filter.2 ⟨tails_in6 (Nat.le_refl _) h1 fun i hi => by rw [Nat.sub_self, Nat.zero_add]; exact h2 i (by omega), h.2⟩
theorem who_mem6 {x : Table} {l : List Int} (hl : l ∈ ask x) {k : Nat} (hk : k < x.pieces.length) : l.getD k 0 ∈ whoP x k := by
  rw [whoP_eq hk]
  have hla := areOwners_iff.1 (ask_are hl)
  obtain ⟨w, hw1, hw2, e1⟩ := mem_sel.1 (hla.2 k (by rw [hla.1]; exact hk))
  exact mem_sel.2 ⟨w, hw1, whoseIn_iff.2 ⟨l, hl, e1⟩, e1⟩
theorem mem_scenes {t : Table} {ts : List Touch} {c : Course} : c ∈ scenesOf t ts ↔ CourseT t ts c := by
  unfold scenesOf
  rw [mem_scn (Nat.le_refl _)]
  constructor
  · rintro ⟨x, h1, h2, _, h4, h5⟩
    obtain ⟨h6, h7⟩ := (mem_hTails (Nat.le_refl _)).1 h5
    exact ⟨mem_ask6'.2 h4, h6, fun i hi => by have := h7 i hi; rwa [show ts.length - ts.length + i = i by omega] at this⟩
  · rintro ⟨h1, h2, h3⟩
    refine ⟨c.owners, rfl, ask_lens h1, fun i hi => ?_, mem_ask6'.1 h1, (mem_hTails (Nat.le_refl _)).2 ⟨h2, fun i hi => by rw [show ts.length - ts.length + i = i by omega]; exact h3 i hi⟩⟩
    rw [show t.pieces.length - t.pieces.length + i = i by omega]
    exact who_mem6 h1 hi
end Go.Proofs.YtdnbkjgbehakpaaGreat
