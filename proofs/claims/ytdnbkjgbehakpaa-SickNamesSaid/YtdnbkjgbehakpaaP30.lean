/- Chapter 6: houses, courses, and what carries a sickness. -/
import Derived.Test.YtdnbkjgbehakpaaP8
import Derived.Test.YtdnbkjgbehakpaaP9
namespace Go.Proofs.Ytdnbkjgbehakpaa
open Go Go.Eng Go.RowKit

structure Touch where
  a : Int
  b : Int
  lo : Int
  hi : Int
  deriving DecidableEq
instance : Inhabited Touch := ⟨⟨0, 0, 0, 0⟩⟩
structure Boil where
  thing : Int
  hour : Int
  deriving DecidableEq
instance : Inhabited Boil := ⟨⟨0, 0⟩⟩
structure Sign where
  thing : Int
  carries : Bool
  deriving DecidableEq
instance : Inhabited Sign := ⟨⟨0, false⟩⟩
structure House where
  table : Table
  sick : List Int
  others : Int
  last : Int
  touches : List Touch
  boiled : List Boil
  signs : List Sign
structure Course where
  owners : List Int
  hours : List Int
  deriving DecidableEq
instance : Inhabited Course := ⟨⟨[], []⟩⟩
def House.np (h : House) : Nat := h.table.pieces.length
/-- How many things there are. -/
def House.things (h : House) : Int := h.np + h.others
def House.th (h : House) : Nat := h.things.toNat
def House.tn (h : House) : Nat := h.touches.length
/-- Is a list an increasing one of numbers from 0 to one less than a limit? -/
def risingBad (l : List Int) (limit : Int) (i : Nat) : Bool := !decide (0 ≤ l.getD i 0 ∧ l.getD i 0 ≤ limit - 1) || (decide (0 < i) && decide (l.getD i 0 ≤ l.getD (i - 1) 0))
def risingB (l : List Int) (limit : Int) : Bool := !ex l.length (risingBad l limit)
def isThing (h : House) (n : Int) : Bool := decide (0 ≤ n ∧ n ≤ h.things - 1)
def isHour (h : House) (n : Int) : Bool := decide (0 ≤ n ∧ n ≤ h.last)
def touchOk (h : House) (t : Touch) : Bool := isThing h t.a && isThing h t.b && !decide (t.a = t.b) && isHour h t.lo && isHour h t.hi && decide (t.lo ≤ t.hi)
def boilOk (h : House) (b : Boil) : Bool := isThing h b.thing && isHour h b.hour
def signOk (h : House) (s : Sign) : Bool := isThing h s.thing
/-- The sizes of the hours, multiplied. -/
def timesTo (h : House) (k : Nat) : Int := (List.range k).foldl (fun n i => min 3000 (n * ((h.touches.getD i default).hi - (h.touches.getD i default).lo + 1))) 1
def times (h : House) : Int := timesTo h h.tn
theorem timesTo_succ (h : House) (k : Nat) : timesTo h (k + 1) = min 3000 (timesTo h k * ((h.touches.getD k default).hi - (h.touches.getD k default).lo + 1)) := by simp [timesTo, List.range_succ, List.foldl_append]
def badOf {α : Type} [Inhabited α] (l : List α) (ok : α → Bool) : Bool := ex l.length fun i => !ok (l.getD i default)
def fault6 (h : House) : Int :=
  if 5 < h.last ∨ 10 < h.others ∨ 6 < h.touches.length ∨ 4 < h.boiled.length ∨ 5 < h.signs.length then 3
  else if askE h.table ≠ 0 then askE h.table
  else if h.last < 0 ∨ h.others < 0 ∨ 10 < h.things ∨ risingB h.sick h.table.women.length = false then 1
  else if badOf h.touches (touchOk h) = true ∨ badOf h.boiled (boilOk h) = true ∨ badOf h.signs (signOk h) = true then 1
  else if 2000 < min 3000 (many h.table * times h) then 3 else 0
/-- Houses that are valid. -/
structure ValidH (h : House) : Prop where
  table : Valid h.table
  some : ask h.table ≠ []
  last : 0 ≤ h.last ∧ h.last ≤ 5
  others : 0 ≤ h.others ∧ h.things ≤ 10
  touchN : h.touches.length ≤ 6
  boilN : h.boiled.length ≤ 4
  signN : h.signs.length ≤ 5
  sick : risingB h.sick h.table.women.length = true
  touch : ∀ i, i < h.touches.length → touchOk h (h.touches.getD i default) = true
  boil : ∀ i, i < h.boiled.length → boilOk h (h.boiled.getD i default) = true
  sign : ∀ i, i < h.signs.length → signOk h (h.signs.getD i default) = true
  many : many h.table * times h ≤ 2000
theorem bad_iff {α : Type} [Inhabited α] {l : List α} {ok : α → Bool} : badOf l ok = false ↔ ∀ i, i < l.length → ok (l.getD i default) = true := by
  unfold badOf
  rw [ex_no]
  exact ⟨fun h i hi => by simpa using h i hi, fun h i hi => by rw [h i hi]; rfl⟩
theorem askE_zero {t : Table} : askE t = 0 ↔ Valid t ∧ ask t ≠ [] := by
  unfold askE
  by_cases h : fault t = 0
  · rw [if_pos h]
    by_cases h2 : ask t = []
    · rw [if_pos h2]; simp [h2]
    · rw [if_neg h2]; simp [h2, fault_zero.1 h]
  · rw [if_neg h]
    exact ⟨fun e => absurd e h, fun e => absurd (fault_zero.2 e.1) h⟩
theorem fault6_zero {h : House} : fault6 h = 0 ↔ ValidH h := by
  unfold fault6
  by_cases h1 : 5 < h.last ∨ 10 < h.others ∨ 6 < h.touches.length ∨ 4 < h.boiled.length ∨ 5 < h.signs.length
  · rw [if_pos h1]
    refine ⟨fun e => by simp at e, fun v => ?_⟩
    obtain ⟨v1, v2, v3, v4, v5, v6, v7, _⟩ := v
    unfold House.things at v4
    omega
  rw [if_neg h1]
  by_cases h2 : askE h.table ≠ 0
  · rw [if_pos h2]
    exact ⟨fun e => absurd e h2, fun v => absurd (askE_zero.2 ⟨v.table, v.some⟩) h2⟩
  rw [if_neg h2]
  obtain ⟨ht, hs⟩ := askE_zero.1 (by simpa using h2)
  by_cases h3 : h.last < 0 ∨ h.others < 0 ∨ 10 < h.things ∨ risingB h.sick h.table.women.length = false
  · rw [if_pos h3]
    refine ⟨fun e => by simp at e, fun v => ?_⟩
    rcases h3 with h3 | h3 | h3 | h3
    · have := v.last; omega
    · have := v.others; omega
    · have := v.others; omega
    · rw [v.sick] at h3; cases h3
  rw [if_neg h3]
  by_cases h4 : badOf h.touches (touchOk h) = true ∨ badOf h.boiled (boilOk h) = true ∨ badOf h.signs (signOk h) = true
  · rw [if_pos h4]
    refine ⟨fun e => by simp at e, fun v => ?_⟩
    rcases h4 with h4 | h4 | h4
    · rw [bad_iff.2 v.touch] at h4; cases h4
    · rw [bad_iff.2 v.boil] at h4; cases h4
    · rw [bad_iff.2 v.sign] at h4; cases h4
  rw [if_neg h4]
  have hf : ∀ {b : Bool}, ¬ b = true → b = false := fun h => by simpa using h
  by_cases h5 : 2000 < min 3000 (Go.Proofs.Ytdnbkjgbehakpaa.many h.table * times h)
  · rw [if_pos h5]
    refine ⟨fun e => by simp at e, fun v => ?_⟩
    have := v.many; omega
  rw [if_neg h5]
  refine ⟨fun _ => ⟨ht, hs, by omega, by omega, by omega, by omega, by omega, ?_, bad_iff.1 (hf fun e => h4 (.inl e)), bad_iff.1 (hf fun e => h4 (.inr (.inl e))), bad_iff.1 (hf fun e => h4 (.inr (.inr e))), by omega⟩, fun _ => rfl⟩
  cases hr : risingB h.sick h.table.women.length with
  | true => rfl
  | false => exact absurd (.inr (.inr (.inr hr))) h3
/-! ### What carries a sickness: a set as bits -/
def startN (sick : List Int) (c : Course) : Nat := bset c.owners.length fun i => decide (c.owners.getD i 0 ∈ sick)
def isBoiled (bs : List Boil) (thing hour : Int) : Bool := ex bs.length fun k => decide ((bs.getD k default).thing = thing) && decide ((bs.getD k default).hour = hour)
def boilN (bs : List Boil) (hour : Nat) (s : Nat) : Nat → Nat
  | 0 => s
  | i + 1 => if isBoiled bs (i : Int) (hour : Int) = true then without (boilN bs hour s i) (2 ^ i) else boilN bs hour s i
def touchB (ts : List Touch) (c : Course) (hour : Nat) (s k : Nat) : Bool := decide (c.hours.getD k 0 = (hour : Int)) && (s.testBit (ts.getD k default).a.toNat || s.testBit (ts.getD k default).b.toNat)
def touchN (ts : List Touch) (c : Course) (hour : Nat) (s : Nat) : Nat → Nat
  | 0 => s
  | k + 1 => if touchB ts c hour (touchN ts c hour s k) k = true then touchN ts c hour s k ||| (2 ^ (ts.getD k default).a.toNat ||| 2 ^ (ts.getD k default).b.toNat) else touchN ts c hour s k
/-- What carries a sickness after some hours. -/
def carN (sick : List Int) (ts : List Touch) (th : Nat) (c : Course) (bs : List Boil) : Nat → Nat
  | 0 => startN sick c
  | k + 1 => touchN ts c k (boilN bs k (carN sick ts th c bs k) th) ts.length
def lastN (h : House) (c : Course) (more : List Boil) : Nat := carN h.sick h.touches h.th c (h.boiled ++ more) (h.last + 1).toNat
/-! ### Courses and truths -/
structure CourseT (t : Table) (ts : List Touch) (c : Course) : Prop where
  owners : c.owners ∈ ask t
  len : c.hours.length = ts.length
  has : ∀ i, i < ts.length → (ts.getD i default).lo ≤ c.hours.getD i 0 ∧ c.hours.getD i 0 ≤ (ts.getD i default).hi
def signS (ss : List Sign) (s : Nat) (i : Nat) : Bool := decide (s.testBit (ss.getD i default).thing.toNat = (ss.getD i default).carries)
def right6 (h : House) (c : Course) : Nat := bset h.signs.length (signS h.signs (lastN h c []))
def full6 (h : House) : Nat := 2 ^ h.signs.length - 1
/-- Are all signs but some right? -/
def rightBut6 (ss : List Sign) (s : Nat) (out : List Int) : Bool := !ex ss.length fun i => !decide ((i : Int) ∈ out) && !signS ss s i
def Touch.size (t : Touch) : Nat := (t.hi - t.lo + 1).toNat
/-- The hours with a number. -/
def hoursL : List Touch → Nat → List Int
  | [], _ => []
  | t :: ts, n => (t.lo + ((n % t.size : Nat) : Int)) :: hoursL ts (n / t.size)
def coursesOf (ts : List Touch) (l : List Int) (k : Nat) : List Course := (List.range k).map fun n => ⟨l, hoursL ts n⟩
def coursesTo (h : House) (k : Nat) : List Course := (List.range k).flatMap fun i => coursesOf h.touches ((truths h.table).getD i []) (times h).toNat
def courses (h : House) : List Course := coursesTo h (truths h.table).length
theorem hoursL_len : ∀ (ts : List Touch) (n : Nat), (hoursL ts n).length = ts.length
  | [], _ => rfl
  | _ :: ts, _ => by simp [hoursL, hoursL_len ts]
theorem hoursL_has : ∀ {ts : List Touch} (n : Nat), (∀ t ∈ ts, t.lo ≤ t.hi) → ∀ i, i < ts.length → (ts.getD i default).lo ≤ (hoursL ts n).getD i 0 ∧ (hoursL ts n).getD i 0 ≤ (ts.getD i default).hi
  | [], _, _, i, hi => by simp at hi
  | t :: ts, n, h, i, hi => by
    have ht := h t (.head _)
    have hs : 0 < t.size := by unfold Touch.size; omega
    have hm := Nat.mod_lt n hs
    cases i with
    | zero =>
      simp only [hoursL, List.getD_cons_zero]
      generalize n % t.size = m at *
      unfold Touch.size at hm hs
      omega
    | succ i =>
      simp only [hoursL, List.getD_cons_succ]
      exact hoursL_has _ (fun x hx => h x (.tail _ hx)) i (by simpa using hi)
def prodL : List Touch → Nat
  | [] => 1
  | t :: ts => t.size * prodL ts
theorem hoursL_all : ∀ {ts : List Touch} {x : List Int}, x.length = ts.length → (∀ i, i < ts.length → (ts.getD i default).lo ≤ x.getD i 0 ∧ x.getD i 0 ≤ (ts.getD i default).hi) → ∃ n, n < prodL ts ∧ hoursL ts n = x
  | [], x, hl, _ => ⟨0, Nat.one_pos, (List.length_eq_zero_iff.1 hl).symm⟩
  | t :: ts, [], hl, _ => by simp at hl
  | t :: ts, a :: x, hl, h => by
    have h0 := h 0 (by simp)
    simp only [List.getD_cons_zero] at h0
    obtain ⟨n, hn, e⟩ := hoursL_all (ts := ts) (x := x) (by simpa using hl) (fun i hi => by
      have := h (i + 1) (by simpa using hi)
      simpa only [List.getD_cons_succ] using this)
    obtain ⟨d, hd⟩ : ∃ d : Nat, (d : Int) = a - t.lo := ⟨(a - t.lo).toNat, by omega⟩
    have hds : d < t.size := by unfold Touch.size; omega
    refine ⟨d + t.size * n, ?_, ?_⟩
    · have h1 : t.size * (n + 1) ≤ t.size * prodL ts := Nat.mul_le_mul_left _ hn
      rw [Nat.mul_add, Nat.mul_one] at h1
      show _ < t.size * prodL ts
      omega
    · simp only [hoursL]
      rw [Nat.add_mul_mod_self_left, Nat.mod_eq_of_lt hds, Nat.add_mul_div_left _ _ (by omega), Nat.div_eq_of_lt hds, Nat.zero_add, e, hd]
      congr 1; omega
theorem prodL_snoc (ts : List Touch) (t : Touch) : prodL (ts ++ [t]) = prodL ts * t.size := by
  induction ts with
  | nil => simp [prodL]
  | cons x ts ih => simp only [List.cons_append, prodL, ih, Nat.mul_assoc]
theorem prodL_pos {ts : List Touch} (h : ∀ t ∈ ts, t.lo ≤ t.hi) : 0 < prodL ts := by
  induction ts with
  | nil => exact Nat.one_pos
  | cons t ts ih =>
    have := h t (.head _)
    exact Nat.mul_pos (by unfold Touch.size; omega) (ih fun x hx => h x (.tail _ hx))
theorem min_mul {a s : Nat} (hs : 0 < s) : min 3000 ((min 3000 a) * s) = min 3000 (a * s) := by
  rcases Nat.lt_or_ge a 3000 with h | h
  · rw [Nat.min_eq_right (by omega : a ≤ 3000)]
  · have h1 : a ≤ a * s := Nat.le_mul_of_pos_right a hs
    have h2 : 3000 ≤ 3000 * s := Nat.le_mul_of_pos_right 3000 hs
    rw [Nat.min_eq_left h, Nat.min_eq_left h2, Nat.min_eq_left (by omega)]
theorem timesTo_prod {h : House} (hs : ∀ t ∈ h.touches, t.lo ≤ t.hi) : ∀ k, k ≤ h.tn → timesTo h k = ((min 3000 (prodL (h.touches.take k)) : Nat) : Int)
  | 0, _ => rfl
  | k + 1, hk => by
    have hkt : k < h.touches.length := hk
    have ih := timesTo_prod hs k (by omega)
    have hm : h.touches.getD k default ∈ h.touches := by rw [List.getD_eq_getElem?_getD, List.getElem?_eq_getElem hkt]; exact List.getElem_mem hkt
    have h1 := hs _ hm
    rw [timesTo_succ, ih, take_succ_getD (d := default) hkt, prodL_snoc]
    generalize h.touches.getD k default = t at *
    have h2 : t.hi - t.lo + 1 = ((t.size : Nat) : Int) := by unfold Touch.size; omega
    rw [h2, ← min_mul (show 0 < t.size by unfold Touch.size; omega)]
    omega
theorem times_prod {h : House} (hs : ∀ t ∈ h.touches, t.lo ≤ t.hi) : times h = ((min 3000 (prodL h.touches) : Nat) : Int) := by
  unfold times
  rw [timesTo_prod hs _ (Nat.le_refl _), show h.tn = h.touches.length from rfl, List.take_length]
theorem mem_courses {h : House} (hV : Valid h.table) (hs : ∀ t ∈ h.touches, t.lo ≤ t.hi) (ht : times h ≤ 2000) {c : Course} : c ∈ courses h ↔ CourseT h.table h.touches c := by
  have hp := prodL_pos hs
  have htp := times_prod hs
  have hat := ask_truths hV
  unfold courses coursesTo coursesOf
  simp only [List.mem_flatMap, List.mem_map, List.mem_range]
  constructor
  · rintro ⟨i, hi, n, hn, rfl⟩
    refine ⟨?_, hoursL_len _ _, fun j hj => hoursL_has n hs j hj⟩
    show (truths h.table).getD i [] ∈ _
    rw [hat, List.getD_eq_getElem?_getD, List.getElem?_eq_getElem hi]
    exact List.getElem_mem hi
  · rintro ⟨h1, h2, h3⟩
    rw [hat] at h1
    obtain ⟨i, hi, e⟩ := List.mem_iff_getElem.1 h1
    obtain ⟨n, hn, e2⟩ := hoursL_all h2 h3
    refine ⟨i, hi, n, by omega, ?_⟩
    rw [List.getD_eq_getElem?_getD, List.getElem?_eq_getElem hi, Option.getD_some, e, e2]
/-- The hours of the last touches, in lexicographic order. -/
def hTails (ts : List Touch) : Nat → List (List Int)
  | 0 => [[]]
  | r + 1 => (List.range (ts.getD (ts.length - (r + 1)) default).size).flatMap fun (n : Nat) => (hTails ts r).map fun x => ((ts.getD (ts.length - (r + 1)) default).lo + (n : Int)) :: x
/-- Is a list one of the truths of a table? -/
def truB (t : Table) (l : List Int) : Bool := areOwners t l && isTruthP t l
/-- The courses that begin with some owners, as the program goes through them. -/
def scn (t : Table) (ts : List Touch) : Nat → List Int → List Course
  | 0, pre => if truB t pre = true then (hTails ts ts.length).map fun y => ⟨pre, y⟩ else []
  | r + 1, pre => (whoP t (t.pieces.length - (r + 1))).flatMap fun w => scn t ts r (pre ++ [w])
def scenesOf (t : Table) (ts : List Touch) : List Course := scn t ts t.pieces.length []
def scenes (h : House) : List Course := scenesOf h.table h.touches
theorem mem_hTails {ts : List Touch} : ∀ {r : Nat} {x : List Int}, r ≤ ts.length → (x ∈ hTails ts r ↔ x.length = r ∧ ∀ i, i < r → (ts.getD (ts.length - r + i) default).lo ≤ x.getD i 0 ∧ x.getD i 0 ≤ (ts.getD (ts.length - r + i) default).hi)
  | 0, x, _ => by
    simp only [hTails, List.mem_singleton]
    constructor
    · rintro rfl; exact ⟨rfl, fun i hi => absurd hi (Nat.not_lt_zero _)⟩
    · rintro ⟨h1, _⟩; exact List.length_eq_zero_iff.1 h1
  | r + 1, x, hr => by
    simp only [hTails, List.mem_flatMap, List.mem_map, List.mem_range]
    have e : ts.length - (r + 1) + 1 = ts.length - r := by omega
    constructor
    · rintro ⟨n, hn, y, hy, rfl⟩
      obtain ⟨h1, h2⟩ := (mem_hTails (r := r) (by omega)).1 hy
      refine ⟨by simp [h1], fun i hi => ?_⟩
      cases i with
      | zero =>
        unfold Touch.size at hn
        simp only [List.getD_cons_zero, Nat.add_zero]; omega
      | succ i =>
        rw [List.getD_cons_succ, show ts.length - (r + 1) + (i + 1) = ts.length - r + i by omega]
        exact h2 i (by omega)
    · rintro ⟨h1, h2⟩
      match x, h1 with
      | a :: y, h1 =>
        have h0 := h2 0 (by omega)
        simp only [List.getD_cons_zero, Nat.add_zero] at h0
        refine ⟨(a - (ts.getD (ts.length - (r + 1)) default).lo).toNat, by unfold Touch.size; omega, y, (mem_hTails (by omega)).2 ⟨by simpa using h1, fun i hi => ?_⟩, by congr 1; omega⟩
        have := h2 (i + 1) (by omega)
        rw [List.getD_cons_succ, show ts.length - (r + 1) + (i + 1) = ts.length - r + i by omega] at this
        exact this
theorem mem_scn {t : Table} {ts : List Touch} {c : Course} : ∀ {r : Nat} {pre : List Int}, r ≤ t.pieces.length → (c ∈ scn t ts r pre ↔ ∃ x, c.owners = pre ++ x ∧ x.length = r ∧ (∀ i, i < r → x.getD i 0 ∈ whoP t (t.pieces.length - r + i)) ∧ truB t c.owners = true ∧ c.hours ∈ hTails ts ts.length)
  | 0, pre, _ => by
    simp only [scn]
    constructor
    · intro h
      split at h
      · rename_i ht
        obtain ⟨y, hy, rfl⟩ := List.mem_map.1 h
        exact ⟨[], by simp, rfl, fun i hi => absurd hi (Nat.not_lt_zero _), ht, hy⟩
      · cases h
    · rintro ⟨x, h1, h2, _, h3, h4⟩
      have : x = [] := List.length_eq_zero_iff.1 h2
      subst this
      rw [List.append_nil] at h1
      rw [h1] at h3
      rw [if_pos h3]
      exact List.mem_map.2 ⟨c.hours, h4, by rw [← h1]⟩
  | r + 1, pre, hr => by
    simp only [scn, List.mem_flatMap]
    constructor
    · rintro ⟨w, hw, hc⟩
      obtain ⟨x, h1, h2, h3, h4, h5⟩ := (mem_scn (r := r) (by omega)).1 hc
      refine ⟨w :: x, by rw [h1]; simp, by simp [h2], fun i hi => ?_, h4, h5⟩
      cases i with
      | zero => simpa using hw
      | succ i =>
        rw [List.getD_cons_succ, show t.pieces.length - (r + 1) + (i + 1) = t.pieces.length - r + i by omega]
        exact h3 i (by omega)
    · rintro ⟨x, h1, h2, h3, h4, h5⟩
      match x, h2 with
      | w :: x, h2 =>
        refine ⟨w, by have := h3 0 (by omega); simpa using this, (mem_scn (by omega)).2 ⟨x, by rw [h1]; simp, by simpa using h2, fun i hi => ?_, h4, h5⟩⟩
        have := h3 (i + 1) (by omega)
        rw [List.getD_cons_succ] at this
        rwa [show t.pieces.length - (r + 1) + (i + 1) = t.pieces.length - r + i by omega] at this
theorem tails_in6 {t : Table} : ∀ {r : Nat} {l : List Int}, r ≤ t.pieces.length → l.length = r → (∀ i, i < r → l.getD i 0 ∈ womenOf t (t.pieces.length - r + i)) → l ∈ tails t r
  | 0, l, _, h, _ => by
    rw [List.length_eq_zero_iff.1 h]; exact .head _
  | r + 1, [], _, h, _ => by cases h
  | r + 1, a :: l, hr, h, hm => by
    refine List.mem_flatMap.2 ⟨a, by have := hm 0 (by omega); simpa using this, List.mem_map.2 ⟨l, tails_in6 (by omega) (by simpa using h) (fun i hi => ?_), rfl⟩⟩
    have := hm (i + 1) (by omega)
    rw [List.getD_cons_succ] at this
    rwa [show t.pieces.length - (r + 1) + (i + 1) = t.pieces.length - r + i by omega] at this
theorem mem_ask6' {t : Table} {l : List Int} : l ∈ ask t ↔ truB t l = true := by
  unfold truB
  constructor
  · intro h
    rw [ask_are h, (List.mem_filter.1 h).2]; rfl
  · intro h
    rw [Bool.and_eq_true] at h
    obtain ⟨h1, h2⟩ := areOwners_iff.1 h.1
    exact List.mem_filter.2 ⟨tails_in6 (Nat.le_refl _) h1 fun i hi => by rw [Nat.sub_self, Nat.zero_add]; exact h2 i (by omega), h.2⟩
theorem who_mem6 {x : Table} {l : List Int} (hl : l ∈ ask x) {k : Nat} (hk : k < x.pieces.length) : l.getD k 0 ∈ whoP x k := by
  rw [whoP_eq hk]
  have hla := areOwners_iff.1 (ask_are hl)
  obtain ⟨w, hw1, hw2, e1⟩ := mem_sel.1 (hla.2 k (by rw [hla.1]; exact hk))
  exact mem_sel.2 ⟨w, hw1, whoseIn_iff.2 ⟨l, hl, e1⟩, e1⟩
theorem mem_scenes {t : Table} {ts : List Touch} {c : Course} : c ∈ scenesOf t ts ↔ CourseT t ts c := by
  unfold scenesOf
  rw [mem_scn (Nat.le_refl _)]
  constructor
  · rintro ⟨x, h1, h2, _, h4, h5⟩
    obtain ⟨h6, h7⟩ := (mem_hTails (Nat.le_refl _)).1 h5
    exact ⟨mem_ask6'.2 h4, h6, fun i hi => by have := h7 i hi; rwa [show ts.length - ts.length + i = i by omega] at this⟩
  · rintro ⟨h1, h2, h3⟩
    refine ⟨c.owners, rfl, ask_lens h1, fun i hi => ?_, mem_ask6'.1 h1, (mem_hTails (Nat.le_refl _)).2 ⟨h2, fun i hi => by rw [show ts.length - ts.length + i = i by omega]; exact h3 i hi⟩⟩
    rw [show t.pieces.length - t.pieces.length + i = i by omega]
    exact who_mem6 h1 hi
end Go.Proofs.Ytdnbkjgbehakpaa

/- Chapter 6: how the program looks for the smallest sets and the shortest orders. -/
namespace Go.Proofs.Ytdnbkjgbehakpaa
open Go Go.Eng Go.RowKit

/-- The first set of so many numbers more, from one on, that will do. -/
def setR (ok : List Int → Bool) (W : Nat) : Nat → List Int → Nat → Option (List Int)
  | 0, out, _ => if ok out = true then some out else none
  | m + 1, out, s => fsome (fun i => setR ok W m (out ++ [(i : Int)]) (i + 1)) s (W - m - s)
def setAll (ok : List Int → Bool) (W : Nat) : Option (List Int) := fsome (fun m => setR ok W m [] 0) 0 (W + 1)
/-- The least of the increasing lists that will do. -/
structure LeastS (ok : List Int → Bool) (W : Nat) (c : List Int) : Prop where
  inc : Inc W 0 c
  is : ok c = true
  no : ∀ d, Inc W 0 d → ok d = true → shorter d c = false
/-! ### Orders -/
def seqR (ok : List Int → Bool) (W : Nat) : Nat → List Int → Option (List Int)
  | 0, out => if ok out = true then some out else none
  | m + 1, out => fsome (fun i => seqR ok W m (out ++ [(i : Int)])) 0 W
def seqAll (ok : List Int → Bool) (W n : Nat) : Option (List Int) := fsome (fun m => seqR ok W m []) 0 n
/-- Numbers below W. -/
def Below (W : Nat) (l : List Int) : Prop := ∀ x ∈ l, 0 ≤ x ∧ x < W
/-- The least of the lists that will do, of at most so many. -/
structure LeastO (ok : List Int → Bool) (W n : Nat) (c : List Int) : Prop where
  len : c.length < n
  below : Below W c
  is : ok c = true
  no : ∀ d, d.length < n → Below W d → ok d = true → shorter d c = false
end Go.Proofs.Ytdnbkjgbehakpaa

/- Chapter 6: what the program finds is what the reference finds. -/
namespace Go.Proofs.Ytdnbkjgbehakpaa
open Go Go.Eng Go.RowKit

theorem getDc {l : List Course} {i : Nat} (h : i < l.length) : l.getD i default ∈ l := by
  rw [List.getD_eq_getElem?_getD, List.getElem?_eq_getElem h]; exact List.getElem_mem h
theorem of_memc {l : List Course} {c : Course} (h : c ∈ l) : ∃ i, i < l.length ∧ l.getD i default = c := by
  obtain ⟨i, hi, e⟩ := List.mem_iff_getElem.1 h
  exact ⟨i, hi, by rw [List.getD_eq_getElem?_getD, List.getElem?_eq_getElem hi]; exact e⟩
theorem rightBut_iff6 {ss : List Sign} {s : Nat} {out : List Int} : rightBut6 ss s out = true ↔ ∀ i : Nat, i < ss.length → signS ss s i = false → (i : Int) ∈ out := by
  unfold rightBut6
  rw [Bool.not_eq_true', ex_no]
  constructor
  · intro h i hi hr
    have := h i hi
    rw [hr] at this
    simpa using this
  · intro h i hi
    cases hs : signS ss s i with
    | true => simp
    | false => simpa using h i hi hs
theorem rightNil_iff6 {ss : List Sign} {s : Nat} : rightBut6 ss s [] = true ↔ ∀ i : Nat, i < ss.length → signS ss s i = true := by
  rw [rightBut_iff6]
  constructor
  · intro h i hi
    cases hs : signS ss s i with
    | true => rfl
    | false => exact absurd (h i hi hs) (by simp)
  · intro h i hi hs
    rw [h i hi] at hs; cases hs
def possible6 (h : House) (out : List Int) : Bool := ex (scenes h).length fun i => rightBut6 h.signs (lastN h ((scenes h).getD i default) []) out
def ask6 (h : House) : List Course := (scenes h).filter fun c => rightBut6 h.signs (lastN h c []) []
def truths6 (h : House) : List Course := (courses h).filter fun c => decide (right6 h c = full6 h)
theorem touchOk_iff {h : House} {t : Touch} : touchOk h t = true ↔ (0 ≤ t.a ∧ t.a ≤ h.things - 1) ∧ (0 ≤ t.b ∧ t.b ≤ h.things - 1) ∧ t.a ≠ t.b ∧ (0 ≤ t.lo ∧ t.lo ≤ h.last) ∧ (0 ≤ t.hi ∧ t.hi ≤ h.last) ∧ t.lo ≤ t.hi := by
  unfold touchOk isThing isHour
  simp only [Bool.and_eq_true, Bool.not_eq_true', decide_eq_true_eq, decide_eq_false_iff_not]
  constructor
  · rintro ⟨⟨⟨⟨⟨a, b⟩, c⟩, d⟩, e⟩, f⟩; exact ⟨a, b, c, d, e, f⟩
  · rintro ⟨a, b, c, d, e, f⟩; exact ⟨⟨⟨⟨⟨a, b⟩, c⟩, d⟩, e⟩, f⟩
theorem ValidH.sizes {h : House} (hV : ValidH h) : ∀ t ∈ h.touches, t.lo ≤ t.hi := fun t ht => by
  obtain ⟨i, hi, rfl⟩ := List.mem_iff_getElem.1 ht
  have := (touchOk_iff.1 (hV.touch i hi)).2.2.2.2.2
  rwa [List.getD_eq_getElem?_getD, List.getElem?_eq_getElem hi] at this
theorem ValidH.manyPos {h : House} (hV : ValidH h) : 1 ≤ Go.Proofs.Ytdnbkjgbehakpaa.many h.table := by
  have h1 : allOwners h.table ≠ [] := fun e => hV.some (by unfold ask; rw [e]; rfl)
  have h2 := (allOwners_many hV.table.many).1
  have h3 := List.length_pos_iff.2 h1
  omega
theorem times_pos {h : House} (hs : ∀ t ∈ h.touches, t.lo ≤ t.hi) : 1 ≤ times h := by
  have h1 := prodL_pos hs
  have h2 := times_prod hs
  omega
theorem ValidH.times {h : House} (hV : ValidH h) : times h ≤ 2000 := by
  have h1 := hV.manyPos
  have h2 := times_pos hV.sizes
  have h3 := hV.many
  have h4 : 1 * Go.Proofs.Ytdnbkjgbehakpaa.times h ≤ Go.Proofs.Ytdnbkjgbehakpaa.many h.table * Go.Proofs.Ytdnbkjgbehakpaa.times h := Int.mul_le_mul_of_nonneg_right h1 (by omega)
  omega
theorem ValidH.mem {h : House} (hV : ValidH h) {c : Course} : c ∈ courses h ↔ c ∈ scenes h := by
  rw [mem_courses hV.table hV.sizes hV.times]; exact mem_scenes.symm
theorem right6_bit (h : House) (c : Course) (i : Nat) : (right6 h c).testBit i = (decide (i < h.signs.length) && signS h.signs (lastN h c []) i) := bset_bit ..
theorem right_full6 {h : House} {c : Course} : right6 h c = full6 h ↔ rightBut6 h.signs (lastN h c []) [] = true := by
  rw [rightNil_iff6]
  constructor
  · intro e i hi
    have := congrArg (fun x => x.testBit i) e
    simp only [right6_bit, full6, testBit_full, hi, decide_true, Bool.true_and] at this
    exact this
  · intro e
    apply Nat.eq_of_testBit_eq
    intro i
    rw [right6_bit, full6, testBit_full]
    by_cases hi : i < h.signs.length
    · rw [e i hi]; simp
    · simp [hi]
theorem ValidH.truths {h : House} (hV : ValidH h) {c : Course} : c ∈ truths6 h ↔ c ∈ ask6 h := by
  unfold truths6 ask6
  rw [List.mem_filter, List.mem_filter, hV.mem, decide_eq_true_eq, right_full6]
/-- A verdict. -/
def verdictL (l : List Course) (f : Course → Bool) : Int := if l.countP f = l.length then 1 else if l.countP f = 0 then 2 else 3
theorem verdict_one {l : List Course} {f : Course → Bool} : verdictL l f = 1 ↔ ∀ c ∈ l, f c = true := by
  unfold verdictL
  rw [← List.countP_eq_length]
  split
  · rename_i h; simp [h]
  · rename_i h
    split <;> simp [h]
theorem verdict_two {l : List Course} {f : Course → Bool} (h0 : l ≠ []) : verdictL l f = 2 ↔ ∀ c ∈ l, f c = false := by
  unfold verdictL
  have hz : l.countP f = 0 ↔ ∀ c ∈ l, f c = false := by rw [List.countP_eq_zero]; simp
  have hl := List.length_pos_iff.2 h0
  rw [← hz]
  split
  · rename_i h
    exact ⟨fun e => absurd e (by decide), fun e => by omega⟩
  · split
    · rename_i h; simp [h]
    · rename_i h; simp [h]
theorem verdict_cases (l : List Course) (f : Course → Bool) : verdictL l f = 1 ∨ verdictL l f = 2 ∨ verdictL l f = 3 := by
  unfold verdictL
  split
  · exact .inl rfl
  · split
    · exact .inr (.inl rfl)
    · exact .inr (.inr rfl)
/-- A house with other signs. -/
def withSigns (h : House) (ss : List Sign) : House := ⟨h.table, h.sick, h.others, h.last, h.touches, h.boiled, ss⟩
theorem withSigns_valid {h : House} (hV : ValidH h) {ss : List Sign} (h5 : ss.length ≤ 5) (hs : ∀ i, i < ss.length → signOk h (ss.getD i default) = true) : ValidH (withSigns h ss) := by
  obtain ⟨a, b, c, d, e, f, g, i, j, k, l, m⟩ := hV
  exact ⟨a, b, c, d, e, f, h5, i, j, k, hs, m⟩
theorem signs_take {ss : List Sign} {k i : Nat} (h : i < k) : (ss.take k).getD i default = ss.getD i default := by
  rw [List.getD_eq_getElem?_getD, List.getD_eq_getElem?_getD, List.getElem?_take, if_pos h]
/-- Can the first signs be right? -/
def firstQ6 (h : House) (k : Nat) : Bool := possible6 (withSigns h (h.signs.take (k + 1))) []
def first6N (h : House) : Nat := fstNo (firstQ6 h) h.signs.length
def first6V (h : House) : Int × Int := if fault6 h ≠ 0 then (0, fault6 h) else if first6N h < h.signs.length then ((first6N h : Int), 0) else (0, 7)
/-- What must be left out. -/
def leave6 (h : House) : Option (List Int) := setAll (possible6 h) h.signs.length
/-! ### Sets of things -/
theorem without_le (x y : Nat) : without x y ≤ x := Nat.and_le_left
theorem boilN_spec {bs : List Boil} {hour s : Nat} (hs : s < 2 ^ 64) : ∀ n, n ≤ 60 → boilN bs hour s n ≤ s ∧ ∀ i, (boilN bs hour s n).testBit i = (s.testBit i && !(decide (i < n) && isBoiled bs (i : Int) (hour : Int)))
  | 0, _ => ⟨Nat.le_refl _, fun i => by simp [boilN]⟩
  | n + 1, hn => by
    obtain ⟨h1, h2⟩ := boilN_spec (bs := bs) (hour := hour) hs n (by omega)
    simp only [boilN]
    have hp : 2 ^ n < 2 ^ 64 := Nat.pow_lt_pow_right (by omega) (by omega)
    have hd : ∀ i, i ≠ n → decide (i < n + 1) = decide (i < n) := fun i hi => by
      by_cases h : i < n
      · rw [decide_eq_true h, decide_eq_true (by omega)]
      · rw [decide_eq_false h, decide_eq_false (by omega)]
    split
    · rename_i hb
      refine ⟨Nat.le_trans (without_le _ _) h1, fun i => ?_⟩
      by_cases hi : i < 64
      · rw [without_bit hp hi, h2, Nat.testBit_two_pow]
        by_cases e : n = i
        · subst e
          rw [hb]; simp
        · rw [decide_eq_false e, hd i (fun h => e h.symm)]; simp
      · have h3 : s < 2 ^ i := Nat.lt_of_lt_of_le hs (Nat.pow_le_pow_right (by omega) (by omega))
        rw [Nat.testBit_lt_two_pow h3, Nat.testBit_lt_two_pow (Nat.lt_of_le_of_lt (Nat.le_trans (without_le _ _) h1) h3)]; rfl
    · rename_i hb
      refine ⟨h1, fun i => ?_⟩
      rw [h2]
      by_cases e : i = n
      · subst e
        have : isBoiled bs (i : Int) (hour : Int) = false := by simpa using hb
        rw [this]; simp
      · rw [hd i e]
/-- All things of touches are below a number. -/
def TouchLt (ts : List Touch) (W : Nat) : Prop := ∀ i, i < ts.length → (ts.getD i default).a.toNat < W ∧ (ts.getD i default).b.toNat < W
theorem touchN_lt {ts : List Touch} {W : Nat} (h : TouchLt ts W) {c : Course} {hour s : Nat} (hs : s < 2 ^ W) : ∀ k, k ≤ ts.length → touchN ts c hour s k < 2 ^ W
  | 0, _ => hs
  | k + 1, hk => by
    have ih := touchN_lt h (c := c) (hour := hour) hs k (by omega)
    obtain ⟨h1, h2⟩ := h k (by omega)
    simp only [touchN]
    split
    · exact Nat.or_lt_two_pow ih (Nat.or_lt_two_pow (Nat.pow_lt_pow_right (by omega) h1) (Nat.pow_lt_pow_right (by omega) h2))
    · exact ih
theorem carN_lt {sick : List Int} {ts : List Touch} {th : Nat} {c : Course} {bs : List Boil} (h60 : th ≤ 60) (ht : TouchLt ts th) (hc : c.owners.length ≤ th) : ∀ k, carN sick ts th c bs k < 2 ^ th
  | 0 => Nat.lt_of_lt_of_le (bset_lt _ _) (Nat.pow_le_pow_right (by omega) hc)
  | k + 1 => by
    have ih := carN_lt (sick := sick) (bs := bs) h60 ht hc k
    refine touchN_lt ht ?_ _ (Nat.le_refl _)
    exact Nat.lt_of_le_of_lt (boilN_spec (Nat.lt_of_lt_of_le ih (Nat.pow_le_pow_right (by omega) (by omega))) th h60).1 ih
theorem ValidH.touchLt {h : House} (hV : ValidH h) : TouchLt h.touches h.th := fun i hi => by
  have := touchOk_iff.1 (hV.touch i hi)
  unfold House.th
  omega
theorem ValidH.th {h : House} (hV : ValidH h) : (h.th : Int) = h.things ∧ h.np ≤ h.th ∧ h.th ≤ 10 := by
  have h1 := hV.others
  unfold House.th
  unfold House.things at *
  omega
theorem scene_len {h : House} {c : Course} (hc : c ∈ scenes h) : c.owners.length = h.np := ask_lens (mem_scenes.1 hc).owners
theorem lastN_lt {h : House} (hV : ValidH h) {c : Course} (hc : c.owners.length = h.np) (more : List Boil) : lastN h c more < 2 ^ h.th := carN_lt (by have := hV.th; omega) hV.touchLt (by rw [hc]; exact hV.th.2.1) _
/-! ### Safety -/
def safeB (h : House) (c : Course) (s : Nat) : Bool := !ex h.np fun i => s.testBit i && !decide (c.owners.getD i 0 ∈ h.sick)
theorem safeB_iff {h : House} {c : Course} {s : Nat} : safeB h c s = true ↔ ∀ i, i < h.np → s.testBit i = true → c.owners.getD i 0 ∈ h.sick := by
  unfold safeB
  rw [Bool.not_eq_true', ex_no]
  constructor
  · intro e i hi hb
    have := e i hi
    rw [hb] at this
    simpa using this
  · intro e i hi
    cases hb : s.testBit i with
    | false => rfl
    | true => simpa using e i hi hb
def safeL (h : House) (l : List Course) (more : List Boil) : Bool := !ex l.length fun i => !safeB h (l.getD i default) (lastN h (l.getD i default) more)
theorem safeL_iff {h : House} {l : List Course} {more : List Boil} : safeL h l more = true ↔ ∀ c ∈ l, safeB h c (lastN h c more) = true := by
  unfold safeL
  rw [Bool.not_eq_true', ex_no]
  constructor
  · intro e c hc
    obtain ⟨i, hi, rfl⟩ := of_memc hc
    simpa using e i hi
  · intro e i hi
    simpa using e _ (getDc hi)
def atL (x : List Int) (hour : Int) : List Boil := x.map fun n => ⟨n, hour⟩
def rowL (x : List Int) (hour : Int) : List Boil := (List.range x.length).map fun i => ⟨x.getD i 0, hour + (i : Int)⟩
def boil6 (h : House) (hour : Int) : Option (List Int) := setAll (fun x => safeL h (ask6 h) (atL x hour)) h.th
def longest (h : House) (hour : Int) : Int := min 3 (h.last - hour + 1)
def order6 (h : House) (hour : Int) : Option (List Int) := seqAll (fun x => safeL h (ask6 h) (rowL x hour)) h.th ((longest h hour).toNat + 1)
theorem isBoiled_iff {bs : List Boil} {x y : Int} : isBoiled bs x y = true ↔ ⟨x, y⟩ ∈ bs := by
  unfold isBoiled
  rw [ex_iff]
  constructor
  · rintro ⟨i, hi, e⟩
    simp only [Bool.and_eq_true, decide_eq_true_eq] at e
    rw [← e.1, ← e.2]
    show bs.getD i default ∈ bs
    rw [List.getD_eq_getElem?_getD, List.getElem?_eq_getElem hi]; exact List.getElem_mem hi
  · intro hm
    obtain ⟨i, hi, e⟩ := List.mem_iff_getElem.1 hm
    refine ⟨i, hi, ?_⟩
    rw [List.getD_eq_getElem?_getD, List.getElem?_eq_getElem hi, Option.getD_some, e]; simp
end Go.Proofs.Ytdnbkjgbehakpaa
