/- Plain law: the first wrong count, and the smallest set. -/
import Derived.Test.YtbmohbeocnfefaaP8
import Derived.Test.YtbmohbeocnfefaaT22
namespace Go.Proofs.Ytbmohbeocnfefaa
open Go Go.Eng Go.RowKit

/-! ### Sets by bits -/
theorem mem_wrongP {t : Table} {l : List Int} {x : Int} : x ∈ wrongP t l ↔ ∃ i : Nat, i < t.women.length ∧ rightP t l i = false ∧ x = i := by
  unfold wrongP; rw [mem_sel]; simp
theorem rightBut_iff {t : Table} {out l : List Int} : rightBut t out l = true ↔ ∀ i : Nat, i < t.women.length → rightP t l i = false → (i : Int) ∈ out := by
  unfold rightBut
  rw [Bool.not_eq_true', ex_no]
  constructor
  · intro h i hi hr
    have hm : (i : Int) ∈ wrongP t l := mem_wrongP.2 ⟨i, hi, hr, rfl⟩
    obtain ⟨j, hj, e⟩ := getD_of_mem hm
    have := h j hj
    rw [e] at this
    simpa using this
  · intro h j hj
    obtain ⟨i, hi, hr, e⟩ := mem_wrongP.1 (mem_getD hj)
    rw [e]
    simpa using h i hi hr
theorem possible_iff {t : Table} {out : List Int} : possibleB t out = true ↔ ∃ l ∈ allOwners t, rightBut t out l = true := by
  unfold possibleB
  rw [ex_iff]
  constructor
  · rintro ⟨k, hk, h⟩
    refine ⟨_, ?_, h⟩
    rw [List.getD_eq_getElem?_getD, List.getElem?_eq_getElem hk]; exact List.getElem_mem hk
  · rintro ⟨l, hl, h⟩
    obtain ⟨k, hk, rfl⟩ := List.mem_iff_getElem.1 hl
    exact ⟨k, hk, by rw [List.getD_eq_getElem?_getD, List.getElem?_eq_getElem hk]; exact h⟩
theorem rights_eq {t : Table} (h : Valid t) : rights t = (allOwners t).map (right t) := by
  rw [allOwners_eq h, List.map_map]; rfl
theorem can_iff {ns : List Nat} {w : Nat} : can ns w = true ↔ ∃ n ∈ ns, n &&& w = w := by
  unfold can
  rw [ex_iff]
  constructor
  · rintro ⟨i, hi, h⟩
    refine ⟨ns.getD i 0, ?_, of_decide_eq_true h⟩
    rw [List.getD_eq_getElem?_getD, List.getElem?_eq_getElem hi]; exact List.getElem_mem hi
  · rintro ⟨n, hn, h⟩
    obtain ⟨i, hi, rfl⟩ := List.mem_iff_getElem.1 hn
    exact ⟨i, hi, by rw [List.getD_eq_getElem?_getD, List.getElem?_eq_getElem hi]; exact decide_eq_true h⟩
theorem and_eq_iff {x w : Nat} : x &&& w = w ↔ ∀ i, w.testBit i = true → x.testBit i = true := by
  constructor
  · intro h i hi
    have := congrArg (fun n => Nat.testBit n i) h
    simp only [Nat.testBit_and, hi, Bool.and_true] at this
    exact this
  · intro h
    apply Nat.eq_of_testBit_eq
    intro i
    rw [Nat.testBit_and]
    cases hw : w.testBit i with
    | false => simp
    | true => simp [h i hw]
theorem poss_can {t : Table} (hV : Valid t) {out : List Int} {w : Nat} (hw : ∀ i : Nat, w.testBit i = (decide (i < t.women.length) && !decide ((i : Int) ∈ out))) : possibleB t out = can (rights t) w := by
  rw [Bool.eq_iff_iff, possible_iff, can_iff, rights_eq hV]
  have key : ∀ l, rightBut t out l = true ↔ right t l &&& w = w := fun l => by
    rw [rightBut_iff, and_eq_iff]
    constructor
    · intro h i hi
      rw [hw] at hi
      simp only [Bool.and_eq_true, decide_eq_true_eq, Bool.not_eq_true', decide_eq_false_iff_not] at hi
      unfold right
      rw [bset_bit]
      simp only [Bool.and_eq_true, decide_eq_true_eq]
      refine ⟨hi.1, ?_⟩
      cases hr : rightP t l i with
      | true => rfl
      | false => exact absurd (h i hi.1 hr) hi.2
    · intro h i hi hr
      refine Classical.byContradiction fun hn => ?_
      have := h i (by rw [hw]; simp [hi, hn])
      unfold right at this
      rw [bset_bit, hr] at this
      simp at this
  constructor
  · rintro ⟨l, hl, h⟩
    exact ⟨_, List.mem_map.2 ⟨l, hl, rfl⟩, (key l).1 h⟩
  · rintro ⟨n, hn, h⟩
    obtain ⟨l, hl, rfl⟩ := List.mem_map.1 hn
    exact ⟨l, hl, (key l).2 h⟩
theorem mem_bits {k i : Nat} : (i : Int) ∈ bits k ↔ i < 64 ∧ k.testBit i = true := by
  unfold bits
  rw [mem_sel]
  constructor
  · rintro ⟨j, h1, h2, e⟩
    have : i = j := by omega
    subst this; exact ⟨h1, h2⟩
  · rintro ⟨h1, h2⟩; exact ⟨i, h1, h2, rfl⟩
/-! ### The smallest set -/
/-- Increasing, from one number on, below another one. -/
def Inc (W : Nat) : Int → List Int → Prop
  | _, [] => True
  | s, x :: d => s ≤ x ∧ x < W ∧ Inc W (x + 1) d
theorem Inc.len {W : Nat} : ∀ {s : Int} {d : List Int}, Inc W s d → d = [] ∨ s + d.length ≤ W
  | _, [], _ => .inl rfl
  | s, x :: d, ⟨h1, h2, h3⟩ => .inr (by
    rcases Inc.len h3 with rfl | h
    · simp; omega
    · simp only [List.length_cons]; omega)
theorem fsome_spec {α : Type} {f : Nat → Option α} : ∀ {n s : Nat}, match fsome f s n with
    | none => ∀ i, s ≤ i → i < s + n → f i = none
    | some x => ∃ i, s ≤ i ∧ i < s + n ∧ f i = some x ∧ ∀ j, s ≤ j → j < i → f j = none
  | 0, s => fun i h1 h2 => by omega
  | n + 1, s => by
    simp only [fsome]
    cases hf : f s with
    | some x => exact ⟨s, Nat.le_refl _, by omega, hf, fun j h1 h2 => by omega⟩
    | none =>
      have ih := fsome_spec (f := f) (n := n) (s := s + 1)
      dsimp only
      cases hr : fsome f (s + 1) n with
      | none =>
        rw [hr] at ih
        intro i h1 h2
        rcases Nat.eq_or_lt_of_le h1 with rfl | h3
        · exact hf
        · exact ih i h3 (by omega)
      | some x =>
        rw [hr] at ih
        obtain ⟨i, h1, h2, h3, h4⟩ := ih
        refine ⟨i, by omega, by omega, h3, fun j h5 h6 => ?_⟩
        rcases Nat.eq_or_lt_of_le h5 with rfl | h7
        · exact hf
        · exact h4 j h7 h6
theorem leaveR_none {t : Table} : ∀ {m : Nat} {out : List Int} {s : Nat}, leaveR t m out s = none → ∀ d : List Int, d.length = m → Inc t.women.length s d → possibleB t (out ++ d) = false
  | 0, out, s, h, d, hd, _ => by
    have : d = [] := List.length_eq_zero_iff.1 hd
    subst this
    simp only [leaveR] at h
    split at h
    · cases h
    · rename_i hn; rw [List.append_nil]; simpa using hn
  | m + 1, out, s, h, d, hd, hi => by
    match d, hi with
    | x :: d, ⟨h1, h2, h3⟩ =>
      obtain ⟨y, rfl⟩ : ∃ y : Nat, x = y := ⟨x.toNat, by omega⟩
      simp only [List.length_cons, Nat.add_right_cancel_iff] at hd
      have hsp := fsome_spec (f := fun i => leaveR t m (out ++ [(i : Int)]) (i + 1)) (n := t.women.length - m - s) (s := s)
      simp only [leaveR] at h
      rw [h] at hsp
      have hy : y < t.women.length - m := by
        rcases h3.len with h4 | h4
        · subst h4; simp at hd; omega
        · omega
      have := leaveR_none (hsp y (by omega) (by omega)) d hd (by simpa using h3)
      simpa using this
theorem leaveR_some {t : Table} : ∀ {m : Nat} {out : List Int} {s : Nat} {c : List Int}, leaveR t m out s = some c → ∃ d, c = out ++ d ∧ d.length = m ∧ Inc t.women.length s d ∧ possibleB t c = true ∧
      ∀ d' : List Int, d'.length = m → Inc t.women.length s d' → possibleB t (out ++ d') = true → before d' d = false
  | 0, out, s, c, h => by
    simp only [leaveR] at h
    split at h
    · rename_i hp
      cases h
      refine ⟨[], by simp, rfl, trivial, hp, fun d' hd' _ _ => ?_⟩
      have : d' = [] := List.length_eq_zero_iff.1 hd'
      subst this; rfl
    · cases h
  | m + 1, out, s, c, h => by
    have hsp := fsome_spec (f := fun i => leaveR t m (out ++ [(i : Int)]) (i + 1)) (n := t.women.length - m - s) (s := s)
    simp only [leaveR] at h
    rw [h] at hsp
    obtain ⟨i, h1, h2, h3, h4⟩ := hsp
    obtain ⟨d, e, hd, hi, hp, hb⟩ := leaveR_some h3
    refine ⟨(i : Int) :: d, by rw [e]; simp, by simp [hd], ⟨by omega, by omega, by simpa using hi⟩, hp, ?_⟩
    rintro (_ | ⟨x, d'⟩) hd' hi' hp'
    · cases hd'
    obtain ⟨k1, k2, k3⟩ := hi'
    obtain ⟨y, rfl⟩ : ∃ y : Nat, x = y := ⟨x.toNat, by omega⟩
    simp only [List.length_cons, Nat.add_right_cancel_iff] at hd'
    have hp2 : possibleB t (out ++ [(y : Int)] ++ d') = true := by simpa using hp'
    simp only [before]
    rcases Nat.lt_trichotomy y i with h5 | h5 | h5
    · have := leaveR_none (h4 y (by omega) h5) d' hd' (by simpa using k3)
      rw [this] at hp2; cases hp2
    · subst h5
      rw [if_pos rfl]
      exact hb d' hd' (by simpa using k3) hp2
    · rw [if_neg (by omega)]
      exact decide_eq_false (by omega)
/-- The bits of a set. -/
def maskOf (W : Nat) (d : List Int) : Nat := bset W fun i => decide ((i : Int) ∈ d)
theorem Inc.ge {W : Nat} : ∀ {s : Int} {d : List Int}, Inc W s d → ∀ x ∈ d, s ≤ x ∧ x < W
  | _, [], _, _, hx => by cases hx
  | s, y :: d, ⟨h1, h2, h3⟩, x, hx => by
    rcases List.mem_cons.1 hx with rfl | hx
    · exact ⟨h1, h2⟩
    · have := Inc.ge h3 x hx; omega
theorem Inc.pairwise {W : Nat} : ∀ {s : Int} {d : List Int}, Inc W s d → d.Pairwise (· < ·)
  | _, [], _ => .nil
  | _, _ :: _, ⟨_, _, h3⟩ => List.pairwise_cons.2 ⟨fun y hy => by have := h3.ge y hy; omega, h3.pairwise⟩
theorem inc_of {W : Nat} : ∀ {s : Int} {d : List Int}, d.Pairwise (· < ·) → (∀ x ∈ d, s ≤ x ∧ x < W) → Inc W s d
  | _, [], _, _ => trivial
  | s, x :: d, hp, h => by
    obtain ⟨h1, h2⟩ := List.pairwise_cons.1 hp
    exact ⟨(h x (.head _)).1, (h x (.head _)).2, inc_of h2 fun y hy => ⟨by have := h1 y hy; omega, (h y (.tail _ hy)).2⟩⟩
/-- Increasing lists with the same elements are the same. -/
theorem inc_ext : ∀ {a b : List Int}, a.Pairwise (· < ·) → b.Pairwise (· < ·) → (∀ x, x ∈ a ↔ x ∈ b) → a = b
  | [], [], _, _, _ => rfl
  | [], y :: b, _, _, h => absurd ((h y).2 (.head _)) (by simp)
  | x :: a, [], _, _, h => absurd ((h x).1 (.head _)) (by simp)
  | x :: a, y :: b, ha, hb, h => by
    obtain ⟨a1, a2⟩ := List.pairwise_cons.1 ha
    obtain ⟨b1, b2⟩ := List.pairwise_cons.1 hb
    have hxy : x = y := by
      rcases List.mem_cons.1 ((h x).1 (.head _)) with e | h1
      · exact e
      · rcases List.mem_cons.1 ((h y).2 (.head _)) with e | h2
        · exact e.symm
        · have := a1 y h2; have := b1 x h1; omega
    subst hxy
    rw [inc_ext a2 b2 fun z => ?_]
    constructor
    · intro hz
      rcases List.mem_cons.1 ((h z).1 (.tail _ hz)) with rfl | h1
      · have := a1 z hz; omega
      · exact h1
    · intro hz
      rcases List.mem_cons.1 ((h z).2 (.tail _ hz)) with rfl | h1
      · have := b1 z hz; omega
      · exact h1
theorem bits_pairwise (k : Nat) : (bits k).Pairwise (· < ·) := sel_pairwise _ _
theorem bits_inc {t : Table} (_ : t.women.length ≤ 50) {k : Nat} (hk : k ≤ full t) : Inc t.women.length 0 (bits k) := by
  refine inc_of (bits_pairwise k) fun x hx => ?_
  obtain ⟨i, hi, hb, rfl⟩ := mem_sel.1 hx
  have hp : 0 < 2 ^ t.women.length := Nat.two_pow_pos _
  have hlt : k < 2 ^ t.women.length := by unfold full at hk; omega
  have : i < t.women.length := by
    refine Classical.byContradiction fun hn => ?_
    have := Nat.testBit_lt_two_pow (i := i) (x := k) (Nat.lt_of_lt_of_le hlt (Nat.pow_le_pow_right (by omega) (by omega)))
    rw [hb] at this; cases this
  omega
theorem maskOf_le {t : Table} (d : List Int) : maskOf t.women.length d ≤ full t := by
  have := bset_lt (fun i => decide ((i : Int) ∈ d)) t.women.length
  unfold maskOf full; omega
theorem bits_mask {t : Table} (hw : t.women.length ≤ 50) {d : List Int} (h : Inc t.women.length 0 d) : bits (maskOf t.women.length d) = d := by
  refine inc_ext (bits_pairwise _) h.pairwise fun x => ?_
  constructor
  · intro hx
    obtain ⟨i, hi, hb, rfl⟩ := mem_sel.1 hx
    unfold maskOf at hb
    rw [bset_bit] at hb
    simp only [Bool.and_eq_true, decide_eq_true_eq] at hb
    exact hb.2
  · intro hx
    have h1 := h.ge x hx
    obtain ⟨i, rfl⟩ : ∃ i : Nat, x = i := ⟨x.toNat, by omega⟩
    refine mem_bits.2 ⟨by omega, ?_⟩
    unfold maskOf
    rw [bset_bit]
    simp only [Bool.and_eq_true, decide_eq_true_eq]
    exact ⟨by omega, hx⟩
theorem full_lt64 {t : Table} (hw : t.women.length ≤ 50) : full t < 2 ^ 64 := by
  have : 2 ^ t.women.length ≤ 2 ^ 50 := Nat.pow_le_pow_right (by omega) hw
  unfold full; omega
theorem bits_can {t : Table} (hV : Valid t) {k : Nat} (hk : k ≤ full t) : possibleB t (bits k) = can (rights t) (without (full t) k) := by
  have hw : t.women.length ≤ 50 := by have := hV.women; omega
  refine poss_can hV fun i => ?_
  by_cases hi : i < 64
  · rw [without_bit (Nat.lt_of_le_of_lt hk (full_lt64 hw)) hi]
    unfold full
    rw [testBit_full]
    congr 1
    rw [Bool.eq_iff_iff]
    simp [mem_bits, hi]
  · have h1 : without (full t) k < 2 ^ 64 := by
      unfold without
      exact Nat.lt_of_le_of_lt Nat.and_le_left (full_lt64 hw)
    rw [Nat.testBit_lt_two_pow (Nat.lt_of_lt_of_le h1 (Nat.pow_le_pow_right (by omega) (by omega)))]
    have : ¬ i < t.women.length := by omega
    simp [this]
theorem owners_some {t : Table} (hV : Valid t) : ∃ l, l ∈ allOwners t := by
  have h : 0 < (allOwners t).length := by
    rw [allOwners_prod]
    have : ∀ k, k ≤ t.pieces.length → 0 < prodTo t k := by
      intro k
      induction k with
      | zero => intro _; simp [prodTo]
      | succ k ih => intro hk; rw [prodTo_succ]; exact Nat.mul_pos (ih (by omega)) (hV.owned k (by omega))
    exact this _ (Nat.le_refl _)
  exact ⟨_, List.getElem_mem h⟩
/-- A list is the smallest set. -/
structure Small (t : Table) (r : List Int) : Prop where
  set : ∃ k, k ≤ full t ∧ bits k = r
  can : possibleB t r = true
  least : ∀ k, k ≤ full t → possibleB t (bits k) = true → shorter (bits k) r = false
theorem Small.unique {t : Table} {a b : List Int} (ha : Small t a) (hb : Small t b) : a = b := by
  refine Classical.byContradiction fun hne => ?_
  obtain ⟨i, hi, ei⟩ := ha.set
  obtain ⟨j, hj, ej⟩ := hb.set
  rcases shorter_total hne with h | h
  · have := hb.least i hi (by rw [ei]; exact ha.can)
    rw [ei, h] at this; cases this
  · have := ha.least j hj (by rw [ej]; exact hb.can)
    rw [ej, h] at this; cases this
theorem full_can {t : Table} (hV : Valid t) : possibleB t (bits (full t)) = true := by
  obtain ⟨l, hl⟩ := owners_some hV
  refine possible_iff.2 ⟨l, hl, rightBut_iff.2 fun i hi _ => mem_bits.2 ⟨by have := hV.women; omega, ?_⟩⟩
  unfold full
  rw [testBit_full]; simpa using hi
theorem leaveTo_small {t : Table} (hV : Valid t) : ∀ K, K ≤ full t + 1 → (∃ k, k ≤ full t ∧ bits k = leaveTo t (rights t) K) ∧ possibleB t (leaveTo t (rights t) K) = true ∧ ∀ k, k < K → possibleB t (bits k) = true → shorter (bits k) (leaveTo t (rights t) K) = false
  | 0, _ => ⟨⟨full t, Nat.le_refl _, rfl⟩, full_can hV, fun k hk => absurd hk (Nat.not_lt_zero _)⟩
  | K + 1, hK => by
    obtain ⟨h1, h2, h3⟩ := leaveTo_small hV K (by omega)
    have hc := bits_can hV (k := K) (by omega)
    simp only [leaveTo]
    split
    · rename_i h
      simp only [Bool.and_eq_true] at h
      rw [← hc] at h
      refine ⟨⟨K, by omega, rfl⟩, h.2, fun k hk hp => ?_⟩
      rcases Nat.lt_succ_iff_lt_or_eq.1 hk with h4 | rfl
      · rw [Bool.eq_false_iff]
        intro h5
        have := h3 k h4 hp
        rw [shorter_trans h5 h.1] at this; cases this
      · exact shorter_irrefl _
    · rename_i h
      refine ⟨h1, h2, fun k hk hp => ?_⟩
      rcases Nat.lt_succ_iff_lt_or_eq.1 hk with h4 | rfl
      · exact h3 k h4 hp
      · rw [Bool.eq_false_iff]
        intro h5
        exact h (by rw [h5, ← hc, hp]; rfl)
theorem leave03_small {t : Table} (hV : Valid t) : Small t (leave03 t (rights t)) := by
  obtain ⟨h1, h2, h3⟩ := leaveTo_small hV (full t + 1) (Nat.le_refl _)
  exact ⟨h1, h2, fun k hk => h3 k (by omega)⟩
theorem leaveAll_small {t : Table} (hV : Valid t) {c : List Int} (h : leaveAll t = some c) : Small t c := by
  have hw : t.women.length ≤ 50 := by have := hV.women; omega
  have hsp := fsome_spec (f := fun m => leaveR t m [] 0) (n := t.women.length + 1) (s := 0)
  unfold leaveAll at h
  rw [h] at hsp
  obtain ⟨m, _, h2, h3, h4⟩ := hsp
  obtain ⟨d, e, hd, hi, hp, hb⟩ := leaveR_some h3
  rw [List.nil_append] at e
  subst e
  have hi0 : Inc t.women.length 0 c := hi
  refine ⟨⟨_, maskOf_le c, bits_mask hw hi0⟩, hp, fun k hk hpk => ?_⟩
  rw [Bool.eq_false_iff]
  intro hs
  have hki := bits_inc hw hk
  rcases shorter_iff.1 hs with h5 | ⟨h5, h6⟩
  · have := leaveR_none (h4 (bits k).length (Nat.zero_le _) (by omega)) (bits k) rfl hki
    rw [List.nil_append, hpk] at this; cases this
  · have := hb (bits k) (by omega) hki (by rw [List.nil_append]; exact hpk)
    rw [h6] at this; cases this
/-- The smallest set, by both. -/
theorem leave_eq {t : Table} (hV : Valid t) : leaveAll t = some (leave03 t (rights t)) := by
  have hw : t.women.length ≤ 50 := by have := hV.women; omega
  cases h : leaveAll t with
  | some c => rw [(leaveAll_small hV h).unique (leave03_small hV)]
  | none =>
    exfalso
    have hsp := fsome_spec (f := fun m => leaveR t m [] 0) (n := t.women.length + 1) (s := 0)
    unfold leaveAll at h
    rw [h] at hsp
    have hi := bits_inc hw (Nat.le_refl (full t))
    have hl : (bits (full t)).length ≤ t.women.length := by
      rcases hi.len with h1 | h1
      · rw [h1]; simp
      · omega
    have := leaveR_none (hsp (bits (full t)).length (Nat.zero_le _) (by omega)) _ rfl hi
    rw [List.nil_append, full_can hV] at this; cases this
end Go.Proofs.Ytbmohbeocnfefaa
