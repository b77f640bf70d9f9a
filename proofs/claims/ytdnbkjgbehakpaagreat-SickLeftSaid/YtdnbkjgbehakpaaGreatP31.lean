/- Chapter 6: how the program looks for the smallest sets and the shortest orders. -/
import Derived.Test.YtdnbkjgbehakpaaGreatP30
import Derived.Test.YtdnbkjgbehakpaaGreatP9
namespace Go.Proofs.YtdnbkjgbehakpaaGreat
open Go Go.Eng Go.RowKit

/-- The first set of so many numbers more, from one on, that will do. -/
def setR (ok : List Int → Bool) (W : Nat) : Nat → List Int → Nat → Option (List Int)
  | 0, out, _ => if ok out = true then some out else none
  | m + 1, out, s => fsome (fun i => setR ok W m (out ++ [(i : Int)]) (i + 1)) s (W - m - s)
def setAll (ok : List Int → Bool) (W : Nat) : Option (List Int) := fsome (fun m => setR ok W m [] 0) 0 (W + 1)
theorem setR_none {ok : List Int → Bool} {W : Nat} : ∀ {m : Nat} {out : List Int} {s : Nat}, setR ok W m out s = none → ∀ d : List Int, d.length = m → Inc W s d → ok (out ++ d) = false
  | 0, out, s, h, d, hd, _ => by
    have : d = [] := List.length_eq_zero_iff.1 hd
    subst this
    simp only [setR] at h
    split at h
    · cases h
    · rename_i hn; rw [List.append_nil]; simpa using hn
  | m + 1, out, s, h, d, hd, hi => by
    match d, hi with
    | x :: d, ⟨h1, h2, h3⟩ =>
      obtain ⟨y, rfl⟩ : ∃ y : Nat, x = y := ⟨x.toNat, by omega⟩
      simp only [List.length_cons, Nat.add_right_cancel_iff] at hd
      have hsp := fsome_spec (f := fun i => setR ok W m (out ++ [(i : Int)]) (i + 1)) (n := W - m - s) (s := s)
      simp only [setR] at h
      rw [h] at hsp
      have hy : y < W - m := by
        rcases h3.len with h4 | h4
        · subst h4; simp at hd; omega
        · omega
      have := setR_none (hsp y (by omega) (by omega)) d hd (by simpa using h3)
      simpa using this
theorem setR_some {ok : List Int → Bool} {W : Nat} : ∀ {m : Nat} {out : List Int} {s : Nat} {c : List Int}, setR ok W m out s = some c → ∃ d, c = out ++ d ∧ d.length = m ∧ Inc W s d ∧ ok c = true ∧
      ∀ d' : List Int, d'.length = m → Inc W s d' → ok (out ++ d') = true → before d' d = false
  | 0, out, s, c, h => by
    simp only [setR] at h
    split at h
    · rename_i hp
      cases h
      refine ⟨[], by simp, rfl, trivial, hp, fun d' hd' _ _ => ?_⟩
      have : d' = [] := List.length_eq_zero_iff.1 hd'
      subst this; rfl
    · cases h
  | m + 1, out, s, c, h => by
    have hsp := fsome_spec (f := fun i => setR ok W m (out ++ [(i : Int)]) (i + 1)) (n := W - m - s) (s := s)
    simp only [setR] at h
    rw [h] at hsp
    obtain ⟨i, h1, h2, h3, h4⟩ := hsp
    obtain ⟨d, e, hd, hi, hp, hb⟩ := setR_some h3
    refine ⟨(i : Int) :: d, by rw [e]; simp, by simp [hd], ⟨by omega, by omega, by simpa using hi⟩, hp, ?_⟩
    rintro (_ | ⟨x, d'⟩) hd' hi' hp'
    · cases hd'
    obtain ⟨k1, k2, k3⟩ := hi'
    obtain ⟨y, rfl⟩ : ∃ y : Nat, x = y := ⟨x.toNat, by omega⟩
    simp only [List.length_cons, Nat.add_right_cancel_iff] at hd'
    have hp2 : ok (out ++ [(y : Int)] ++ d') = true := by simpa using hp'
    simp only [before]
    rcases Nat.lt_trichotomy y i with h5 | h5 | h5
    · have := setR_none (h4 y (by omega) h5) d' hd' (by simpa using k3)
      rw [this] at hp2; cases hp2
    · subst h5
      rw [if_pos rfl]
      exact hb d' hd' (by simpa using k3) hp2
    · rw [if_neg (by omega)]
      exact decide_eq_false (by omega)
/-- The least of the increasing lists that will do. -/
structure LeastS (ok : List Int → Bool) (W : Nat) (c : List Int) : Prop where
  inc : Inc W 0 c
  is : ok c = true
  no : ∀ d, Inc W 0 d → ok d = true → shorter d c = false
theorem inc_zero_len {W : Nat} {d : List Int} (h : Inc W 0 d) : d.length ≤ W := by
  rcases h.len with rfl | h
  · simp
  · omega
theorem setAll_some {ok : List Int → Bool} {W : Nat} {c : List Int} (h : setAll ok W = some c) : LeastS ok W c := by
  have hsp := fsome_spec (f := fun m => setR ok W m [] 0) (n := W + 1) (s := 0)
  unfold setAll at h
  rw [h] at hsp
  obtain ⟨m, h1, h2, h3, h4⟩ := hsp
  obtain ⟨d, e, hd, hi, hp, hb⟩ := setR_some h3
  simp only [List.nil_append] at e hb
  subst e
  refine ⟨by simpa using hi, hp, fun d' hi' hp' => ?_⟩
  cases hs : shorter d' c with
  | false => rfl
  | true =>
    rcases shorter_iff.1 hs with h5 | ⟨h5, h6⟩
    · have := setR_none (h4 d'.length (Nat.zero_le _) (by omega)) d' rfl (by simpa using hi')
      rw [List.nil_append, hp'] at this; cases this
    · have := hb d' (by omega) (by simpa using hi') hp'
      rw [h6] at this; cases this
theorem setAll_none {ok : List Int → Bool} {W : Nat} (h : setAll ok W = none) {d : List Int} (hi : Inc W 0 d) : ok d = false := by
  have hsp := fsome_spec (f := fun m => setR ok W m [] 0) (n := W + 1) (s := 0)
  unfold setAll at h
  rw [h] at hsp
  have := setR_none (hsp d.length (Nat.zero_le _) (by have := inc_zero_len hi; omega)) d rfl (by simpa using hi)
  rwa [List.nil_append] at this
theorem LeastS.unique {ok : List Int → Bool} {W : Nat} {a b : List Int} (ha : LeastS ok W a) (hb : LeastS ok W b) : a = b := by
  refine Classical.byContradiction fun hne => ?_
  rcases shorter_total hne with h | h
  · rw [hb.no a ha.inc ha.is] at h; cases h
  · rw [ha.no b hb.inc hb.is] at h; cases h
/-- Of all sets by bits the first of the least, as the reference looks for it. -/
def leastTo (ok : List Int → Bool) (W : Nat) : Nat → List Int
  | 0 => bits (2 ^ W - 1)
  | k + 1 => if shorter (bits k) (leastTo ok W k) = true ∧ ok (bits k) = true then bits k else leastTo ok W k
theorem leastTo_spec {ok : List Int → Bool} {W : Nat} (h0 : ok (bits (2 ^ W - 1)) = true) : ∀ k, k ≤ 2 ^ W → (∃ j, j < 2 ^ W ∧ leastTo ok W k = bits j) ∧ ok (leastTo ok W k) = true ∧ ∀ j, j < k → ok (bits j) = true → shorter (bits j) (leastTo ok W k) = false
  | 0, _ => ⟨⟨2 ^ W - 1, by have := Nat.one_le_two_pow (n := W); omega, rfl⟩, h0, fun j hj => absurd hj (Nat.not_lt_zero _)⟩
  | k + 1, hk => by
    obtain ⟨h1, h2, h3⟩ := leastTo_spec h0 k (by omega)
    simp only [leastTo]
    by_cases h : shorter (bits k) (leastTo ok W k) = true ∧ ok (bits k) = true
    · rw [if_pos h]
      refine ⟨⟨k, by omega, rfl⟩, h.2, fun j hj hp => ?_⟩
      rcases Nat.lt_succ_iff_lt_or_eq.1 hj with h4 | rfl
      · cases hc : shorter (bits j) (bits k) with
        | false => rfl
        | true => have := shorter_trans hc h.1; rw [h3 j h4 hp] at this; cases this
      · exact shorter_irrefl _
    · rw [if_neg h]
      refine ⟨h1, h2, fun j hj hp => ?_⟩
      rcases Nat.lt_succ_iff_lt_or_eq.1 hj with h4 | rfl
      · exact h3 j h4 hp
      · cases hc : shorter (bits j) (leastTo ok W j) with
        | false => rfl
        | true => exact absurd ⟨hc, hp⟩ h
theorem bits_inc6 {W k : Nat} (hW : W ≤ 60) (hk : k < 2 ^ W) : Inc W 0 (bits k) := by
  refine inc_of (sel_pairwise _ _) fun x hx => ?_
  obtain ⟨i, h1, h2, rfl⟩ := mem_sel.1 hx
  refine ⟨by omega, ?_⟩
  have : i < W := by
    refine Classical.byContradiction fun h => ?_
    have h3 : k < 2 ^ i := Nat.lt_of_lt_of_le hk (Nat.pow_le_pow_right (by omega) (by omega))
    rw [Nat.testBit_lt_two_pow h3] at h2; cases h2
  omega
theorem inc_bits {W : Nat} {d : List Int} (hW : W ≤ 60) (hi : Inc W 0 d) : bits (maskOf W d) = d ∧ maskOf W d < 2 ^ W := by
  have hlt : maskOf W d < 2 ^ W := bset_lt _ _
  refine ⟨inc_ext (sel_pairwise _ _) hi.pairwise fun x => ?_, hlt⟩
  constructor
  · intro hx
    obtain ⟨i, h1, h2, rfl⟩ := mem_sel.1 hx
    unfold maskOf at h2
    rw [bset_bit] at h2
    simp only [Bool.and_eq_true, decide_eq_true_eq] at h2
    exact h2.2
  · intro hx
    have h1 := hi.ge x hx
    obtain ⟨y, rfl⟩ : ∃ y : Nat, x = y := ⟨x.toNat, by omega⟩
    refine mem_bits.2 ⟨by omega, ?_⟩
    unfold maskOf
    rw [bset_bit]
    simp only [Bool.and_eq_true, decide_eq_true_eq]
    exact ⟨by omega, hx⟩
theorem leastTo_least {ok : List Int → Bool} {W : Nat} (hW : W ≤ 60) (h0 : ok (bits (2 ^ W - 1)) = true) : LeastS ok W (leastTo ok W (2 ^ W)) := by
  obtain ⟨⟨j, hj, e⟩, h2, h3⟩ := leastTo_spec h0 _ (Nat.le_refl _)
  refine ⟨by rw [e]; exact bits_inc6 hW hj, h2, fun d hi hp => ?_⟩
  obtain ⟨h4, h5⟩ := inc_bits hW hi
  have := h3 _ h5 (by rw [h4]; exact hp)
  rwa [h4] at this
/-- Both find the same. -/
theorem setAll_eq {ok : List Int → Bool} {W : Nat} (hW : W ≤ 60) (h0 : ok (bits (2 ^ W - 1)) = true) : setAll ok W = some (leastTo ok W (2 ^ W)) := by
  have hL := leastTo_least hW h0
  cases h : setAll ok W with
  | none => have := setAll_none h hL.inc; rw [hL.is] at this; cases this
  | some c => rw [(setAll_some h).unique hL]
/-! ### Orders -/
def seqR (ok : List Int → Bool) (W : Nat) : Nat → List Int → Option (List Int)
  | 0, out => if ok out = true then some out else none
  | m + 1, out => fsome (fun i => seqR ok W m (out ++ [(i : Int)])) 0 W
def seqAll (ok : List Int → Bool) (W n : Nat) : Option (List Int) := fsome (fun m => seqR ok W m []) 0 n
/-- Numbers below W. -/
def Below (W : Nat) (l : List Int) : Prop := ∀ x ∈ l, 0 ≤ x ∧ x < W
/-- The least of the lists that will do, of at most so many. -/
structure LeastO (ok : List Int → Bool) (W n : Nat) (c : List Int) : Prop where
  len : c.length < n
  below : Below W c
  is : ok c = true
  no : ∀ d, d.length < n → Below W d → ok d = true → shorter d c = false
end Go.Proofs.YtdnbkjgbehakpaaGreat
