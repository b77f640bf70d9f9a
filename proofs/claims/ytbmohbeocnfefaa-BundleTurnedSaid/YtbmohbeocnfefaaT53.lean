/- Two women exchanged: the plain law. -/
import Derived.Test.YtbmohbeocnfefaaT42
import Derived.Test.YtbmohbeocnfefaaT43
import Derived.Test.YtbmohbeocnfefaaT50
namespace Go.Proofs.Ytbmohbeocnfefaa
open Go Go.Eng Go.RowKit

/-- One of two numbers for the other one. -/
def sw (a b n : Nat) : Nat := if n = a then b else if n = b then a else n
theorem sw_sw (a b n : Nat) : sw a b (sw a b n) = n := by
  unfold sw
  split
  · rename_i h; subst h
    split
    · rename_i h2; exact h2
    · rw [if_pos rfl]
  · rename_i h
    split
    · rename_i h2; rw [if_pos rfl]; exact h2.symm
    · rfl
theorem sw_inj {a b m n : Nat} (h : sw a b m = sw a b n) : m = n := by rw [← sw_sw a b m, h, sw_sw]
theorem sw_lt {a b n W : Nat} (ha : a < W) (hb : b < W) : sw a b n < W ↔ n < W := by
  unfold sw
  split
  · rename_i h; subst h; exact ⟨fun _ => ha, fun _ => hb⟩
  · split
    · rename_i h; subst h; exact ⟨fun _ => hb, fun _ => ha⟩
    · exact Iff.rfl
theorem swapI_nat (a b n : Nat) : swapI (n : Int) (a : Int) (b : Int) = (sw a b n : Int) := by
  unfold swapI sw
  by_cases h : n = a
  · subst h; rw [if_pos rfl, if_pos rfl]
  · rw [if_neg (fun e => h (Int.ofNat_inj.1 e)), if_neg h]
    by_cases h2 : n = b
    · subst h2; rw [if_pos rfl, if_pos rfl]
    · rw [if_neg (fun e => h2 (Int.ofNat_inj.1 e)), if_neg h2]
theorem range_sw {a b W : Nat} (ha : a < W) (hb : b < W) : ((List.range W).map (sw a b)).Perm (List.range W) := by
  refine (List.perm_ext_iff_of_nodup ?_ List.nodup_range).2 fun n => ?_
  · exact List.pairwise_map.2 (List.nodup_range.imp fun h e => h (sw_inj e))
  · rw [List.mem_map, List.mem_range]
    constructor
    · rintro ⟨m, hm, rfl⟩; exact (sw_lt ha hb).2 (List.mem_range.1 hm)
    · intro hn; exact ⟨sw a b n, List.mem_range.2 ((sw_lt ha hb).2 hn), sw_sw a b n⟩
theorem cnt_sw {a b W : Nat} (ha : a < W) (hb : b < W) (q : Nat → Bool) : cnt W (fun i => q (sw a b i)) = cnt W q := by
  unfold cnt
  exact List.countP_map.symm.trans ((range_sw ha hb).countP_eq q)
/-- A table with two women exchanged. -/
structure Turn (a b : Nat) (t x : Table) : Prop where
  ha : a < t.women.length
  hb : b < t.women.length
  women : x.women.length = t.women.length
  pieces : x.pieces.length = t.pieces.length
  woman : ∀ i, i < t.women.length → x.women.getD (sw a b i) default = t.women.getD i default
  marks : ∀ i, (x.pieces.getD i default).marks = (t.pieces.getD i default).marks
  bundle : ∀ i, i < t.pieces.length → ∃ w : Nat, w < t.women.length ∧ (t.pieces.getD i default).bundle = w ∧ (x.pieces.getD i default).bundle = (sw a b w : Nat)
  wrong : x.wrong = t.wrong
theorem Turn.symm {a b : Nat} {t x : Table} (h : Turn a b t x) : Turn a b x t := by
  refine ⟨by rw [h.women]; exact h.ha, by rw [h.women]; exact h.hb, h.women.symm, h.pieces.symm, fun i hi => ?_, fun i => (h.marks i).symm, fun i hi => ?_, h.wrong.symm⟩
  · rw [h.women] at hi
    have := h.woman (sw a b i) ((sw_lt h.ha h.hb).2 hi)
    rw [sw_sw] at this
    exact this.symm
  · rw [h.pieces] at hi
    obtain ⟨w, h1, h2, h3⟩ := h.bundle i hi
    exact ⟨sw a b w, by rw [h.women]; exact (sw_lt h.ha h.hb).2 h1, h3, by rw [sw_sw]; exact h2⟩
theorem Turn.of {a b : Nat} {t x : Table} (h : Turn a b t x) {p w : Nat} : ((sw a b w : Nat) : Int) ∈ womenOf x p ↔ (w : Int) ∈ womenOf t p := by
  unfold womenOf
  rw [mem_sel, mem_sel]
  constructor
  · rintro ⟨i, h1, h2, e⟩
    have e : sw a b w = i := Int.ofNat_inj.1 e
    subst e
    rw [h.women, sw_lt h.ha h.hb] at h1
    rw [h.woman w h1, h.marks] at h2
    exact ⟨w, h1, h2, rfl⟩
  · rintro ⟨i, h1, h2, e⟩
    have e : w = i := Int.ofNat_inj.1 e
    subst e
    exact ⟨sw a b w, by rw [h.women]; exact (sw_lt h.ha h.hb).2 h1, by rw [h.woman w h1, h.marks]; exact h2, rfl⟩
theorem Turn.ofLen {a b : Nat} {t x : Table} (h : Turn a b t x) (p : Nat) : (womenOf x p).length = (womenOf t p).length := by
  unfold womenOf
  rw [sel_length, sel_length, h.women, ← cnt_sw h.ha h.hb]
  unfold cnt
  refine List.countP_congr fun i hi => ?_
  rw [h.woman i (List.mem_range.1 hi), h.marks]
theorem Turn.many {a b : Nat} {t x : Table} (h : Turn a b t x) : many x = many t := by
  unfold Go.Proofs.Ytbmohbeocnfefaa.many manyTo
  rw [h.pieces]
  simp only [h.ofLen]
theorem Turn.valid {a b : Nat} {t x : Table} (h : Turn a b t x) (hV : Valid t) : Valid x := by
  refine ⟨by rw [h.women]; exact hV.women, by rw [h.pieces]; exact hV.pieces, by rw [h.wrong]; exact hV.wrong, fun i hi => ?_, fun i hi => ?_, by rw [h.many]; exact hV.many⟩
  · rw [h.women] at hi
    have := h.woman (sw a b i) ((sw_lt h.ha h.hb).2 hi)
    rw [sw_sw] at this
    rw [this]
    exact hV.woman _ ((sw_lt h.ha h.hb).2 hi)
  · rw [h.pieces] at hi
    have h1 := hV.piece i hi
    obtain ⟨w, h2, h3, h4⟩ := h.bundle i hi
    unfold pieceBad at h1 ⊢
    simp only [Bool.or_eq_false_iff] at h1 ⊢
    refine ⟨⟨by rw [h.marks]; exact h1.1.1, ?_⟩, by rw [h.ofLen]; exact h1.2⟩
    rw [h4, h.women, Bool.not_eq_false']
    have := (sw_lt h.ha h.hb).2 h2
    exact decide_eq_true (by omega)
/-! ### The owners, renamed -/
theorem tails_all {t : Table} : ∀ {r : Nat} {l : List Int}, r ≤ t.pieces.length → l.length = r → (∀ i, i < r → l.getD i 0 ∈ womenOf t (t.pieces.length - r + i)) → l ∈ tails t r
  | 0, l, _, h, _ => by
    have : l = [] := List.length_eq_zero_iff.1 h
    subst this; exact .head _
  | r + 1, l, hr, h, hw => by
    match l, h with
    | w :: l', h =>
      refine List.mem_flatMap.2 ⟨w, by simpa using hw 0 (by omega), List.mem_map.2 ⟨l', tails_all (by omega) (by simpa using h) fun i hi => ?_, rfl⟩⟩
      have := hw (i + 1) (by omega)
      rw [show t.pieces.length - (r + 1) + (i + 1) = t.pieces.length - r + i by omega] at this
      simpa using this
theorem allOwners_iff {t : Table} {l : List Int} : l ∈ allOwners t ↔ areOwners t l = true := by
  refine ⟨allOwners_are, fun h => ?_⟩
  obtain ⟨h1, h2⟩ := areOwners_iff.1 h
  exact tails_all (Nat.le_refl _) h1 fun i hi => by rw [Nat.sub_self, Nat.zero_add]; exact h2 i (by omega)
def swL (a b : Nat) (l : List Int) : List Int := l.map fun x => ((sw a b x.toNat : Nat) : Int)
theorem swL_len (a b : Nat) (l : List Int) : (swL a b l).length = l.length := by simp [swL]
theorem swL_get {a b : Nat} {l : List Int} {i w : Nat} (hi : i < l.length) (hw : l.getD i 0 = (w : Int)) : (swL a b l).getD i 0 = (sw a b w : Nat) := by
  rw [List.getD_eq_getElem?_getD, List.getElem?_eq_getElem hi] at hw
  simp only [Option.getD_some] at hw
  simp [swL, List.getD_eq_getElem?_getD, List.getElem?_eq_getElem hi, hw]
theorem owners_nat {t : Table} {l : List Int} (h : areOwners t l = true) {i : Nat} (hi : i < l.length) : ∃ w : Nat, w < t.women.length ∧ l.getD i 0 = (w : Int) := by
  obtain ⟨w, h1, _, e⟩ := mem_sel.1 ((areOwners_iff.1 h).2 i hi)
  exact ⟨w, h1, e⟩
theorem Turn.are {a b : Nat} {t x : Table} (h : Turn a b t x) {l : List Int} (hl : areOwners t l = true) : areOwners x (swL a b l) = true := by
  obtain ⟨h1, h2⟩ := areOwners_iff.1 hl
  refine areOwners_iff.2 ⟨by rw [swL_len, h.pieces, h1], fun i hi => ?_⟩
  rw [swL_len] at hi
  obtain ⟨w, _, e⟩ := owners_nat hl hi
  rw [swL_get hi e, h.of, ← e]
  exact h2 i hi
theorem Turn.own {a b : Nat} {t : Table} {l : List Int} (hl : areOwners t l = true) (w : Nat) : own (swL a b l) ((sw a b w : Nat) : Int) = Go.Proofs.Ytbmohbeocnfefaa.own l w := by
  unfold Go.Proofs.Ytbmohbeocnfefaa.own
  rw [swL_len]
  unfold cnt
  refine List.countP_congr fun i hi => ?_
  obtain ⟨y, _, e⟩ := owners_nat hl (List.mem_range.1 hi)
  rw [swL_get (List.mem_range.1 hi) e, e, decide_eq_true_eq, decide_eq_true_eq, Int.ofNat_inj, Int.ofNat_inj]
  exact ⟨sw_inj, fun h => by rw [h]⟩
theorem Turn.right {a b : Nat} {t x : Table} (h : Turn a b t x) {l : List Int} (hl : areOwners t l = true) {w : Nat} (hw : w < t.women.length) : rightP x (swL a b l) (sw a b w) = rightP t l w := by
  unfold rightP
  rw [h.woman w hw, Turn.own (t := t) hl]
theorem Turn.wrongLen {a b : Nat} {t x : Table} (h : Turn a b t x) {l : List Int} (hl : areOwners t l = true) : (wrongP x (swL a b l)).length = (wrongP t l).length := by
  unfold wrongP
  rw [sel_length, sel_length, h.women, ← cnt_sw h.ha h.hb]
  unfold cnt
  refine List.countP_congr fun i hi => ?_
  rw [h.right hl (List.mem_range.1 hi)]
theorem Turn.ask {a b : Nat} {t x : Table} (h : Turn a b t x) {l : List Int} (hl : l ∈ ask t) : swL a b l ∈ Go.Proofs.Ytbmohbeocnfefaa.ask x := by
  have ha := ask_are hl
  obtain ⟨_, h2⟩ := List.mem_filter.1 hl
  refine List.mem_filter.2 ⟨allOwners_iff.2 (h.are ha), ?_⟩
  unfold isTruthP at h2 ⊢
  rw [h.wrongLen ha, h.wrong]; exact h2
theorem Turn.nil {a b : Nat} {t x : Table} (h : Turn a b t x) : Go.Proofs.Ytbmohbeocnfefaa.ask t = [] ↔ Go.Proofs.Ytbmohbeocnfefaa.ask x = [] := by
  constructor
  · intro e
    cases e2 : Go.Proofs.Ytbmohbeocnfefaa.ask x with
    | nil => rfl
    | cons l s => have := h.symm.ask (show l ∈ Go.Proofs.Ytbmohbeocnfefaa.ask x by rw [e2]; exact .head _); rw [e] at this; cases this
  · intro e
    cases e2 : Go.Proofs.Ytbmohbeocnfefaa.ask t with
    | nil => rfl
    | cons l s => have := h.ask (show l ∈ Go.Proofs.Ytbmohbeocnfefaa.ask t by rw [e2]; exact .head _); rw [e] at this; cases this
theorem Turn.askE {a b : Nat} {t x : Table} (h : Turn a b t x) (hV : Valid t) : askE x = Go.Proofs.Ytbmohbeocnfefaa.askE t := by
  rw [askE_nil hV, askE_nil (h.valid hV)]
  by_cases e : Go.Proofs.Ytbmohbeocnfefaa.ask t = []
  · rw [if_pos e, if_pos (h.nil.1 e)]
  · rw [if_neg e, if_neg (fun e2 => e (h.nil.2 e2))]
theorem Turn.aN {a b : Nat} {t x : Table} (h : Turn a b t x) {l : List Int} (hl : areOwners t l = true) : aN x (swL a b l) = Go.Proofs.Ytbmohbeocnfefaa.aN t l := by
  unfold Go.Proofs.Ytbmohbeocnfefaa.aN astray
  rw [sel_length, sel_length, swL_len]
  refine congrArg Int.ofNat ?_
  unfold cnt
  refine List.countP_congr fun i hi => ?_
  have hi := List.mem_range.1 hi
  obtain ⟨y, _, e⟩ := owners_nat hl hi
  obtain ⟨w, _, h2, h3⟩ := h.bundle i (by rw [← (areOwners_iff.1 hl).1]; exact hi)
  rw [swL_get hi e, e, h2, h3]
  simp only [Bool.not_eq_true', decide_eq_false_iff_not, Int.ofNat_inj]
  exact ⟨fun hn e => hn (by rw [e]), fun hn e => hn (sw_inj e)⟩
theorem Turn.lo_le {a b : Nat} {t x : Table} (h : Turn a b t x) (h0 : Go.Proofs.Ytbmohbeocnfefaa.ask t ≠ []) : loQ (Go.Proofs.Ytbmohbeocnfefaa.aN x) (Go.Proofs.Ytbmohbeocnfefaa.ask x) (Go.Proofs.Ytbmohbeocnfefaa.ask x).length ≤ loQ (Go.Proofs.Ytbmohbeocnfefaa.aN t) (Go.Proofs.Ytbmohbeocnfefaa.ask t) (Go.Proofs.Ytbmohbeocnfefaa.ask t).length := by
  refine (le_loA (g := Go.Proofs.Ytbmohbeocnfefaa.aN t) h0).2 fun l hl => ?_
  rw [← h.aN (ask_are hl)]
  exact (le_loA (g := Go.Proofs.Ytbmohbeocnfefaa.aN x) (c := loQ (Go.Proofs.Ytbmohbeocnfefaa.aN x) (Go.Proofs.Ytbmohbeocnfefaa.ask x) (Go.Proofs.Ytbmohbeocnfefaa.ask x).length) (fun e => h0 (h.nil.2 e))).1 (Int.le_refl _) _ (h.ask hl)
theorem Turn.hi_le {a b : Nat} {t x : Table} (h : Turn a b t x) (h0 : Go.Proofs.Ytbmohbeocnfefaa.ask t ≠ []) : hiQ (Go.Proofs.Ytbmohbeocnfefaa.aN t) (Go.Proofs.Ytbmohbeocnfefaa.ask t) (Go.Proofs.Ytbmohbeocnfefaa.ask t).length ≤ hiQ (Go.Proofs.Ytbmohbeocnfefaa.aN x) (Go.Proofs.Ytbmohbeocnfefaa.ask x) (Go.Proofs.Ytbmohbeocnfefaa.ask x).length := by
  refine (hiA_le (g := Go.Proofs.Ytbmohbeocnfefaa.aN t) h0).2 fun l hl => ?_
  rw [← h.aN (ask_are hl)]
  exact (hiA_le (g := Go.Proofs.Ytbmohbeocnfefaa.aN x) (c := hiQ (Go.Proofs.Ytbmohbeocnfefaa.aN x) (Go.Proofs.Ytbmohbeocnfefaa.ask x) (Go.Proofs.Ytbmohbeocnfefaa.ask x).length) (fun e => h0 (h.nil.2 e))).1 (Int.le_refl _) _ (h.ask hl)
theorem Turn.whoIn {a b : Nat} {t x : Table} (h : Turn a b t x) {k w : Nat} (hk : k < t.pieces.length) (hw : whoseIn (Go.Proofs.Ytbmohbeocnfefaa.ask t) k w = true) : whoseIn (Go.Proofs.Ytbmohbeocnfefaa.ask x) k (sw a b w) = true := by
  obtain ⟨l, hl, e⟩ := whoseIn_iff.1 hw
  exact whoseIn_iff.2 ⟨_, h.ask hl, swL_get (by rw [ask_lens hl]; exact hk) e⟩
theorem Turn.whoEq {a b : Nat} {t x : Table} (h : Turn a b t x) {k w : Nat} (hk : k < t.pieces.length) : whoseIn (Go.Proofs.Ytbmohbeocnfefaa.ask x) k (sw a b w) = whoseIn (Go.Proofs.Ytbmohbeocnfefaa.ask t) k w := by
  rw [Bool.eq_iff_iff]
  refine ⟨fun hh => ?_, h.whoIn hk⟩
  have := h.symm.whoIn (by rw [h.pieces]; exact hk) hh
  rwa [sw_sw] at this
theorem Turn.whoLen {a b : Nat} {t x : Table} (h : Turn a b t x) {k : Nat} (hk : k < t.pieces.length) : (whoP x k).length = (whoP t k).length := by
  rw [whoP_eq hk, whoP_eq (by rw [h.pieces]; exact hk)]
  unfold whose
  rw [sel_length, sel_length, h.women, ← cnt_sw h.ha h.hb]
  unfold cnt
  refine List.countP_congr fun i _ => ?_
  rw [h.whoEq hk]
theorem Turn.whoMem {a b : Nat} {t x : Table} (h : Turn a b t x) {k w : Nat} (hk : k < t.pieces.length) (hw : (w : Int) ∈ whoP t k) : ((sw a b w : Nat) : Int) ∈ whoP x k := by
  rw [whoP_eq hk] at hw
  rw [whoP_eq (by rw [h.pieces]; exact hk)]
  obtain ⟨y, h1, h2, e⟩ := mem_sel.1 hw
  have e : w = y := Int.ofNat_inj.1 e
  subst e
  exact mem_sel.2 ⟨sw a b w, by rw [h.women]; exact (sw_lt h.ha h.hb).2 h1, h.whoIn hk h2, rfl⟩
theorem Turn.left_le {a b : Nat} {t x : Table} (h : Turn a b t x) (hV : Valid t) {s s' : List Int} (hS : Small t s) (hS' : Small x s') : s'.length ≤ s.length := by
  have hw := hV.women
  obtain ⟨k, _, e⟩ := hS.set
  have hin : ∀ i : Nat, i < t.women.length → ((i : Int) ∈ sel t.women.length (fun i => k.testBit (sw a b i)) ↔ (sw a b i : Nat) ∈ (s.map Int.toNat)) := fun i hi => by
    rw [mem_sel, ← e, List.mem_map]
    constructor
    · rintro ⟨j, h1, h2, e2⟩
      have e2 : i = j := Int.ofNat_inj.1 e2
      subst e2
      exact ⟨(sw a b i : Nat), mem_bits.2 ⟨by have := (sw_lt h.ha h.hb).2 hi; omega, h2⟩, Int.toNat_natCast _⟩
    · rintro ⟨y, hy, e2⟩
      obtain ⟨j, h1, h2, e3⟩ := mem_sel.1 hy
      subst e3
      rw [Int.toNat_natCast] at e2
      exact ⟨i, hi, by rw [← e2]; exact h2, rfl⟩
  have hp : possibleB x (sel t.women.length (fun i => k.testBit (sw a b i))) = true := by
    obtain ⟨l, hl, hr⟩ := possible_iff.1 hS.can
    have hla := allOwners_are hl
    refine possible_iff.2 ⟨swL a b l, allOwners_iff.2 (h.are hla), rightBut_iff.2 fun i hi hx => ?_⟩
    rw [h.women] at hi
    have h3 := h.right hla ((sw_lt h.ha h.hb).2 hi)
    rw [sw_sw] at h3
    rw [h3] at hx
    have := rightBut_iff.1 hr _ ((sw_lt h.ha h.hb).2 hi) hx
    exact (hin i hi).2 (List.mem_map.2 ⟨_, this, Int.toNat_natCast _⟩)
  have hinc : Inc x.women.length 0 (sel t.women.length (fun i => k.testBit (sw a b i))) := inc_of (sel_pairwise _ _) fun y hy => by
    obtain ⟨j, hj, _, e2⟩ := mem_sel.1 hy
    rw [h.women]; omega
  have hb := bits_mask (by rw [h.women]; omega) hinc
  have := hS'.least _ (maskOf_le _) (by rw [hb]; exact hp)
  rw [hb, Bool.eq_false_iff] at this
  have h4 : ¬ (sel t.women.length (fun i => k.testBit (sw a b i))).length < s'.length := fun hlt => this (shorter_iff.2 (.inl hlt))
  rw [sel_length, cnt_sw h.ha h.hb (fun i => k.testBit i)] at h4
  have h5 : cnt t.women.length (fun i => k.testBit i) ≤ s.length := by
    rw [← e]
    unfold bits
    rw [sel_length]
    exact cnt_mono (by omega) fun _ _ hh => hh
  omega
end Go.Proofs.Ytbmohbeocnfefaa
