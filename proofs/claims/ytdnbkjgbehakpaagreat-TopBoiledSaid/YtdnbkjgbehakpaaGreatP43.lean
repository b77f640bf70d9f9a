/- What TopBoiled needs: a house with no signs; the first woman that can own a piece; the closed example. -/
import Derived.Test.YtdnbkjgbehakpaaGreatP42
import Derived.Test.YtdnbkjgbehakpaaGreatP39
import Derived.Test.YtdnbkjgbehakpaaGreatT150
namespace Go.Proofs.YtdnbkjgbehakpaaGreat
open Go Go.Eng Go.RowKit

theorem nosign_ask {h : House} (hV : ValidH h) : ask6 (withSigns h []) ≠ [] :=
  first_ask hV (n := 0) (Nat.zero_le _) (fun _ hk => absurd hk (Nat.not_lt_zero _))
theorem who_mark {t : Table} {k : Nat} (hk : k < t.pieces.length) (hne : ask t ≠ []) : ∃ w : Nat, w < t.women.length ∧ (whoP t k).getD 0 0 = (w : Int) ∧ 0 < (whoP t k).length ∧ (t.women.getD w default).mark ∈ (t.pieces.getD k default).marks := by
  have key : ∀ y ∈ whoP t k, ∃ w : Nat, w < t.women.length ∧ y = (w : Int) ∧ (t.women.getD w default).mark ∈ (t.pieces.getD k default).marks := by
    intro y hy
    rw [whoP_eq hk] at hy
    obtain ⟨w, hw, hf, e⟩ := mem_sel.1 hy
    obtain ⟨l, hl, el⟩ := whoseIn_iff.1 hf
    have hla := areOwners_iff.1 (ask_are hl)
    obtain ⟨w', _, h2', e'⟩ := mem_sel.1 (hla.2 k (by rw [hla.1]; exact hk))
    have e2 : w' = w := by rw [el] at e'; exact (Int.ofNat_inj.1 e').symm
    subst e2
    exact ⟨w', hw, e, of_decide_eq_true h2'⟩
  obtain ⟨l, hl⟩ := List.exists_mem_of_ne_nil _ hne
  have hpos := List.length_pos_of_mem (who_mem6 hl hk)
  obtain ⟨w, hw, e, hm⟩ := key _ (mem_getD hpos)
  exact ⟨w, hw, e, hpos, hm⟩
theorem boil_fewer {x y : House} (hx : ValidH x) (hy : ValidH y) (hc : Closer y x) {hour : Nat} (h1 : (hour : Int) ≤ x.last) (h2 : (hour : Int) ≤ y.last) {p q : List Int} (hp : boil6 x hour = some p) (hq : boil6 y hour = some q) : q.length ≤ p.length := by
  obtain ⟨p', e1, l1⟩ := boil6_least hx h1
  obtain ⟨q', e2, l2⟩ := boil6_least hy h2
  rw [hp] at e1; cases e1
  rw [hq] at e2; cases e2
  exact hc.boil l2 l1
/-- The closed example. -/
def bTab : Table := ⟨[⟨1, 1, 1⟩, ⟨2, 1, 1⟩], [⟨[1], 0⟩, ⟨[2], 1⟩], 0⟩
def bHouse : House := ⟨bTab, [0], 0, 0, [⟨0, 1, 0, 0⟩], [], []⟩
theorem bTab_sm : Sm bTab := ⟨by simp [bTab], by simp [bTab], fun i hi => by
  have h2 : i < 2 := hi
  match i, h2 with
  | 0, _ => simp [bTab]
  | 1, _ => simp [bTab]⟩
theorem bHouse_sm : SmH bHouse := ⟨bTab_sm, by simp [bHouse], by simp [bHouse], by simp [bHouse], by simp [bHouse]⟩
theorem b_who : askE bTab = 0 ∧ whoTo bTab bTab.pieces.length = [[0], [1]] := by decide +kernel
theorem b_boil : ask6E bHouse (isHour bHouse 0) = 0 ∧ boil6 bHouse 0 = some [0] := by decide +kernel
theorem read_marks {h m : Mem} {u : Value} {t : Table} {f : Nat → Value} {p : Nat} {ms : List Int} (hle : MLe h m) (hM : IsMarks h f t.pieces) (hu : IsInts m u ms) :
    IsMarks m (fun i => ((fsOf f t.pieces).set p u).getD i undef) (setM t.pieces p ms) := fun i hi => by
  have hi' : i < t.pieces.length := by rw [← setM_len t.pieces p ms]; exact hi
  show IsInts m (((fsOf f t.pieces).set p u).getD i undef) ((setM t.pieces p ms).getD i default).marks
  rw [getD_set, setM_get, fsOf_len]
  split
  · exact hu
  · rw [fsOf_get hi']; exact (hM i hi').le hle
theorem setM_sm {t : Table} (hs : Sm t) {p : Nat} {y : Int} : Sm ⟨t.women, setM t.pieces p [y], t.wrong⟩ := by
  refine ⟨hs.1, by show (setM t.pieces p [y]).length ≤ _; rw [setM_len]; exact hs.2.1, fun i hi => ?_⟩
  have hi' : i < t.pieces.length := by rw [← setM_len t.pieces p [y]]; exact hi
  show ((setM t.pieces p [y]).getD i default).marks.length ≤ _
  rw [setM_get]
  split
  · simp
  · exact hs.2.2 i hi'
end Go.Proofs.YtdnbkjgbehakpaaGreat
