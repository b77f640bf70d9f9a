/- Chapter 6: wider hours of a touch. -/
import Derived.Test.YtdnbkjgbehakpaaGreatP36
namespace Go.Proofs.YtdnbkjgbehakpaaGreat
open Go Go.Eng Go.RowKit

def withTouches (h : House) (ts : List Touch) : House := ⟨h.table, h.sick, h.others, h.last, ts, h.boiled, h.signs⟩
theorem getD_set6 {ts : List Touch} {k i : Nat} {t : Touch} (hk : k < ts.length) : (ts.set k t).getD i default = if i = k then t else ts.getD i default := by
  rw [List.getD_eq_getElem?_getD, List.getElem?_set]
  by_cases e : k = i
  · subst e; simp [hk]
  · rw [if_neg e, if_neg (fun h => e h.symm), List.getD_eq_getElem?_getD]
/-- A touch of the same things, with a wider range. -/
structure WiderT (t t' : Touch) : Prop where
  a : t.a = t'.a
  b : t.b = t'.b
  lo : t'.lo ≤ t.lo
  hi : t.hi ≤ t'.hi
theorem wider_same {ts : List Touch} {k : Nat} {t' : Touch} (hk : k < ts.length) (hw : WiderT (ts.getD k default) t') : SameT ts (ts.set k t') ts.length := fun i _ => by
  rw [getD_set6 hk]
  by_cases e : i = k
  · rw [if_pos e, e]; exact ⟨hw.a, hw.b⟩
  · rw [if_neg e]; exact ⟨rfl, rfl⟩
theorem wider_course {t : Table} {ts : List Touch} {k : Nat} {t' : Touch} (hk : k < ts.length) (hw : WiderT (ts.getD k default) t') {c : Course} (hc : CourseT t ts c) : CourseT t (ts.set k t') c :=
  ⟨hc.owners, by rw [List.length_set]; exact hc.len, fun i hi => by
    rw [List.length_set] at hi
    have h1 := hc.has i hi
    rw [getD_set6 hk]
    by_cases e : i = k
    · subst e
      rw [if_pos rfl]
      have := hw.lo; have := hw.hi; omega
    · rw [if_neg e]; exact h1⟩
theorem wider_last {h : House} {k : Nat} {t' : Touch} (hk : k < h.touches.length) (hw : WiderT (h.touches.getD k default) t') (c : Course) (more : List Boil) : lastN (withTouches h (h.touches.set k t')) c more = lastN h c more :=
  (carN_congr (List.length_set ..) (wider_same hk hw) _).symm
theorem wider_closer {h : House} {k : Nat} {t' : Touch} (hk : k < h.touches.length) (hw : WiderT (h.touches.getD k default) t') : Closer h (withTouches h (h.touches.set k t')) :=
  ⟨fun c hc => by
    obtain ⟨h1, h2⟩ := List.mem_filter.1 hc
    refine List.mem_filter.2 ⟨mem_scenes.2 (wider_course hk hw (mem_scenes.1 h1)), ?_⟩
    rw [wider_last hk hw]; exact h2, fun c more => (wider_last hk hw c more).symm, rfl, rfl, rfl, rfl⟩
theorem wider_poss {h : House} {k : Nat} {t' : Touch} (hk : k < h.touches.length) (hw : WiderT (h.touches.getD k default) t') {d : List Int} (hp : possible6 h d = true) : possible6 (withTouches h (h.touches.set k t')) d = true := by
  rw [possible_iff6] at hp ⊢
  obtain ⟨c, hc, hr⟩ := hp
  refine ⟨c, mem_scenes.2 (wider_course hk hw (mem_scenes.1 hc)), ?_⟩
  rw [wider_last hk hw]; exact hr
theorem wider_leave {h : House} {k : Nat} {t' : Touch} (hk : k < h.touches.length) (hw : WiderT (h.touches.getD k default) t') {c d : List Int} (hc : LeastS (possible6 h) h.signs.length c) (hd : LeastS (possible6 (withTouches h (h.touches.set k t'))) h.signs.length d) : d.length ≤ c.length :=
  least_len hd hc.inc (wider_poss hk hw hc.is)
end Go.Proofs.YtdnbkjgbehakpaaGreat
