/- Append to an empty literal that is not owned. -/
import Derived.Test.YtbmohbeocnfefaaR0
import Derived.Deep.Upon
namespace Go.Proofs.Ytbmohbeocnfefaa
open Go Go.Eng Go.RowKit

section
variable {P : Program} {n : Nat} {c : Cx P n} {l : List (Nat × Value)} {Ms : List Mem} {μ : List Res} {dst : Option Tmp} {x y : Operand} {t ty : TypeId} {pos : String} {af : Array Edge} {gd : Option (Nat × Bool)} {K : Post} {ops : Array Oper} {rest : List Oper}
theorem run_append_lit {w : World} {e : TypeId} {i : TypeInfo} {z : Value} (ht : P.underlying t = some (.slice e)) (hi : P.info? e = some i) (hz : i.zero = some z) (b : Addr) (a : Addr) (m cp : Nat) (news : List Value) (hl : news.length = m * i.size)
    (hnews : ∀ j v, news[j]? = some v → w.cell? (a.add j) = some v) (h0 : 0 < m) (h63 : m ≤ maxLen) (hb : m * i.bytes ≤ 140737488355328) :
    (Builtin.append_ #[t, t] ty #[.slice (some b) 0 0, .slice (some a) m cp]).run P w = (Builtin.append_ #[t, t] ty #[.slice none 0 0, .slice (some a) m cp]).run P w := by
  rw [run_append_nil (P := P) w t ty e i z ht hi hz a m cp news hl hnews h0 (by simp only [maxLen] at h63; omega) (by omega),
    run_append_grow (P := P) w t ty e i z ht hi hz b 0 0 [] (by simp) (fun j v hv => by simp at hv) a m cp news hl hnews (by omega) (by simp only [maxLen] at h63; omega) (growslice_fits (by omega) (by simpa using hb))]
  simp
theorem WL.append0 {e : TypeId} {k bytes : Nat} {z : Value} [hu : TU P t (.slice e)] [hi : TI P e k bytes z] {d m2 : Nat} {bA : Addr} {v2 : Value} {ys : List Value} {m : Mem}
    (hx : lk l x = some (.slice (some bA) 0 0)) (hy : lk l y = some v2) (hs : IsCells m k v2 m2 ys) (hm : m ∈ Ms) (hm0 : 0 < m2)
    (hz : z.cells.size = k) (hkp : 0 < k) (hb1 : m2 ≤ maxLen) (hb2 : m2 * bytes ≤ 140737488355328)
    (hw : want ops l ⟨dst, .call ⟨.builtin .append, #[x, y], #[t, t]⟩, ty, pos, af, gd⟩ = some true) (hd : dst = some d) (hn : Nat.blt d n = true)
    (h : ∀ a' cap', WL c ops rest K ((d, .slice a' m2 cap') :: l) Ms (.row e k (.slice a' m2 cap') m2 ys :: μ)) : WL c ops (⟨dst, .call ⟨.builtin .append, #[x, y], #[t, t]⟩, ty, pos, af, gd⟩ :: rest) K l Ms μ := by
  refine WL.nilRow e k ?_
  exact WL.step hw fun a w hh => by
    obtain ⟨i, hi1, hi2, hi3, hi4⟩ := hi.i
    have hown : w.ownsRow 0 e k (.slice none 0 0) 0 [] := World.ownsRow_nil w 0 e k
    obtain ⟨hl, a2, cap2, rfl, _, _, hone, hcell⟩ := hs
    have hone' : ∀ u ∈ ys, u.oneCell' = true := fun u hu => by
      obtain ⟨j, hj, rfl⟩ := List.mem_iff_getElem.1 hu
      have hdiv : j / k < m2 := (Nat.div_lt_iff_lt_mul hkp).2 (by rw [← hl]; exact hj)
      have := hone (j / k) (j % k) hdiv (Nat.mod_lt _ hkp)
      dsimp only at this
      rw [Nat.div_add_mod' j k, List.getD_eq_getElem?_getD, List.getElem?_eq_getElem hj] at this
      exact this
    have hnews : ∃ ad, a2 = some ad ∧ ∀ j u, ys[j]? = some u → w.cell? (ad.add j) = some u := by
      obtain ⟨b, off, rfl, hc⟩ := hcell hm0
      refine ⟨_, rfl, fun j u hu => ?_⟩
      have hj : j < ys.length := (List.getElem?_eq_some_iff.1 hu).1
      have hdiv : j / k < m2 := (Nat.div_lt_iff_lt_mul hkp).2 (by rw [← hl]; exact hj)
      have := hc (j / k) (j % k) hdiv (Nat.mod_lt _ hkp)
      dsimp only at this
      rw [Nat.add_assoc, Nat.div_add_mod' j k, List.getD_eq_getElem?_getD, hu] at this
      rw [addr_add _ rfl]
      exact cellM_sub (hh.mem.sub m hm) this
    obtain ⟨v', w', hrun, hown', hg, hnew⟩ := run_append_own' (ty := ty) hu.u hi1 hi4 hi2 hi3 hz hkp hown (cp := cap2) hl (fun _ => hnews) hone' (by omega) (by simpa using hb2)
    obtain ⟨ad, rfl, hcs⟩ := hnews
    have hrun0 := run_append_lit (P := P) (ty := ty) (w := w) hu.u hi1 hi4 bA ad m2 cap2 ys (by rw [hi2]; exact hl) hcs hm0 hb1 (by rw [hi3]; exact hb2)
    rw [hrun] at hrun0
    refine ⟨fun _ _ => trivial, ?_⟩
    rw [Oper.semAt_eq _ _ _ (by simp)]
    have hr' : (execOp a.eval ⟨dst, .call ⟨.builtin .append, #[x, y], #[t, t]⟩, ty, pos, af, gd⟩).run P w = .ok (.value v') w' := by
      simp [execOp, resolve, invoke, builtin, hh.lk hx, hh.lk hy, hrun0]
    rw [hr']
    subst hd
    have hform : ∃ a' cap', v' = .slice a' m2 cap' := by
      rcases hown'.2 with ⟨rfl, h0⟩ | ⟨g, cap, cur, rfl, _⟩
      · omega
      · exact ⟨_, _, by rw [Nat.zero_add]⟩
    obtain ⟨a', cap', rfl⟩ := hform
    rw [Nat.zero_add, List.nil_append] at hown'
    have hm' := hh.mem.turn (show Repl (.row e k (.slice none 0 0) 0 []) (.row e k (.slice a' m2 cap') m2 ys) (.row e k (.slice none 0 0) 0 [] :: μ) (.row e k (.slice a' m2 cap') m2 ys :: μ) from .head _) hown' ⟨hg.os, hg.tape, hg.output, hg.size, fun b hb hf => hg.block b hb (fun e => hf e.symm)⟩ hnew
    exact (h a' cap').un _ _ ((Holds.mk hh.size (show a.defers = marksOf (.row e k (.slice a' m2 cap') m2 ys :: μ) ++ c.D from hh.defers) hh.slots hm').put (Nat.lt_of_blt hn) _)
end
end Go.Proofs.Ytbmohbeocnfefaa
