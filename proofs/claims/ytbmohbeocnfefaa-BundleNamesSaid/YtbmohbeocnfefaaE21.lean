/- A slice made and frozen; a row of one's own, lent to a call. -/
import Derived.Test.YtbmohbeocnfefaaE19
namespace Go.Eng
open Go Go.RowKit

section
variable {P : Program} {n : Nat} {c : Cx P n} {K : Post} {l : List (Nat × Value)} {Ms : List Mem} {μ : List Res}
variable {dst : Option Tmp} {x y : Operand} {t ty : TypeId} {pos : String} {af : Array Edge} {gd : Option (Nat × Bool)} {ops : Array Oper} {rest : List Oper} {o : Oper}
theorem OpAbs.make {e : TypeId} {k bytes : Nat} {z : Value} [hu : TU P t (.slice e)] [hi : TI P e k bytes z] {N : Nat} {kl kc : IntKind}
    (hx : lk l x = some (.int kl (N : Int))) (hy : lk l y = some (.int kc (N : Int))) (hb : bytes * N ≤ 281474976710656) (hN : N ≤ maxLen) (h1 : ∀ u ∈ (madeCells z.cells (N * k)).toList, u.oneCell' = true) :
    OpAbs c ⟨dst, .makeSlice t x y, ty, pos, af, gd⟩ l Ms μ (fun m v => IsCells m k v N (madeCells z.cells (N * k)).toList ∧ ∃ b, v = .slice (some ⟨b, 0, none⟩) N N) := by
  unfold OpAbs
  intro a w hh
  refine ⟨by simp, by simp, ?_⟩
  obtain ⟨i, hi1, hi2, hi3, hi4⟩ := hi.i
  subst hi2
  have hb' : (i.bytes : Int) * (N : Int) ≤ 281474976710656 := by
    have h : ((i.bytes * N : Nat) : Int) ≤ 281474976710656 := by rw [hi3]; omega
    rwa [Int.natCast_mul] at h
  have hr := run_make (P := P) w t e i z hu.u hi1 hi4 kl kc N N (by omega) (Int.le_refl _) hb' (by unfold maxLen at hN; omega)
  simp only [Int.toNat_natCast] at hr
  have hr' : (execOp a.eval ⟨dst, .makeSlice t x y, ty, pos, af, gd⟩).run P w = .ok (.value (.slice (some ⟨w.heap.size, 0, none⟩) N N)) (w.alloc (.cells (madeCells z.cells (N * i.size)) e)) := by
    simp [execOp, hh.lk hx, hh.lk hy, hr]
  rw [hr']
  have hrow := World.ownsRow_lit (base := 0) (e := e) (size := i.size) w (madeCells z.cells (N * i.size)) N (Nat.zero_le _) hN (size_madeCells _ _)
  refine ⟨Ext.alloc w _, fun b => if b = w.heap.size then some (.cells (madeCells z.cells (N * i.size)) e) else none, fun b o hb => ?_, fun b hb => ?_, isCells_of_row hrow h1 (fun b hb => ?_), _, rfl⟩
  · have hb : (if b = w.heap.size then some (Obj.cells (madeCells z.cells (N * i.size)) e) else none) = some o := hb
    by_cases hbe : b = w.heap.size
    · rw [if_pos hbe] at hb; cases hb; rw [hbe]; exact heap_alloc_new w _
    · rw [if_neg hbe] at hb; cases hb
  · have hb : (if b = w.heap.size then some (Obj.cells (madeCells z.cells (N * i.size)) e) else none) ≠ none := hb
    by_cases hbe : b = w.heap.size
    · exact .inr (Nat.le_of_eq hbe.symm)
    · rw [if_neg hbe] at hb; exact absurd rfl hb
  · simp only [Value.ownBlock, Option.some.injEq] at hb
    subst hb
    exact (if_pos rfl).trans (heap_alloc_new w _).symm

/-! ### A row of one's own, lent to a call -/
def lentM (b : Nat) (T : TypeId) (xs : List Value) : Mem := fun b' => if b' = b then some (.cells xs.toArray T (0, 0)) else none
theorem row_full {w : World} {T : TypeId} {k N b : Nat} {xs : List Value} (h : w.ownsRow 0 T k (.slice (some ⟨b, 0, none⟩) N N) N xs) : w.heap[b]? = some (.cells xs.toArray T (0, 0)) := by
  obtain ⟨hlen, hv⟩ := h
  rcases hv with ⟨e, _⟩ | ⟨g, cap, cur, e, _, hg, hn, hm, hs, ht⟩
  · cases e
  · cases e
    rw [hg]
    congr 2
    rw [← ht, List.take_of_length_le (by simp [hs])]
theorem isArr_lent {b k N : Nat} {T : TypeId} {xs : List Value} (hl : xs.length = N * k) (hN : N ≤ maxLen) (h1 : ∀ u ∈ xs, u.oneCell' = true) : IsArr (lentM b T xs) k (.slice (some ⟨b, 0, none⟩) N N) N (fun i j => xs.getD (i * k + j) undef) := by
  have hin : ∀ i j, i < N → j < k → i * k + j < xs.length := fun i j hi hj => by rw [hl]; exact row_in hi hj
  refine ⟨_, _, rfl, Nat.le_refl _, hN, fun i j hi hj => ?_, fun _ => ⟨b, 0, rfl, fun i j hi hj => ?_⟩⟩
  · have := hin i j hi hj
    show (xs.getD (i * k + j) undef).oneCell' = true
    rw [List.getD_eq_getElem?_getD, List.getElem?_eq_getElem this]
    exact h1 _ (List.getElem_mem _)
  · have := hin i j hi hj
    simp only [cellM, lentM, if_true, Nat.zero_add, List.getElem?_toArray, List.getD_eq_getElem?_getD, List.getElem?_eq_getElem this, Option.getD_some]
theorem WL.lend {A : Mem → Value → Prop} {d b k N : Nat} {T : TypeId} {xs : List Value} {μ' : List Res} (hp : Pick (.row T k (.slice (some ⟨b, 0, none⟩) N N) N xs) μ μ') (hF : ∀ b, c.F b → b ∈ feet μ')
    (hv : OpAbs c o l (lentM b T xs :: Ms) μ' A) (hw : want ops l o = some true) (hd : o.dst = some d) (hn : Nat.blt d n = true)
    (h : ∀ mr m v, A mr v → (∀ b', b' ≠ b → m b' = mr b') → (∀ ob, mr b = some ob → ob = .cells xs.toArray T (0, 0)) → WL c ops rest K ((d, v) :: l) (m :: Ms) μ) : WL c ops (o :: rest) K l Ms μ :=
  WL.step hw fun a w hh => by
    have hrow := row_full (hh.mem.res _ hp.mem)
    have hfz := hh.mem.freeze hp hF
    have e : (fun b' => if Res.foot (.row T k (.slice (some ⟨b, 0, none⟩) N N) N xs) = some b' then w.heap[b']? else none) = lentM b T xs := by
      funext b'
      simp only [Res.foot, Value.ownBlock, lentM, Option.some.injEq]
      by_cases hb : b = b'
      · subst hb; rw [if_pos rfl, if_pos rfl, hrow]
      · rw [if_neg hb, if_neg (fun h => hb h.symm)]
    rw [e] at hfz
    have hh2 : Holds c l (lentM b T xs :: Ms) μ' a w := ⟨hh.size, by rw [hp.marks rfl]; exact hh.defers, hh.slots, hfz⟩
    refine (hv.un a w hh2).wpIn fun v w' ⟨he, mr, hs, hf, hA⟩ => ?_
    rw [hd]
    refine (h mr (fun b' => if b' = b then none else mr b') v hA (fun b' hb => if_neg hb) (fun ob hob => ?_)).un _ _ ((hh.add he (fun b' ob hb => ?_) (fun b' hb => ?_)).put (Nat.lt_of_blt hn) v)
    · have h1 := hs b ob hob
      rw [he.get hrow] at h1
      exact (Option.some.inj h1).symm
    · have hb : (if b' = b then none else mr b') = some ob := hb
      by_cases hbe : b' = b
      · rw [if_pos hbe] at hb; cases hb
      · rw [if_neg hbe] at hb; exact hs b' ob hb
    · have hb : (if b' = b then none else mr b') ≠ none := hb
      by_cases hbe : b' = b
      · rw [if_pos hbe] at hb; exact absurd rfl hb
      · rw [if_neg hbe] at hb
        rcases hf b' hb with ⟨m, hm, hmb⟩ | h1
        · rcases List.mem_cons.1 hm with rfl | hm
          · exact absurd (if_neg hbe) hmb
          · exact .inl ⟨m, hm, hmb⟩
        · exact .inr h1
/-- What lies elsewhere than in a block. -/
theorem _root_.Go.Eng.IsArr.past {mr m : Mem} {k b : Nat} {v : Value} {N : Nat} {f : Nat → Nat → Value} (h : IsArr mr k v N f) (hm : ∀ b', b' ≠ b → m b' = mr b') (hb : ∀ off cap, v = .slice (some ⟨b, off, none⟩) N cap → 0 < N → False) : IsArr m k v N f := by
  obtain ⟨a, cap, rfl, h1, h2, h3, h4⟩ := h
  refine ⟨a, cap, rfl, h1, h2, h3, fun hn => ?_⟩
  obtain ⟨b', off, rfl, hc⟩ := h4 hn
  refine ⟨b', off, rfl, fun i j hi hj => ?_⟩
  have hne : b' ≠ b := fun e => hb off cap (by rw [e]) hn
  have := hc i j hi hj
  unfold cellM at *
  rw [hm b' hne]
  exact this
theorem _root_.Go.Eng.IsArr.hits {mr : Mem} {k b off cap : Nat} {N : Nat} {f : Nat → Nat → Value} {xs : List Value} {T : TypeId} (h : IsArr mr k (.slice (some ⟨b, off, none⟩) N cap) N f) (hmr : ∀ ob, mr b = some ob → ob = .cells xs.toArray T (0, 0)) {i j : Nat} (hi : i < N) (hj : j < k) :
    xs[off + i * k + j]? = some (f i j) := by
  obtain ⟨a, cap', e, h1, h2, h3, h4⟩ := h
  cases e
  obtain ⟨b', off', e', hc⟩ := h4 (by omega)
  cases e'
  have := hc i j hi hj
  unfold cellM at this
  cases hx : mr b with
  | none => rw [hx] at this; cases this
  | some ob =>
    rw [hx, hmr ob hx] at this
    simpa using this
end
end Go.Eng
