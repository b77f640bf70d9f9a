/- The small program logic, on: parts of slices and arrays. -/
import Derived.Test.YtbmohbeocnfefaaEngine
import Derived.Scope
import Derived.Laws.IdiomCopy
namespace Go.Eng
open Go Go.RowKit

/-- A part of a slice of elements of k cells. -/
def subV (k lo hi : Nat) : Value → Value
  | .slice a _ cap => .slice (if cap = lo then a else a.map (·.add (lo * k))) (hi - lo) (cap - lo)
  | v => v
theorem IsArr.sub {m : Mem} {k : Nat} {v : Value} {n : Nat} {f : Nat → Nat → Value} (h : IsArr m k v n f) {lo hi : Nat} (h1 : lo ≤ hi) (h2 : hi ≤ n) : IsArr m k (subV k lo hi v) (hi - lo) (fun i j => f (lo + i) j) := by
  obtain ⟨a, cap, rfl, k1, k2, k3, k4⟩ := h
  refine ⟨_, _, rfl, by omega, by omega, fun i j hi' hj => k3 _ _ (by omega) hj, fun hn => ?_⟩
  obtain ⟨b, off, rfl, hc⟩ := k4 (by omega)
  rw [if_neg (by omega)]
  refine ⟨b, off + lo * k, by simp [addr_add], fun i j hi' hj => ?_⟩
  have := hc (lo + i) j (by omega) hj
  rw [Nat.add_mul, ← Nat.add_assoc] at this
  exact this
theorem IsInts.sub {m : Mem} {v : Value} {xs : List Int} (h : IsInts m v xs) {lo hi : Nat} (h1 : lo ≤ hi) (h2 : hi ≤ xs.length) : IsInts m (subV 1 lo hi v) ((xs.drop lo).take (hi - lo)) := by
  have := IsArr.sub h h1 h2
  have e : ((xs.drop lo).take (hi - lo)).length = hi - lo := by simp; omega
  unfold IsInts
  rw [e]
  refine this.congr fun i j hi' hj => ?_
  simp only [List.getD_eq_getElem?_getD]
  rw [List.getElem?_take_of_lt hi', List.getElem?_drop]
section
variable {P : Program} {n : Nat} {c : Cx P n} {l : List (Nat × Value)} {Ms : List Mem} {μ : List Res} {dst : Option Tmp} {x y u : Operand} {t ty t' : TypeId} {pos : String} {af : Array Edge} {gd : Option (Nat × Bool)}
theorem elem_of {e : TypeId} (h : P.underlying t = some (.slice e)) : P.elem t = e := by simp [Program.elem, h]
theorem OpVal.eqNil {e : TypeId} [hu : TU P t (.slice e)] {a : Option Addr} {N cap N' cap' : Nat} (hx : lk l x = some (.slice a N cap)) (hy : lk l y = some (.slice none N' cap')) :
    OpVal c ⟨dst, .binOp .eql t x y t', ty, pos, af, gd⟩ l Ms μ (.bool a.isNone) :=
  OpVal.of_runs (by simp) (by simp) fun s w hh => by
    have hg : ∀ w, (Op.equalIn 10000 t (.slice a N cap) (.slice none N' cap')).run P w = .ok a.isNone w := fun w => by
      rw [Op.equalIn]
      cases a <;> simp [run_underlying hu.u]
    simp only [execOp, hh.lk hx, hh.lk hy, Sem.run_bind]
    have he : (eqGuard .eql t x y (.slice a N cap) (.slice none N' cap')).run P w = .ok () w := by simp [eqGuard]
    rw [he]
    simp only [Result.andThen_ok, binOp, Op.equal, Op.maxDepth, Sem.run_bind, hg, Sem.run_pure]
theorem OpVal.sliceL {e : TypeId} {k bytes : Nat} {z : Value} [hu : TU P t (.slice e)] [hi : TI P e k bytes z] {m : Mem} {v : Value} {N : Nat} {f : Nat → Nat → Value} {lo : Nat} (hx : lk l x = some v) (hy : lk l y = some (vi lo)) (h : IsArr m k v N f) (h1 : lo ≤ N) :
    OpVal c ⟨dst, .slice t x (some y) none none, ty, pos, af, gd⟩ l Ms μ (subV k lo N v) :=
  OpVal.of_runs (by simp) (by simp) fun s w hh => by
    obtain ⟨a, cap, rfl, k1, _⟩ := h
    have ht : P.underlying t = some (.slice (P.elem t)) := by rw [elem_of hu.u]; exact hu.u
    simp only [execOp, hh.lk hx, hh.lk hy, Option.map_some, Option.map_none, Sem.run_bind, run_sliceAt_slice w t _ _ _ _ ht, run_slice_l w t a N cap ht .i64 lo (by omega) (by omega), elem_of hu.u, hi.sizeOf, Result.andThen_ok, Sem.run_pure]
    simp [sliced, subV]
/-- The first elements of an array in a box, as a slice. -/
theorem OpVal.sliceArr {e : TypeId} {L k bytes : Nat} {z : Value} [hu : TU P t (.array L e)] [hi : TI P e k bytes z] {b off hi' : Nat} (hx : lk l x = some (.pointer (some ⟨b, off, none⟩))) (hz : lk l u = some (vi hi')) (h2 : hi' ≤ L) (hL : 0 < L) :
    OpVal c ⟨dst, .slice t x none (some u) none, ty, pos, af, gd⟩ l Ms μ (.slice (some ⟨b, off, none⟩) hi' L) :=
  OpVal.of_runs (by simp) (by simp) fun s w hh => by
    have : (Instr.sliceAt t (.pointer (some ⟨b, off, none⟩)) none (some (vi hi')) none).run P w = .ok (.slice (some ⟨b, off, none⟩) hi' L) w := by
      have hb : (Instr.sliceBound (vi hi') L .sliceAlen).run P w = .ok hi' w := run_sliceBound w .i64 (hi' : Int) L .sliceAlen (by omega) (by omega)
      simp only [Instr.sliceAt, Sem.run_bind, run_underlying hu.u, Result.andThen_ok, Instr.sureAddr, Sem.run_pure, Instr.sliceBounds, Bool.false_eq_true, if_false, hb, hi.sizeOf]
      rw [if_neg (show ¬ L = 0 by omega)]
      simp [addr_add ⟨b, off, none⟩ rfl]
    simp only [execOp, hh.lk hx, hh.lk hz, Option.map_some, Option.map_none, Sem.run_bind, this, Result.andThen_ok, Sem.run_pure]
/-- The first cells of a box in persistent memory, as a slice of numbers. -/
theorem IsInts.ofBox {m : Mem} {b : Nat} {cs : Array Value} {T : TypeId} {xs : List Int} {L : Nat} (h : IsBox m b cs T) (hc : ∀ i, i < xs.length → cs[i]? = some (vi (xs.getD i 0))) (h1 : xs.length ≤ L) (h2 : L ≤ maxLen) : IsInts m (.slice (some ⟨b, 0, none⟩) xs.length L) xs :=
  ⟨_, _, rfl, h1, h2, fun _ _ _ _ => rfl, fun _ => ⟨b, 0, rfl, fun i j hi hj => by
    have : j = 0 := by omega
    subst this
    unfold cellM
    rw [h]
    simpa using hc i hi⟩⟩
end

open Go Go.RowKit
section
variable {P : Program} {n : Nat} {c : Cx P n} {K : Post} {γ : Type} {L : γ → List (Nat × Value)} {Ms : List Mem} {M : γ → List Res} {ph : γ → Nat} {ops : Array Oper} {qs : List Nat}
/-- Of the operation that turns the state. -/
def EffN (c : Cx P n) (ops : Array Oper) (L : γ → List (Nat × Value)) (Ms : List Mem) (M : γ → List Res) (ph : γ → Nat) (g : γ) (env : List (Nat × Asr)) (o : Oper) : Prop :=
  ∀ (a : Act) (w : World), a.tmps.size = n → a.defers = marksOf (M g) ++ c.D → (∀ t v, look (L g) t = some v → a.tmps.getD t undef = v) → MemOk c Ms (M g) w →
    (∀ p ∈ env, p.1 ∈ o.looksAt ops → EntOK c Ms (M g) p.2 (a.tmps.getD p.1 undef) w) → Region.wanted o (yielded ops a.tmps) = true ∧ ∀ X, MemOk c (X ++ Ms) (M g) w →
      o.wpIn (fd c.r) 0 P a w (fun a' w' => ∃ g', ph g' = ph g + 1 ∧ a'.tmps.size = n ∧ a'.defers = marksOf (M g') ++ c.D ∧ (∀ t v, look (L g') t = some v → a'.tmps.getD t undef = v) ∧ MemOk c (X ++ Ms) (M g') w') (fun e _ _ => e = .normal ∧ False)
/-- Can the operation come up in this phase? -/
def allowB (ops : Array Oper) (qs : List Nat) (i : Nat) (o : Oper) (p : Nat) : Bool :=
  qs.zipIdx.all fun r => (!(edgesOf o).contains r.1 || decide (r.2 < p)) && (!decide (r.2 < p) || !earlyB ops r.1 i)
def DListN (c : Cx P n) (ops : Array Oper) (qs : List Nat) (L : γ → List (Nat × Value)) (Ms : List Mem) (M : γ → List Res) (ph : γ → Nat) (fin : List (Nat × Asr) → Prop) : List Oper → Nat → List (Nat × Asr) → Prop
  | [], _, env => fin env
  | o :: todo, i, env => ((∃ j, qs[j]? = some i ∧ ∀ g, ph g = j → EffN c ops L Ms M ph g env o) ∧ DListN c ops qs L Ms M ph fin todo (i + 1) ((n, fun _ _ => True) :: env)) ∨
    (i ∉ qs ∧ ∃ d A, o.dst = some d ∧ d < n ∧ (∀ g, look (L g) d = none) ∧ (∀ g, allowB ops qs i o (ph g) = true → ObOK c ops (L g) Ms (M g) env o A) ∧
      DListN c ops qs L Ms M ph fin todo (i + 1) ((d, A) :: env))
def GotN (c : Cx P n) (ops : Array Oper) (qs : List Nat) (L : γ → List (Nat × Value)) (Ms : List Mem) (M : γ → List Res) (ph : γ → Nat) (fin : List (Nat × Asr) → Prop) (todo : List Oper) (i0 : Nat) (env : List (Nat × Asr)) : Prop :=
    ∃ E : List (Nat × Asr), fin (E ++ env) ∧ E.length = todo.length ∧ ∀ (i : Nat) (o : Oper), todo[i]? = some o →
      ((∃ j, qs[j]? = some (i0 + i) ∧ E.reverse[i]? = some (n, fun _ _ => True) ∧ ∃ E', (∀ p ∈ E', p ∈ E ++ env) ∧ ∀ g, ph g = j → EffN c ops L Ms M ph g E' o)) ∨
      (i0 + i ∉ qs ∧ ∃ d A E', E.reverse[i]? = some (d, A) ∧ o.dst = some d ∧ d < n ∧ (∀ g, look (L g) d = none) ∧ (∀ p ∈ E', p ∈ E ++ env) ∧ (∀ g, allowB ops qs (i0 + i) o (ph g) = true → ObOK c ops (L g) Ms (M g) E' o A))
theorem GotN.cons {fin : List (Nat × Asr) → Prop} {o : Oper} {todo : List Oper} {i0 : Nat} {env : List (Nat × Asr)} {d : Nat} {A : Asr} (h : GotN c ops qs L Ms M ph fin todo (i0 + 1) ((d, A) :: env))
    (hd : ((∃ j, qs[j]? = some i0 ∧ ∀ g, ph g = j → EffN c ops L Ms M ph g env o) ∧ (d, A) = (n, fun _ _ => True)) ∨ (i0 ∉ qs ∧ o.dst = some d ∧ d < n ∧ (∀ g, look (L g) d = none) ∧ (∀ g, allowB ops qs i0 o (ph g) = true → ObOK c ops (L g) Ms (M g) env o A))) :
    GotN c ops qs L Ms M ph fin (o :: todo) i0 env := by
  obtain ⟨E, h1, h2, h3⟩ := h
  refine ⟨E ++ [(d, A)], by simpa using h1, by simp [h2], fun i o' hi => ?_⟩
  cases i with
  | zero =>
    cases hi
    rcases hd with ⟨⟨j, e, he⟩, e2⟩ | ⟨e, k1, k2, k3, k4⟩
    · exact .inl ⟨j, e, by simp [e2], env, fun p hp => by simp [hp], he⟩
    · exact .inr ⟨e, d, A, env, by simp, k1, k2, k3, fun p hp => by simp [hp], k4⟩
  | succ i =>
    have e : i0 + (i + 1) = i0 + 1 + i := by omega
    rw [e]
    rcases h3 i o' (by simpa using hi) with ⟨j, k0, k1, E', k2, k3⟩ | ⟨k0, d', A', E', k1, k2, k3, k4, k5, k6⟩
    · exact .inl ⟨j, k0, by simpa using k1, E', fun p hp => by simpa using k2 p hp, k3⟩
    · exact .inr ⟨k0, d', A', E', by simpa using k1, k2, k3, k4, fun p hp => by simpa using k5 p hp, k6⟩
theorem DListN.all {fin : List (Nat × Asr) → Prop} : ∀ {todo : List Oper} {i0 : Nat} {env : List (Nat × Asr)}, DListN c ops qs L Ms M ph fin todo i0 env → GotN c ops qs L Ms M ph fin todo i0 env
  | [], i0, env, h => ⟨[], h, rfl, fun i o hi => by simp at hi⟩
  | o :: todo, i0, env, .inl ⟨e, h⟩ => (DListN.all h).cons (.inl ⟨e, rfl⟩)
  | o :: todo, i0, env, .inr ⟨e, d, A, k1, k2, k3, k4, h⟩ => (DListN.all h).cons (.inr ⟨e, k1, k2, k3, k4⟩)

/-- As parB; the operations of qs, which wait one for the other, may turn the state. -/
def parBN (ops : Array Oper) (s : Nat) (qs : List Nat) : Bool :=
  let l := ops.toList
  decide (s ≤ l.length) && qs.all (fun q => decide (q < s)) && decide qs.Nodup &&
  (l.take s).zipIdx.all (fun p => qs.contains p.2 || p.1.dst.isSome) &&
  (l.take s).zipIdx.all (fun p => (l.take s).zipIdx.all (fun r => decide (p.2 = r.2) || qs.contains r.2 || (p.1.dst != r.1.dst))) &&
  l.zipIdx.all (fun p => (edgesOf p.1).all (fun e => decide (e < p.2))) &&
  (l.take s).all (fun o => (l.take s).zipIdx.all (fun r => match r.1.dst with
    | some d => qs.contains r.2 || !(o.looksAt ops).contains d || (edgesOf o).contains r.2
    | none => true)) &&
  (qs.zip qs.tail).all (fun r => earlyB ops r.2 r.1)

structure ParN (c : Cx P n) (ops : Array Oper) (s : Nat) (qs : List Nat) (E : List (Nat × Asr)) (l : List (Nat × Value)) (Ms : List Mem) (μ : List Res) (p : Nat) (listed : Array Bool) (a : Act) (w : World) : Prop where
  head : HeadInv .any ops s listed
  size : a.tmps.size = n
  phase : ∀ j q, qs[j]? = some q → (listed.getD q false = true ↔ j < p)
  defers : a.defers = marksOf μ ++ c.D
  mem : MemOk c Ms μ w
  outer : ∀ t v, look l t = some v → a.tmps.getD t undef = v
  ents : ∀ (i : Nat) (d : Nat) (A : Asr), i ∉ qs → E.reverse[i]? = some (d, A) → listed.getD i false = true → EntOK c Ms μ A (a.tmps.getD d undef) w

theorem W.parN (g0 : γ) {id : Nat} {ol : List Oper} (s : Nat) (qs : List Nat) (hm : P.follows .mixedOrders = true) (hp : parBN ol.toArray s qs = true) (ht : tailB ol.toArray s = true)
    (h0 : ph g0 = 0) (hle : ∀ g, ph g ≤ qs.length) (h : DListN c ol.toArray qs L Ms M ph (fun env => ∀ g, ph g = qs.length → Dfin c ol.toArray (L g) Ms (M g) (ol.drop s) K env) (ol.take s) 0 []) : W c (.region id ol.toArray true) K (L g0) Ms (M g0) := W.mk fun a w hh => by
  obtain ⟨E, hfin, hlen, hob⟩ := DListN.all h
  rw [List.append_nil] at hfin
  simp only [Nat.zero_add, List.append_nil] at hob
  simp only [parBN, Bool.and_eq_true, decide_eq_true_eq, List.all_eq_true] at hp
  obtain ⟨⟨⟨⟨⟨⟨⟨hs, hqs⟩, hqn⟩, hdst⟩, hnd⟩, hedge⟩, hlook⟩, hchain⟩ := hp
  simp only [tailB, Bool.and_eq_true, Bool.or_eq_true, decide_eq_true_eq] at ht
  obtain ⟨htail, hseq⟩ := ht
  have hs' : s ≤ ol.length := hs
  have hlen' : E.length = s := by rw [hlen, List.length_take]; omega
  have htake : ∀ (i : Nat), i < s → ∀ (o : Oper), ol[i]? = some o → (ol.take s)[i]? = some o := fun i hi o ho => by rw [List.getElem?_take, if_pos hi]; exact ho
  have hops : ∀ (i : Nat) (o : Oper), ol.toArray[i]? = some o → ol[i]? = some o := fun i o ho => by rw [List.getElem?_toArray] at ho; exact ho
  have hdist : ∀ (i j : Nat) (oi oj : Oper) (d : Nat), i < s → j < s → j ∉ qs → ol[i]? = some oi → ol[j]? = some oj → oi.dst = some d → oj.dst = some d → i = j := by
    intro i j oi oj d hi hj hjq hoi hoj hdi hdj
    have h1 := hnd (oi, i) (List.mk_mem_zipIdx_iff_getElem?.2 (htake i hi oi hoi)) (oj, j) (List.mk_mem_zipIdx_iff_getElem?.2 (htake j hj oj hoj))
    simp only [Bool.or_eq_true, decide_eq_true_eq, bne_iff_ne, List.contains_eq_mem] at h1
    rcases h1 with (h1 | h1) | h1
    · exact h1
    · exact absurd h1 hjq
    · exact absurd (hdi.trans hdj.symm) h1
  have hwait : ∀ (i j : Nat) (oi oj : Oper) (d : Nat), i < s → j < s → j ∉ qs → ol[i]? = some oi → ol[j]? = some oj → oj.dst = some d → d ∈ oi.looksAt ol.toArray → j ∈ edgesOf oi := by
    intro i j oi oj d hi hj hjq hoi hoj hdj hd
    have h1 := hlook oi (List.mem_of_getElem? (htake i hi oi hoi)) (oj, j) (List.mk_mem_zipIdx_iff_getElem?.2 (htake j hj oj hoj))
    simp only [hdj, Bool.or_eq_true, Bool.not_eq_true', List.contains_eq_mem, decide_eq_false_iff_not, decide_eq_true_eq] at h1
    rcases h1 with (h1 | h1) | h1
    · exact absurd h1 hjq
    · exact absurd hd h1
    · exact h1
  have hback : ∀ (i : Nat) (oi : Oper), ol[i]? = some oi → ∀ e ∈ oi.after, Region.binds .any e = true → e.on < i := by
    intro i oi hoi e he hb
    have h1 := hedge (oi, i) (List.mk_mem_zipIdx_iff_getElem?.2 hoi) e.on (mem_edges he hb)
    simpa using h1
  refine wpIn_region_any hm ?_
  have hlistOf : ∀ (listed : Array Bool) (a : Act) (w : World) (g : γ), ParN c ol.toArray s qs E (L g) Ms (M g) (ph g) listed a w → (∀ i, i < s → listed.getD i false = true) → listed = Array.replicate s true ++ Array.replicate (ol.toArray.size - s) false := by
    intro listed a w g inv hall
    have hsz : listed.size = ol.length := by simpa using inv.head.size
    apply Array.ext
    · simp [hsz]; omega
    · intro i h1 h2
      rcases Nat.lt_or_ge i s with hi | hi
      · have := hall i hi
        simp [h1] at this
        rw [this, Array.getElem_append_left (by simpa using hi)]
        simp
      · have := inv.head.tail i hi (by simpa [hsz] using h1)
        simp [h1] at this
        rw [this, Array.getElem_append_right (by simpa using hi)]
        simp
  have fin : ∀ (listed : Array Bool) (a : Act) (w : World) (g : γ), ParN c ol.toArray s qs E (L g) Ms (M g) (ph g) listed a w → (∀ i, i < s → listed.getD i false = true) → wpAnyIn (fd c.r) 0 P .any ol.toArray (post c K) (ol.toArray.size - s) listed a w := by
    intro listed a w g inv hall
    have hpg : ph g = qs.length := by
      rcases Nat.lt_trichotomy (ph g) qs.length with h1 | h1 | h1
      · have h2 : qs[ph g]? = some qs[ph g] := List.getElem?_eq_getElem h1
        have := (inv.phase _ _ h2).1 (hall _ (hqs _ (List.getElem_mem h1)))
        omega
      · exact h1
      · have := hle g; omega
    have hmem := inv.mem
    have hents := inv.ents
    have hh : Holds c (L g) Ms (M g) a w := ⟨inv.size, inv.defers, inv.outer, hmem⟩
    have hk := hfin g hpg a w hh (fun p hp => by
      obtain ⟨i, hi, hpi⟩ := List.mem_iff_getElem.1 (List.mem_reverse.2 hp)
      have hil : i < s := by simpa [hlen'] using hi
      by_cases hiq : i ∈ qs
      · have hoi : ol[i]? = some (ol[i]'(by omega)) := List.getElem?_eq_getElem (by omega)
        rcases hob i _ (htake i hil _ hoi) with ⟨_, _, h1, _⟩ | ⟨h0, _⟩
        · rw [List.getElem?_eq_getElem hi, hpi] at h1
          cases h1
          exact ⟨_, hmem.empty, trivial⟩
        · exact absurd hiq h0
      · exact hents i p.1 p.2 hiq (by rw [List.getElem?_eq_getElem hi, hpi]) (hall i hil))
    have hlist := hlistOf listed a w g inv hall
    have hd : (ol.drop s).length = ol.toArray.size - s := by simp
    rw [← hd]
    refine wpAnyIn_of_seq (ol.drop s) s listed a w (fun j => by rw [List.getElem?_drop, List.getElem?_toArray]) ?_ hk
    rw [hd, hlist]
    exact hseq
  have key : ∀ (fuel : Nat) (listed : Array Bool) (a : Act) (w : World) (g : γ), ParN c ol.toArray s qs E (L g) Ms (M g) (ph g) listed a w → unlisted listed = fuel → wpAnyIn (fd c.r) 0 P .any ol.toArray (post c K) fuel listed a w := by
    intro fuel
    induction fuel with
    | zero =>
      intro listed a w g inv hf
      have hsz : listed.size = ol.length := by simpa using inv.head.size
      have hall : ∀ i, i < listed.size → listed.getD i true = true := fun i hi => unlisted_zero hf hi
      have hse : s = ol.length := by
        rcases Nat.lt_or_ge s ol.length with h1 | h1
        · have h2 := inv.head.tail s (Nat.le_refl _) (by simpa using h1)
          rw [hall s (by omega)] at h2; cases h2
        · omega
      have := fin listed a w g inv (fun i hi => by
        have h2 := hall i (by omega)
        have h3 : i < listed.size := by omega
        simp [h3] at h2 ⊢; exact h2)
      have h0 : ol.toArray.size - s = 0 := by simp; omega
      rw [h0] at this
      exact this
    | succ fuel ih =>
      intro listed a w g inv hf
      have hsz : listed.size = ol.length := by simpa using inv.head.size
      by_cases hall : ∀ i, i < s → listed.getD i false = true
      · have h1 := fin listed a w g inv hall
        have hcnt : fuel + 1 = ol.toArray.size - s := by
          rw [← hf, hlistOf listed a w g inv hall]
          simp [unlisted, List.countP_append, List.countP_replicate]
        rw [hcnt]
        exact h1
      · obtain ⟨i0, hi0⟩ := Classical.not_forall.1 hall
        obtain ⟨hi0s, hi0f⟩ := Classical.not_imp.1 hi0
        have hun0 : listed.getD i0 true = false := getD_false_of (by omega) hi0f
        refine ⟨fun hnil => ?_, fun i hi => ?_⟩
        · exfalso
          have least : ∀ (j : Nat), j < ol.length → listed.getD j true = false → False := by
            intro j
            induction j using Nat.strongRecOn with
            | _ j ihj =>
              intro hj hjf
              have hoj : ol[j]? = some ol[j] := List.getElem?_eq_getElem hj
              have hr : j ∈ Region.ready .any ol.toArray listed := by
                refine mem_ready.2 ⟨hjf, ol[j], by rw [List.getElem?_toArray]; exact hoj, fun e he hb => ?_⟩
                have hlt := hback j _ hoj e he hb
                cases hx : listed.getD e.on false with
                | true => rfl
                | false => exact (ihj e.on hlt (by omega) (getD_in (by omega) hx)).elim
              rw [hnil] at hr; cases hr
          exact least i0 (by omega) hun0
        · have his : i < s := by
            rcases Nat.lt_or_ge i s with h1 | h1
            · exact h1
            · exfalso
              rcases htail with h2 | ⟨⟨h2, h3⟩, h4⟩
              · obtain ⟨_, o, ho, _⟩ := mem_ready.1 hi
                have := (Array.getElem?_eq_some_iff.1 ho).1
                omega
              · exact tail_waits h3 h4 h2 inv.head _ i0 rfl hi0s hun0 i h1 hi
          obtain ⟨hif, o, ho, hready⟩ := mem_ready.1 hi
          have ho' := hops i o ho
          have hil : i < listed.size := by omega
          have hlooks : ∀ j oj d', j < s → j ∉ qs → ol[j]? = some oj → oj.dst = some d' → d' ∈ o.looksAt ol.toArray → listed.getD j false = true := by
            intro j oj d' hj hjq hoj hdj hd'
            obtain ⟨e, he, hb, rfl⟩ := of_edges (hwait i j o oj d' his hj hjq ho' hoj hdj hd')
            exact hready e he hb
          have hside : ∀ p ∈ E, p.1 ∈ o.looksAt ol.toArray → EntOK c Ms (M g) p.2 (a.tmps.getD p.1 undef) w := fun p hpE hpl => by
            obtain ⟨j, hj, hpj⟩ := List.mem_iff_getElem.1 (List.mem_reverse.2 hpE)
            have hjs : j < s := by simpa [hlen'] using hj
            have hoj : ol[j]? = some (ol[j]'(by omega)) := List.getElem?_eq_getElem (by omega)
            rcases hob j _ (htake j hjs _ hoj) with ⟨_, _, hE', _⟩ | ⟨hjq, d', A', _, hE', hd', _⟩
            · rw [List.getElem?_eq_getElem hj, hpj] at hE'
              cases hE'
              exact ⟨_, inv.mem.empty, trivial⟩
            · rw [List.getElem?_eq_getElem hj, hpj] at hE'
              cases hE'
              exact inv.ents j _ _ hjq (by rw [List.getElem?_eq_getElem hj, hpj]) (hlooks j _ _ hjs hjq hoj hd' hpl)
          rcases hob i o (htake i his o ho') with ⟨jq, hjq0, hE, E', hsub, heff⟩ | ⟨hiq, d, A, E', hE, hd, hdn, hld0, hsub, hok⟩
          · -- one that turns the state
            have hiqs : i ∈ qs := List.mem_of_getElem? hjq0
            have hq0 : ¬ listed.getD i false = true := fun hx => by have := (getD_of_true hx).2; rw [hif] at this; cases this
            have hpj : ph g = jq := by
              have h1 : ¬ jq < ph g := fun h => hq0 ((inv.phase _ _ hjq0).2 h)
              rcases Nat.eq_zero_or_pos jq with h2 | h2
              · omega
              · have hjl := (List.getElem?_eq_some_iff.1 hjq0).1
                have h3 : qs[jq - 1]? = some (qs[jq - 1]'(by omega)) := List.getElem?_eq_getElem (by omega)
                have h4 : (qs[jq - 1]'(by omega), i) ∈ qs.zip qs.tail := by
                  refine List.mem_of_getElem? (i := jq - 1) ?_
                  rw [List.getElem?_zip_eq_some]
                  refine ⟨h3, ?_⟩
                  rw [List.getElem?_tail, show jq - 1 + 1 = jq by omega]
                  exact hjq0
                have h5 := hchain _ h4
                unfold earlyB at h5
                simp only [ho] at h5
                obtain ⟨e, he, hb, he2⟩ := of_edges (by simpa using h5)
                have := hready e he hb
                rw [he2] at this
                have := (inv.phase _ _ h3).1 this
                omega
            have hmem := inv.mem
            have hents := inv.ents
            obtain ⟨hw, hrun⟩ := heff g hpj a w inv.size inv.defers inv.outer hmem (fun p hp hpl => hside p (hsub p hp) hpl)
            obtain ⟨X, hX, hXE⟩ := collect (a := a) hmem E
            unfold wpOpIn
            simp only [ho]
            rw [if_pos hw]
            refine wpIn_eff (fun a' w' v htm ⟨g', hph, h1, h2, h3, h4⟩ => ?_) (fun _ _ _ h => h.1) (hrun X hX)
            have hl1 : (listed.setIfInBounds i true).getD i false = true := by simp [hil]
            have hsub1 : ∀ mr ∈ X, MemOk c (mr :: Ms) (M g') w' := fun mr hmr => h4.union h4 (fun m hm => .inl (by
              rcases List.mem_cons.1 hm with rfl | hm
              · exact List.mem_append_left _ hmr
              · exact List.mem_append_right _ hm))
            refine ih _ _ _ g' ⟨inv.head.set hi his, h1, fun j q hj => ?_, h2, ?_, h3, fun j d' A' hjq hj hl => ?_⟩ (by have := unlisted_set hif; omega)
            · by_cases hqi : q = i
              · subst hqi
                have : j = jq := (List.getElem?_inj (List.getElem?_eq_some_iff.1 hj).1 hqn).1 (hj.trans hjq0.symm)
                constructor
                · intro _; omega
                · intro _; exact hl1
              · rw [getD_set_ne false (fun e => hqi e.symm), inv.phase _ _ hj]
                have : j ≠ jq := fun e => by subst e; rw [hjq0] at hj; cases hj; exact hqi rfl
                omega
            · exact h4.union h4 (fun m hm => .inl (List.mem_append_right _ hm))
            · have hji : j ≠ i := fun e => hjq (e ▸ hiqs)
              have hlj : listed.getD j false = true := by rw [getD_set_ne false (Ne.symm hji)] at hl; exact hl
              obtain ⟨mr, hmr, hA⟩ := hXE (d', A') (List.mem_reverse.1 (List.mem_of_getElem? hj)) (hents j d' A' hjq hj hlj)
              have hjs : j < s := by
                have := (List.getElem?_eq_some_iff.1 hj).1
                simpa [hlen'] using this
              have hoj : ol[j]? = some (ol[j]'(by omega)) := List.getElem?_eq_getElem (by omega)
              rcases hob j _ (htake j hjs _ hoj) with ⟨_, e, _⟩ | ⟨_, d2, A2, _, hE2, hd2, _⟩
              · exact absurd (List.mem_of_getElem? e) hjq
              · rw [hj] at hE2
                cases hE2
                have : a'.tmps.getD d' undef = a.tmps.getD d' undef := by
                  rw [htm]
                  cases hdst' : o.dst with
                  | none => rfl
                  | some d =>
                    have hne : d ≠ d' := fun e => hji (hdist i j o _ d' his hjs hjq ho' hoj (e ▸ hdst') hd2).symm
                    simp only [Act.put, Array.getD_eq_getD_getElem?, Array.getElem?_setIfInBounds_ne hne]
                rw [this]
                exact ⟨mr, hsub1 mr hmr, hA⟩
          · have hal : allowB ol.toArray qs i o (ph g) = true := by
              simp only [allowB, List.all_eq_true, Bool.and_eq_true, Bool.or_eq_true, Bool.not_eq_true', decide_eq_true_eq, decide_eq_false_iff_not]
              rintro ⟨q, j⟩ hr
              have hj : qs[j]? = some q := List.mk_mem_zipIdx_iff_getElem?.1 hr
              refine ⟨?_, ?_⟩
              · by_cases h1 : (edgesOf o).contains q = true
                · obtain ⟨e, he, hb, he2⟩ := of_edges (by simpa using h1)
                  have := hready e he hb
                  rw [he2] at this
                  exact .inr ((inv.phase _ _ hj).1 this)
                · exact .inl (by simpa using h1)
              · by_cases h1 : j < ph g
                · refine .inr ?_
                  have hlq := (inv.phase _ _ hj).2 h1
                  cases hx : earlyB ol.toArray q i with
                  | false => rfl
                  | true =>
                    exfalso
                    unfold earlyB at hx
                    split at hx
                    · rename_i oq hoq
                      obtain ⟨e, he, hb, rfl⟩ := of_edges (by simpa using hx)
                      have := inv.head.closed q oq hoq hlq e he hb
                      have := (getD_of_true this).2
                      rw [hif] at this; cases this
                    · cases hx
                · exact .inl h1
            have hph := hok g (hal)
            have hmem := inv.mem
            have hout := inv.outer
            have hents := inv.ents
            refine wpOpIn_of (R := fun u w' => Ext w w' ∧ EntOK c Ms (M g) A u w') ho ?_ ?_
            · rcases hph a w inv.size inv.defers hmem (fun t _ v hv => hout t v hv) (fun p hp hpl => hside p (hsub p hp) hpl) with ⟨h1, h2⟩ | ⟨h1, h2⟩
              · exact .inl ⟨h1, h2⟩
              · exact .inr ⟨h1, Kp.refl _ w, h2⟩
            · rintro u w' ⟨hx, hu⟩
              refine ih _ _ _ g ⟨inv.head.set hi his, by simp [Act.put, hd, inv.size], fun j q hj => ?_, by simp only [Act.put, hd]; exact inv.defers, hmem.ext hx, fun t v hv => ?_, fun j d' A' hjq hj hl => ?_⟩ (by have := unlisted_set hif; omega)
              · have hqi : q ≠ i := fun e => hiq (e ▸ List.mem_of_getElem? hj)
                rw [getD_set_ne false (fun e => hqi e.symm), inv.phase _ _ hj]
              · have hne : d ≠ t := fun e => by
                  subst e
                  rw [hld0 g] at hv; cases hv
                have := hout t v hv
                simp only [Act.put, hd, Array.getD_eq_getD_getElem?, Array.getElem?_setIfInBounds_ne hne] at this ⊢
                exact this
              · by_cases hji : j = i
                · subst hji
                  rw [hE] at hj
                  cases hj
                  have : (a.put o.dst u).tmps.getD d undef = u := by simp [Act.put, hd, inv.size, hdn]
                  rw [this]; exact hu
                · have hlj : listed.getD j false = true := by rw [getD_set_ne false (Ne.symm hji)] at hl; exact hl
                  have hjs : j < s := by
                    have := (List.getElem?_eq_some_iff.1 hj).1
                    simpa [hlen'] using this
                  have hoj : ol[j]? = some (ol[j]'(by omega)) := List.getElem?_eq_getElem (by omega)
                  rcases hob j _ (htake j hjs _ hoj) with ⟨_, e, _⟩ | ⟨_, d2, A2, _, hE2, hd2, _⟩
                  · exact absurd (List.mem_of_getElem? e) hjq
                  · rw [hj] at hE2
                    cases hE2
                    have hne : d ≠ d' := fun e => hji (hdist j i _ o d hjs his hiq hoj ho' (e ▸ hd2) hd)
                    have h1 := (hents j d' A' hjq hj hlj).ext hx
                    have : (a.put o.dst u).tmps.getD d' undef = a.tmps.getD d' undef := by
                      simp only [Act.put, hd, Array.getD_eq_getD_getElem?, Array.getElem?_setIfInBounds_ne hne]
                    rw [this]; exact h1
  refine key _ _ a _ g0 ⟨⟨by simp, fun j oj _ hl => (by rw [getD_replicate_false] at hl; cases hl), fun t _ ht => getD_in (by simpa using ht) (getD_replicate_false _ _)⟩, hh.size, fun j q hj => ⟨fun hl => (by rw [getD_replicate_false] at hl; cases hl), fun hl => (by omega)⟩, hh.defers, hh.mem.ext (Ext.draw w), hh.slots, fun i d A _ _ hl => (by rw [getD_replicate_false] at hl; cases hl)⟩ (by simp [unlisted, List.countP_replicate])

variable {o : Oper} {E : List (Nat × Value)} {Γ : List (Nat × Asr)} {todo tail : List Oper} {i : Nat}
def DJN (c : Cx P n) (ops : Array Oper) (qs : List Nat) (L : γ → List (Nat × Value)) (Ms : List Mem) (M : γ → List Res) (ph : γ → Nat) (tail : List Oper) (K : Post) (todo : List Oper) (i : Nat) (E : List (Nat × Value)) (Γ : List (Nat × Asr)) : Prop :=
  ∀ env : List (Nat × Asr), (∀ p ∈ Γ, p ∈ env ∧ p.1 < n) → (∀ t v, look E t = some v → (t, fun _ u => u = v) ∈ env ∧ t < n) → (∀ g, keysB (L g) n = true) →
    DListN c ops qs L Ms M ph (fun env => ∀ g, ph g = qs.length → Dfin c ops (L g) Ms (M g) tail K env) todo i env
theorem W.drawN (g0 : γ) {id : Nat} {ol : List Oper} {l : List (Nat × Value)} {μ : List Res} (s : Nat) (qs : List Nat) (L : γ → List (Nat × Value)) (M : γ → List Res) (ph : γ → Nat) (hm : P.follows .mixedOrders = true) (hp : parBN ol.toArray s qs = true) (ht : tailB ol.toArray s = true) (h0 : ph g0 = 0) (hle : ∀ g, ph g ≤ qs.length)
    (hk : ∀ g, keysB (L g) n = true) (hl : L g0 = l) (hμ : M g0 = μ) (h : DJN c ol.toArray qs L Ms M ph (ol.drop s) K (ol.take s) 0 [] []) : W c (.region id ol.toArray true) K l Ms μ := by
  subst hl hμ
  exact W.mk (W.parN g0 s qs hm hp ht h0 hle (h [] (fun _ h => by cases h) (fun _ _ h => by cases h) hk)).un
theorem DJN.step {A : Asr} {d : Nat} (hiq : qs.contains i = false) (hd : o.dst = some d) (hn : Nat.blt d n = true) (hl : ∀ g, look (L g) d = none)
    (hob : ∀ env, (∀ p ∈ Γ, p ∈ env ∧ p.1 < n) → (∀ t v, look E t = some v → (t, fun _ u => u = v) ∈ env ∧ t < n) → (∀ g, keysB (L g) n = true) →
      ∀ g, allowB ops qs i o (ph g) = true → ObOK c ops (L g) Ms (M g) env o A)
    {E' : List (Nat × Value)} {Γ' : List (Nat × Asr)} (hE : ∀ t v, look E' t = some v → look E t = some v ∨ (t, A) = (d, fun _ u => u = v)) (hΓ : ∀ p ∈ Γ', p ∈ Γ ∨ p = (d, A))
    (h : DJN c ops qs L Ms M ph tail K todo (i + 1) E' Γ') : DJN c ops qs L Ms M ph tail K (o :: todo) i E Γ := fun env hΓe hEe hk => by
  refine .inr ⟨fun e => by rw [List.contains_eq_mem, decide_eq_false_iff_not] at hiq; exact hiq e, d, A, hd, Nat.lt_of_blt hn, hl, hob env hΓe hEe hk, h _ (fun p hp => ?_) (fun t v ht => ?_) hk⟩
  · rcases hΓ p hp with h1 | rfl
    · exact ⟨.tail _ (hΓe p h1).1, (hΓe p h1).2⟩
    · exact ⟨.head _, Nat.lt_of_blt hn⟩
  · rcases hE t v ht with h1 | h1
    · exact ⟨.tail _ (hEe t v h1).1, (hEe t v h1).2⟩
    · cases h1; exact ⟨.head _, Nat.lt_of_blt hn⟩
theorem DJN.val (G : List (Nat × Asr)) {v : Value} {d : Nat} (hv : ∀ g, allowB ops qs i o (ph g) = true → OpenE (fun l Ms => OpVal c o l Ms (M g) v) G (E ++ L g) Ms)
    (hw : ∀ g, allowB ops qs i o (ph g) = true → want ops (E ++ L g) o = some true) (hd : o.dst = some d) (hn : Nat.blt d n = true) (hl : ∀ g, look (L g) d = none) (hiq : qs.contains i = false)
    (h : DJN c ops qs L Ms M ph tail K todo (i + 1) ((d, v) :: E) Γ) (hG : GOk ops o Γ G := by exact trivial) : DJN c ops qs L Ms M ph tail K (o :: todo) i E Γ := by
  refine DJN.step (A := fun _ u => u = v) hiq hd hn hl (fun env hΓe hEe hk g hg => ?_) (fun t u ht => ?_) (fun p hp => .inl hp) h
  · exact ObOK.ofOpen G (OpenE.imp (fun l' Ms' hk' a' w hh => (hk'.un a' w hh).mono fun u w' ⟨hu, hx⟩ => ⟨hx, _, (hh.mem.ext hx).empty, hu⟩) (hv g hg)) (hw g hg) (fun p hp => ⟨(hΓe p (hG.spec p hp).1).1, (hG.spec p hp).2, (hΓe p (hG.spec p hp).1).2⟩) (known (hk g) hEe)
  · simp only [look] at ht
    split at ht
    · rename_i e; cases Nat.eq_of_beq_eq_true e; cases ht; exact .inr rfl
    · exact .inl ht
theorem DJN.abs (G : List (Nat × Asr)) {A : Asr} {d : Nat} (hv : ∀ g, allowB ops qs i o (ph g) = true → OpenE (fun l Ms => OpAbs c o l Ms (M g) A) G (E ++ L g) Ms)
    (hw : ∀ g, allowB ops qs i o (ph g) = true → want ops (E ++ L g) o = some true) (hd : o.dst = some d) (hn : Nat.blt d n = true) (hl : ∀ g, look (L g) d = none) (hiq : qs.contains i = false)
    (h : DJN c ops qs L Ms M ph tail K todo (i + 1) E ((d, A) :: Γ)) (hG : GOk ops o Γ G := by exact trivial) : DJN c ops qs L Ms M ph tail K (o :: todo) i E Γ := by
  refine DJN.step (A := A) hiq hd hn hl (fun env hΓe hEe hk g hg => ?_) (fun t u ht => .inl ht) (fun p hp => ?_) h
  · exact ObOK.ofOpen G (OpenE.imp (fun l' Ms' hk' a' w hh => (hk'.un a' w hh).mono fun u w' ⟨hx, mr, hs, hfr, hA⟩ => ⟨hx, mr, hh.mem.add hx hs hfr, hA⟩) (hv g hg)) (hw g hg) (fun p hp => ⟨(hΓe p (hG.spec p hp).1).1, (hG.spec p hp).2, (hΓe p (hG.spec p hp).1).2⟩) (known (hk g) hEe)
  · rcases List.mem_cons.1 hp with rfl | hp
    · exact .inr rfl
    · exact .inl hp
/-- The state behind a turn, one of those of the next phase. -/
def KeffN (L : γ → List (Nat × Value)) (X : List Mem) (M : γ → List Res) (ph : γ → Nat) (p : Nat) : Post := fun e l Ms μ => ∃ g, ph g = p ∧ Keff (L g) X (M g) e l Ms μ
theorem DJN.eff (j : Nat) (E' : List (Nat × Value)) (hE' : Has E E') (hlk : E'.all (fun p => (o.looksAt ops).contains p.1) = true) (hj : qs[j]? = some i) (G : List (Nat × Asr)) (hG : GOk ops o Γ G)
    (he : ∀ g, ph g = j → want ops (E' ++ L g) o = some true ∧ ∀ Ms', (∀ m ∈ Ms, m ∈ Ms') → OpenE (fun l' Ms2 => WL c ops [o] (KeffN L Ms' M ph (j + 1)) l' Ms2 (M g)) G (E' ++ L g) Ms')
    (h : DJN c ops qs L Ms M ph tail K todo (i + 1) E Γ) : DJN c ops qs L Ms M ph tail K (o :: todo) i E Γ := fun env hΓe hEe hk => by
  refine .inl ⟨⟨j, hj, fun g hg a w hsz hD hout hm hents => ?_⟩, h _ (fun p hp => ⟨.tail _ (hΓe p hp).1, (hΓe p hp).2⟩) (fun t v ht => ⟨.tail _ (hEe t v ht).1, (hEe t v ht).2⟩) hk⟩
  obtain ⟨hwn, he⟩ := he g hg
  have hslots : ∀ t v, look (E' ++ L g) t = some v → a.tmps.getD t undef = v := fun t v ht => by
    rcases look_append ht with h1 | h1
    · obtain ⟨p, hp, rfl⟩ := look_key h1
      obtain ⟨mr, _, h2⟩ := hents _ (hEe _ v (hE'.look _ _ h1)).1 (by have := List.all_eq_true.1 hlk p hp; simpa using this)
      exact h2
    · exact hout t v h1
  have hh : ∀ X, MemOk c (X ++ Ms) (M g) w → Holds c (E' ++ L g) (X ++ Ms) (M g) a w := fun X hX => ⟨hsz, hD, hslots, hX⟩
  have hwant : Region.wanted o (yielded ops a.tmps) = true := want_spec (hh [] hm) hwn
  refine ⟨hwant, fun X hX => ?_⟩
  obtain ⟨l2, Ms2, hk2, hh2⟩ := OpenE.holds (Ms0 := Ms) (fun m hm => List.mem_append_right _ hm) (he (X ++ Ms) (fun m hm => List.mem_append_right _ hm)) (hh X hX) (fun p hp => hents p (hΓe p (hG.spec p hp).1).1 (hG.spec p hp).2)
  have := hk2.un a w hh2
  unfold wpListIn at this
  rw [if_pos hwant] at this
  refine wpIn_eff (fun a' w' v htm h1 => ?_) (fun e a w ⟨l, Ms, μ, ⟨_, _, h1⟩, _⟩ => h1.1) this
  obtain ⟨l', Ms', μ', ⟨g', hp, _, h2, h3, h4, hmk⟩, h5⟩ := h1
  have h6 := h5.weaken h2 h3 h4 hmk
  exact ⟨g', by rw [hp, hg], h6.size, h6.defers, h6.slots, h6.mem⟩
theorem DJN.nil (h : ∀ g, ph g = qs.length → OpenE (fun l' Ms' => WL c ops tail K l' Ms' (M g)) Γ (E ++ L g) Ms) : DJN c ops qs L Ms M ph tail K [] i E Γ := fun env hΓe hEe hk g hg a w hh hents => by
  have hh' : Holds c (E ++ L g) Ms (M g) a w := ⟨hh.size, hh.defers, fun t v ht => by
    rcases look_append ht with h1 | h1
    · obtain ⟨mr, _, h2⟩ := hents _ (hEe t v h1).1; exact h2
    · exact hh.slots t v h1, hh.mem⟩
  obtain ⟨l', Ms', hk', hh2⟩ := OpenE.holds (Ms0 := Ms) (fun _ h => h) (h g hg) hh' (fun p hp => hents p (hΓe p hp).1)
  exact hk'.un a w hh2
/-- Two turns. -/
inductive Ph2 (α β : Type)
  | a
  | b (x : α)
  | c (x : α) (y : β)
def Ph2.num {α β : Type} : Ph2 α β → Nat
  | .a => 0
  | .b _ => 1
  | .c _ _ => 2
@[reducible] def Ph2.sel {α β σ : Type} (u : σ) (v : α → σ) (w : α → β → σ) : Ph2 α β → σ
  | .a => u
  | .b x => v x
  | .c x y => w x y
theorem Ph2.all {α β : Type} {Q : Ph2 α β → Prop} (h1 : Q .a) (h2 : ∀ x, Q (.b x)) (h3 : ∀ x y, Q (.c x y)) : ∀ g, Q g
  | .a => h1
  | .b x => h2 x
  | .c x y => h3 x y
theorem Ph2.le {α β : Type} : ∀ g : Ph2 α β, g.num ≤ 2
  | .a => Nat.le_of_ble_eq_true rfl
  | .b _ => Nat.le_of_ble_eq_true rfl
  | .c _ _ => Nat.le_of_ble_eq_true rfl
/-- Three turns. -/
inductive Ph3 (α β δ : Type)
  | a
  | b (x : α)
  | c (x : α) (y : β)
  | d (x : α) (y : β) (z : δ)
def Ph3.num {α β δ : Type} : Ph3 α β δ → Nat
  | .a => 0
  | .b _ => 1
  | .c _ _ => 2
  | .d _ _ _ => 3
@[reducible] def Ph3.sel {α β δ σ : Type} (u : σ) (v : α → σ) (w : α → β → σ) (t : α → β → δ → σ) : Ph3 α β δ → σ
  | .a => u
  | .b x => v x
  | .c x y => w x y
  | .d x y z => t x y z
theorem Ph3.all {α β δ : Type} {Q : Ph3 α β δ → Prop} (h1 : Q .a) (h2 : ∀ x, Q (.b x)) (h3 : ∀ x y, Q (.c x y)) (h4 : ∀ x y z, Q (.d x y z)) : ∀ g, Q g
  | .a => h1
  | .b x => h2 x
  | .c x y => h3 x y
  | .d x y z => h4 x y z
theorem Ph3.le {α β δ : Type} : ∀ g : Ph3 α β δ, g.num ≤ 3
  | .a => Nat.le_of_ble_eq_true rfl
  | .b _ => Nat.le_of_ble_eq_true rfl
  | .c _ _ => Nat.le_of_ble_eq_true rfl
  | .d _ _ _ => Nat.le_of_ble_eq_true rfl
end

open Go Go.RowKit
section
variable {P : Program} {n : Nat} {c : Cx P n} {K : Post} {l : List (Nat × Value)} {Ms : List Mem} {μ : List Res} {ops : Array Oper} {rest : List Oper}
/-- In a scope: no jump. -/
def Kscope (K : Post) : Post := fun e l Ms μ => (∀ j, e ≠ .goto j) ∧ K e l Ms μ
theorem Kscope.ret (h : K .ret l Ms μ) : Kscope K .ret l Ms μ := ⟨fun _ h => (by cases h), h⟩
theorem Kscope.normal (h : K .normal l Ms μ) : Kscope K .normal l Ms μ := ⟨fun _ h => (by cases h), h⟩
theorem W.scope {x : Code} (hr : c.r = none) (h : W c x (Kscope K) l Ms μ) : W c (.scope x) K l Ms μ := W.mk fun a w hh => by
  have h1 := h.un a w hh
  rw [hr, fd_none] at h1 ⊢
  refine wpIn_wide.2 (wp_scope_straight (wpIn_wide.1 (wpIn_mono h1 fun e a w ⟨l', Ms', μ', ⟨h2, h3⟩, h4⟩ => ?_)))
  cases e with
  | goto j => exact absurd rfl (h2 j)
  | _ => exact ⟨l', Ms', μ', h3, h4⟩
theorem WL.freezeCells {T : TypeId} {k : Nat} {v : Value} {N : Nat} {xs : List Value} {μ' : List Res} (hp : Pick (.row T k v N xs) μ μ') (hF : ∀ b, c.F b → b ∈ feet μ') (h1 : ∀ u ∈ xs, u.oneCell' = true)
    (h : ∀ mr, IsCells mr k v N xs → WL c ops rest K l (mr :: Ms) μ') : WL c ops rest K l Ms μ := WL.mk fun a w hh => by
  have hok : w.ownsRow 0 T k v N xs := hh.mem.res _ hp.mem
  refine (h _ (isCells_of_row hok h1 ?_)).un a w ⟨hh.size, by rw [hp.marks rfl]; exact hh.defers, hh.slots, hh.mem.freeze hp hF⟩
  intro b hb
  simp only [Res.foot, hb, if_true]
theorem WL.freezeInts {T : TypeId} {v : Value} {xs : List Int} {μ' : List Res} (hp : Pick (ir T v xs) μ μ') (hF : ∀ b, c.F b → b ∈ feet μ')
    (h : ∀ mr, IsInts mr v xs → WL c ops rest K l (mr :: Ms) μ') : WL c ops rest K l Ms μ :=
  WL.freezeCells hp hF (by simp [Value.oneCell']) fun mr hmr => h mr (ints_of_cells hmr.2)
end

open Go Go.RowKit

section
variable {P : Program} {n : Nat} {c : Cx P n} {K : Post} {l : List (Nat × Value)} {Ms : List Mem} {μ : List Res}
end
section
variable {P : Program} {n : Nat} {c : Cx P n} {K : Post} {l : List (Nat × Value)} {Ms : List Mem} {μ : List Res} {ops : Array Oper} {rest : List Oper} {dst : Option Tmp} {x y : Operand} {t ty : TypeId} {pos : String} {af : Array Edge} {gd : Option (Nat × Bool)}
end
section
variable {P : Program} {n : Nat} {c : Cx P n} {l : List (Nat × Value)} {Ms : List Mem} {μ : List Res} {dst : Option Tmp} {x y : Operand} {t ty : TypeId} {pos : String} {af : Array Edge} {gd : Option (Nat × Bool)}
end

open Go Go.RowKit
section
variable {P : Program} {n : Nat} {c : Cx P n} {K : Post} {l : List (Nat × Value)} {Ms : List Mem} {μ : List Res} {ops : Array Oper}
structure ParInvD (c : Cx P n) (ops : Array Oper) (s : Nat) (E : List (Nat × Asr)) (as : List (Nat × Nat)) (l : List (Nat × Value)) (Ms : List Mem) (μ : List Res) (listed : Array Bool) (a : Act) (w : World) : Prop where
  head : HeadInv .any ops s listed
  size : a.tmps.size = n
  defers : a.defers = marksOf μ ++ c.D
  mem : MemOk c Ms μ w
  outer : ∀ t v, look l t = some v → a.tmps.getD t undef = v
  ents : ∀ (i : Nat) (d : Nat) (A : Asr), E.reverse[i]? = some (d, A) → listed.getD i false = true → EntOK c Ms μ A (a.tmps.getD d undef) w
  old : ∀ p ∈ as, listed.getD p.1 false = true → ∃ b, a.tmps.getD p.2 undef = .pointer (some ⟨b, 0, none⟩) ∧ b < w.heap.size
  apart : ∀ p ∈ as, ∀ q ∈ as, p.1 ≠ q.1 → listed.getD p.1 false = true → listed.getD q.1 false = true → a.tmps.getD p.2 undef ≠ a.tmps.getD q.2 undef
variable {o : Oper} {L : List (Nat × Value)} {Γ : List (Nat × Asr)} {todo tail : List Oper} {as : List (Nat × Nat)}
end

end Go.Eng
