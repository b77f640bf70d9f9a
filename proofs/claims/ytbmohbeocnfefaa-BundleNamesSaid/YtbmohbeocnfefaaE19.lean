/- The logic's rules for what is carried out in some order, where operations turn the state that need not come one behind the other. -/
import Derived.Test.YtbmohbeocnfefaaEngineB
namespace Go.Eng
open Go Go.RowKit
section
variable {P : Program} {n : Nat} {c : Cx P n} {K : Post} {γ : Type} {L : γ → List (Nat × Value)} {Ms : γ → List Mem} {M : γ → List Res} {ph : γ → Nat → Bool} {ops : Array Oper} {qs : List Nat}
def allowY (ops : Array Oper) (qs : List Nat) (i : Nat) (o : Oper) (p : Nat → Bool) : Bool :=
  qs.all fun q => (!(edgesOf o).contains q || p q) && (!p q || !earlyB ops q i)
def parBY (ops : Array Oper) (s : Nat) (qs : List Nat) : Bool :=
  let l := ops.toList
  decide (s ≤ l.length) && qs.all (fun q => decide (q < s)) &&
  (l.take s).zipIdx.all (fun p => qs.contains p.2 || p.1.dst.isSome) &&
  (l.take s).zipIdx.all (fun p => (l.take s).zipIdx.all (fun r => decide (p.2 = r.2) || qs.contains r.2 || (p.1.dst != r.1.dst))) &&
  l.zipIdx.all (fun p => (edgesOf p.1).all (fun e => decide (e < p.2))) &&
  (l.take s).all (fun o => (l.take s).zipIdx.all (fun r => match r.1.dst with
    | some d => qs.contains r.2 || !(o.looksAt ops).contains d || (edgesOf o).contains r.2
    | none => true))
structure ParY (c : Cx P n) (ops : Array Oper) (s : Nat) (qs : List Nat) (E : List (Nat × Asr)) (l : List (Nat × Value)) (Ms : List Mem) (μ : List Res) (p : Nat → Bool) (listed : Array Bool) (a : Act) (w : World) : Prop where
  head : HeadInv .any ops s listed
  size : a.tmps.size = n
  phase : ∀ q, q ∈ qs → listed.getD q false = p q
  defers : a.defers = marksOf μ ++ c.D
  mem : MemOk c Ms μ w
  outer : ∀ t v, look l t = some v → a.tmps.getD t undef = v
  ents : ∀ (i : Nat) (d : Nat) (A : Asr), i ∉ qs → E.reverse[i]? = some (d, A) → listed.getD i false = true → EntOK c Ms μ A (a.tmps.getD d undef) w
/-- Of the operation that turns the state. -/
def EffY (c : Cx P n) (ops : Array Oper) (L : γ → List (Nat × Value)) (Ms : γ → List Mem) (M : γ → List Res) (ph : γ → Nat → Bool) (qs : List Nat) (i : Nat) (g : γ) (env : List (Nat × Asr)) (o : Oper) : Prop :=
  ∀ (a : Act) (w : World), a.tmps.size = n → a.defers = marksOf (M g) ++ c.D → (∀ t v, look (L g) t = some v → a.tmps.getD t undef = v) → MemOk c (Ms g) (M g) w →
    (∀ p ∈ env, p.1 ∈ o.looksAt ops → EntOK c (Ms g) (M g) p.2 (a.tmps.getD p.1 undef) w) → Region.wanted o (yielded ops a.tmps) = true ∧ ∀ X, MemOk c (X ++ Ms g) (M g) w →
      o.wpIn (fd c.r) 0 P a w (fun a' w' => ∃ g', (∀ q, q ∈ qs → ph g' q = (ph g q || decide (q = i))) ∧ a'.tmps.size = n ∧ a'.defers = marksOf (M g') ++ c.D ∧ (∀ t v, look (L g') t = some v → a'.tmps.getD t undef = v) ∧ MemOk c (X ++ Ms g') (M g') w') (fun e _ _ => e = .normal ∧ False)
def DListY (c : Cx P n) (ops : Array Oper) (qs : List Nat) (L : γ → List (Nat × Value)) (Ms : γ → List Mem) (M : γ → List Res) (ph : γ → Nat → Bool) (fin : List (Nat × Asr) → Prop) : List Oper → Nat → List (Nat × Asr) → Prop
  | [], _, env => fin env
  | o :: todo, i, env => ((i ∈ qs ∧ ∀ g, allowY ops qs i o (ph g) = true → ph g i = false → EffY c ops L Ms M ph qs i g env o) ∧ DListY c ops qs L Ms M ph fin todo (i + 1) ((n, fun _ _ => True) :: env)) ∨
    (i ∉ qs ∧ ∃ d A, o.dst = some d ∧ d < n ∧ (∀ g, look (L g) d = none) ∧ (∀ g, allowY ops qs i o (ph g) = true → ObOK c ops (L g) (Ms g) (M g) env o A) ∧
      DListY c ops qs L Ms M ph fin todo (i + 1) ((d, A) :: env))
def GotY (c : Cx P n) (ops : Array Oper) (qs : List Nat) (L : γ → List (Nat × Value)) (Ms : γ → List Mem) (M : γ → List Res) (ph : γ → Nat → Bool) (fin : List (Nat × Asr) → Prop) (todo : List Oper) (i0 : Nat) (env : List (Nat × Asr)) : Prop :=
    ∃ E : List (Nat × Asr), fin (E ++ env) ∧ E.length = todo.length ∧ ∀ (i : Nat) (o : Oper), todo[i]? = some o →
      (i0 + i ∈ qs ∧ E.reverse[i]? = some (n, fun _ _ => True) ∧ ∃ E', (∀ p ∈ E', p ∈ E ++ env) ∧ ∀ g, allowY ops qs (i0 + i) o (ph g) = true → ph g (i0 + i) = false → EffY c ops L Ms M ph qs (i0 + i) g E' o) ∨
      (i0 + i ∉ qs ∧ ∃ d A E', E.reverse[i]? = some (d, A) ∧ o.dst = some d ∧ d < n ∧ (∀ g, look (L g) d = none) ∧ (∀ p ∈ E', p ∈ E ++ env) ∧ (∀ g, allowY ops qs (i0 + i) o (ph g) = true → ObOK c ops (L g) (Ms g) (M g) E' o A))
theorem GotY.cons {fin : List (Nat × Asr) → Prop} {o : Oper} {todo : List Oper} {i0 : Nat} {env : List (Nat × Asr)} {d : Nat} {A : Asr} (h : GotY c ops qs L Ms M ph fin todo (i0 + 1) ((d, A) :: env))
    (hd : ((i0 ∈ qs ∧ ∀ g, allowY ops qs i0 o (ph g) = true → ph g i0 = false → EffY c ops L Ms M ph qs i0 g env o) ∧ (d, A) = (n, fun _ _ => True)) ∨ (i0 ∉ qs ∧ o.dst = some d ∧ d < n ∧ (∀ g, look (L g) d = none) ∧ (∀ g, allowY ops qs i0 o (ph g) = true → ObOK c ops (L g) (Ms g) (M g) env o A))) :
    GotY c ops qs L Ms M ph fin (o :: todo) i0 env := by
  obtain ⟨E, h1, h2, h3⟩ := h
  refine ⟨E ++ [(d, A)], by simpa using h1, by simp [h2], fun i o' hi => ?_⟩
  cases i with
  | zero =>
    cases hi
    rcases hd with ⟨⟨e, he⟩, e2⟩ | ⟨e, k1, k2, k3, k4⟩
    · exact .inl ⟨e, by simp [e2], env, fun p hp => by simp [hp], he⟩
    · exact .inr ⟨e, d, A, env, by simp, k1, k2, k3, fun p hp => by simp [hp], k4⟩
  | succ i =>
    have e : i0 + (i + 1) = i0 + 1 + i := by omega
    rw [e]
    rcases h3 i o' (by simpa using hi) with ⟨k0, k1, E', k2, k3⟩ | ⟨k0, d', A', E', k1, k2, k3, k4, k5, k6⟩
    · exact .inl ⟨k0, by simpa using k1, E', fun p hp => by simpa using k2 p hp, k3⟩
    · exact .inr ⟨k0, d', A', E', by simpa using k1, k2, k3, k4, fun p hp => by simpa using k5 p hp, k6⟩
theorem DListY.all {fin : List (Nat × Asr) → Prop} : ∀ {todo : List Oper} {i0 : Nat} {env : List (Nat × Asr)}, DListY c ops qs L Ms M ph fin todo i0 env → GotY c ops qs L Ms M ph fin todo i0 env
  | [], i0, env, h => ⟨[], h, rfl, fun i o hi => by simp at hi⟩
  | o :: todo, i0, env, .inl ⟨e, h⟩ => (DListY.all h).cons (.inl ⟨e, rfl⟩)
  | o :: todo, i0, env, .inr ⟨e, d, A, k1, k2, k3, k4, h⟩ => (DListY.all h).cons (.inr ⟨e, k1, k2, k3, k4⟩)

theorem W.parY (g0 : γ) {id : Nat} {ol : List Oper} (s : Nat) (qs : List Nat) (hm : P.follows .mixedOrders = true) (hp : parBY ol.toArray s qs = true) (ht : tailB ol.toArray s = true)
    (h0 : ∀ q, q ∈ qs → ph g0 q = false) (h : DListY c ol.toArray qs L Ms M ph (fun env => ∀ g, (∀ q, q ∈ qs → ph g q = true) → Dfin c ol.toArray (L g) (Ms g) (M g) (ol.drop s) K env) (ol.take s) 0 []) : W c (.region id ol.toArray true) K (L g0) (Ms g0) (M g0) := W.mk fun a w hh => by
  obtain ⟨E, hfin, hlen, hob⟩ := DListY.all h
  rw [List.append_nil] at hfin
  simp only [Nat.zero_add, List.append_nil] at hob
  simp only [parBY, Bool.and_eq_true, decide_eq_true_eq, List.all_eq_true] at hp
  obtain ⟨⟨⟨⟨⟨hs, hqs⟩, hdst⟩, hnd⟩, hedge⟩, hlook⟩ := hp
  simp only [tailB, Bool.and_eq_true, Bool.or_eq_true, decide_eq_true_eq] at ht
  obtain ⟨htail, hseq⟩ := ht
  have hs' : s ≤ ol.length := hs
  have hlen' : E.length = s := by rw [hlen, List.length_take]; omega
  have htake : ∀ (i : Nat), i < s → ∀ (o : Oper), ol[i]? = some o → (ol.take s)[i]? = some o := fun i hi o ho => by rw [List.getElem?_take, if_pos hi]; exact ho
  have hops : ∀ (i : Nat) (o : Oper), ol.toArray[i]? = some o → ol[i]? = some o := fun i o ho => by rw [List.getElem?_toArray] at ho; exact ho
  have hdist : ∀ (i j : Nat) (oi oj : Oper) (d : Nat), i < s → j < s → j ∉ qs → ol[i]? = some oi → ol[j]? = some oj → oi.dst = some d → oj.dst = some d → i = j := by
    intro i j oi oj d hi hj hjq hoi hoj hdi hdj
    have h1 := hnd (oi, i) (List.mk_mem_zipIdx_iff_getElem?.2 (htake i hi oi hoi)) (oj, j) (List.mk_mem_zipIdx_iff_getElem?.2 (htake j hj oj hoj))
    simp only [Bool.or_eq_true, decide_eq_true_eq, bne_iff_ne, List.contains_eq_mem] at h1
    rcases h1 with (h1 | h1) | h1
    · exact h1
    · exact absurd h1 hjq
    · exact absurd (hdi.trans hdj.symm) h1
  have hwait : ∀ (i j : Nat) (oi oj : Oper) (d : Nat), i < s → j < s → j ∉ qs → ol[i]? = some oi → ol[j]? = some oj → oj.dst = some d → d ∈ oi.looksAt ol.toArray → j ∈ edgesOf oi := by
    intro i j oi oj d hi hj hjq hoi hoj hdj hd
    have h1 := hlook oi (List.mem_of_getElem? (htake i hi oi hoi)) (oj, j) (List.mk_mem_zipIdx_iff_getElem?.2 (htake j hj oj hoj))
    simp only [hdj, Bool.or_eq_true, Bool.not_eq_true', List.contains_eq_mem, decide_eq_false_iff_not, decide_eq_true_eq] at h1
    rcases h1 with (h1 | h1) | h1
    · exact absurd h1 hjq
    · exact absurd hd h1
    · exact h1
  have hback : ∀ (i : Nat) (oi : Oper), ol[i]? = some oi → ∀ e ∈ oi.after, Region.binds .any e = true → e.on < i := by
    intro i oi hoi e he hb
    have h1 := hedge (oi, i) (List.mk_mem_zipIdx_iff_getElem?.2 hoi) e.on (mem_edges he hb)
    simpa using h1
  refine wpIn_region_any hm ?_
  have hlistOf : ∀ (listed : Array Bool) (a : Act) (w : World) (g : γ), ParY c ol.toArray s qs E (L g) (Ms g) (M g) (ph g) listed a w → (∀ i, i < s → listed.getD i false = true) → listed = Array.replicate s true ++ Array.replicate (ol.toArray.size - s) false := by
    intro listed a w g inv hall
    have hsz : listed.size = ol.length := by simpa using inv.head.size
    apply Array.ext
    · simp [hsz]; omega
    · intro i h1 h2
      rcases Nat.lt_or_ge i s with hi | hi
      · have := hall i hi
        simp [h1] at this
        rw [this, Array.getElem_append_left (by simpa using hi)]
        simp
      · have := inv.head.tail i hi (by simpa [hsz] using h1)
        simp [h1] at this
        rw [this, Array.getElem_append_right (by simpa using hi)]
        simp
  have fin : ∀ (listed : Array Bool) (a : Act) (w : World) (g : γ), ParY c ol.toArray s qs E (L g) (Ms g) (M g) (ph g) listed a w → (∀ i, i < s → listed.getD i false = true) → wpAnyIn (fd c.r) 0 P .any ol.toArray (post c K) (ol.toArray.size - s) listed a w := by
    intro listed a w g inv hall
    have hpg : ∀ q, q ∈ qs → ph g q = true := fun q hq => by rw [← inv.phase q hq]; exact hall q (hqs q hq)
    have hmem := inv.mem
    have hents := inv.ents
    have hh : Holds c (L g) (Ms g) (M g) a w := ⟨inv.size, inv.defers, inv.outer, hmem⟩
    have hk := hfin g hpg a w hh (fun p hp => by
      obtain ⟨i, hi, hpi⟩ := List.mem_iff_getElem.1 (List.mem_reverse.2 hp)
      have hil : i < s := by simpa [hlen'] using hi
      by_cases hiq : i ∈ qs
      · have hoi : ol[i]? = some (ol[i]'(by omega)) := List.getElem?_eq_getElem (by omega)
        rcases hob i _ (htake i hil _ hoi) with ⟨_, h1, _⟩ | ⟨h0, _⟩
        · rw [List.getElem?_eq_getElem hi, hpi] at h1
          cases h1
          exact ⟨_, hmem.empty, trivial⟩
        · exact absurd hiq h0
      · exact hents i p.1 p.2 hiq (by rw [List.getElem?_eq_getElem hi, hpi]) (hall i hil))
    have hlist := hlistOf listed a w g inv hall
    have hd : (ol.drop s).length = ol.toArray.size - s := by simp
    rw [← hd]
    refine wpAnyIn_of_seq (ol.drop s) s listed a w (fun j => by rw [List.getElem?_drop, List.getElem?_toArray]) ?_ hk
    rw [hd, hlist]
    exact hseq
  have key : ∀ (fuel : Nat) (listed : Array Bool) (a : Act) (w : World) (g : γ), ParY c ol.toArray s qs E (L g) (Ms g) (M g) (ph g) listed a w → unlisted listed = fuel → wpAnyIn (fd c.r) 0 P .any ol.toArray (post c K) fuel listed a w := by
    intro fuel
    induction fuel with
    | zero =>
      intro listed a w g inv hf
      have hsz : listed.size = ol.length := by simpa using inv.head.size
      have hall : ∀ i, i < listed.size → listed.getD i true = true := fun i hi => unlisted_zero hf hi
      have hse : s = ol.length := by
        rcases Nat.lt_or_ge s ol.length with h1 | h1
        · have h2 := inv.head.tail s (Nat.le_refl _) (by simpa using h1)
          rw [hall s (by omega)] at h2; cases h2
        · omega
      have := fin listed a w g inv (fun i hi => by
        have h2 := hall i (by omega)
        have h3 : i < listed.size := by omega
        simp [h3] at h2 ⊢; exact h2)
      have h0 : ol.toArray.size - s = 0 := by simp; omega
      rw [h0] at this
      exact this
    | succ fuel ih =>
      intro listed a w g inv hf
      have hsz : listed.size = ol.length := by simpa using inv.head.size
      by_cases hall : ∀ i, i < s → listed.getD i false = true
      · have h1 := fin listed a w g inv hall
        have hcnt : fuel + 1 = ol.toArray.size - s := by
          rw [← hf, hlistOf listed a w g inv hall]
          simp [unlisted, List.countP_append, List.countP_replicate]
        rw [hcnt]
        exact h1
      · obtain ⟨i0, hi0⟩ := Classical.not_forall.1 hall
        obtain ⟨hi0s, hi0f⟩ := Classical.not_imp.1 hi0
        have hun0 : listed.getD i0 true = false := getD_false_of (by omega) hi0f
        refine ⟨fun hnil => ?_, fun i hi => ?_⟩
        · exfalso
          have least : ∀ (j : Nat), j < ol.length → listed.getD j true = false → False := by
            intro j
            induction j using Nat.strongRecOn with
            | _ j ihj =>
              intro hj hjf
              have hoj : ol[j]? = some ol[j] := List.getElem?_eq_getElem hj
              have hr : j ∈ Region.ready .any ol.toArray listed := by
                refine mem_ready.2 ⟨hjf, ol[j], by rw [List.getElem?_toArray]; exact hoj, fun e he hb => ?_⟩
                have hlt := hback j _ hoj e he hb
                cases hx : listed.getD e.on false with
                | true => rfl
                | false => exact (ihj e.on hlt (by omega) (getD_in (by omega) hx)).elim
              rw [hnil] at hr; cases hr
          exact least i0 (by omega) hun0
        · have his : i < s := by
            rcases Nat.lt_or_ge i s with h1 | h1
            · exact h1
            · exfalso
              rcases htail with h2 | ⟨⟨h2, h3⟩, h4⟩
              · obtain ⟨_, o, ho, _⟩ := mem_ready.1 hi
                have := (Array.getElem?_eq_some_iff.1 ho).1
                omega
              · exact tail_waits h3 h4 h2 inv.head _ i0 rfl hi0s hun0 i h1 hi
          obtain ⟨hif, o, ho, hready⟩ := mem_ready.1 hi
          have ho' := hops i o ho
          have hil : i < listed.size := by omega
          have hlooks : ∀ j oj d', j < s → j ∉ qs → ol[j]? = some oj → oj.dst = some d' → d' ∈ o.looksAt ol.toArray → listed.getD j false = true := by
            intro j oj d' hj hjq hoj hdj hd'
            obtain ⟨e, he, hb, rfl⟩ := of_edges (hwait i j o oj d' his hj hjq ho' hoj hdj hd')
            exact hready e he hb
          have hside : ∀ p ∈ E, p.1 ∈ o.looksAt ol.toArray → EntOK c (Ms g) (M g) p.2 (a.tmps.getD p.1 undef) w := fun p hpE hpl => by
            obtain ⟨j, hj, hpj⟩ := List.mem_iff_getElem.1 (List.mem_reverse.2 hpE)
            have hjs : j < s := by simpa [hlen'] using hj
            have hoj : ol[j]? = some (ol[j]'(by omega)) := List.getElem?_eq_getElem (by omega)
            rcases hob j _ (htake j hjs _ hoj) with ⟨_, hE', _⟩ | ⟨hjq, d', A', _, hE', hd', _⟩
            · rw [List.getElem?_eq_getElem hj, hpj] at hE'
              cases hE'
              exact ⟨_, inv.mem.empty, trivial⟩
            · rw [List.getElem?_eq_getElem hj, hpj] at hE'
              cases hE'
              exact inv.ents j _ _ hjq (by rw [List.getElem?_eq_getElem hj, hpj]) (hlooks j _ _ hjs hjq hoj hd' hpl)
          have hal : allowY ol.toArray qs i o (ph g) = true := by
            simp only [allowY, List.all_eq_true, Bool.and_eq_true, Bool.or_eq_true, Bool.not_eq_true']
            intro q hq
            refine ⟨?_, ?_⟩
            · by_cases h1 : (edgesOf o).contains q = true
              · obtain ⟨e, he, hb, he2⟩ := of_edges (by simpa using h1)
                have := hready e he hb
                rw [he2, inv.phase q hq] at this
                exact .inr this
              · exact .inl (by simpa using h1)
            · cases h1 : ph g q with
              | false => exact .inl rfl
              | true =>
                refine .inr ?_
                have hlq : listed.getD q false = true := by rw [inv.phase q hq]; exact h1
                cases hx : earlyB ol.toArray q i with
                | false => rfl
                | true =>
                  exfalso
                  unfold earlyB at hx
                  split at hx
                  · rename_i oq hoq
                    obtain ⟨e, he, hb, rfl⟩ := of_edges (by simpa using hx)
                    have := inv.head.closed q oq hoq hlq e he hb
                    have := (getD_of_true this).2
                    rw [hif] at this; cases this
                  · cases hx
          rcases hob i o (htake i his o ho') with ⟨hiqs, hE, E', hsub, heff⟩ | ⟨hiq, d, A, E', hE, hd, hdn, hld0, hsub, hok⟩
          · -- one that turns the state
            have hq0 : listed.getD i false = false := by
              cases hx : listed.getD i false with
              | false => rfl
              | true => have := (getD_of_true hx).2; rw [hif] at this; cases this
            have hpi : ph g i = false := by rw [← inv.phase i hiqs]; exact hq0
            have hmem := inv.mem
            have hents := inv.ents
            obtain ⟨hw, hrun⟩ := heff g hal hpi a w inv.size inv.defers inv.outer hmem (fun p hp hpl => hside p (hsub p hp) hpl)
            obtain ⟨X, hX, hXE⟩ := collect (a := a) hmem E
            unfold wpOpIn
            simp only [ho]
            rw [if_pos hw]
            refine wpIn_eff (fun a' w' v htm ⟨g', hph, h1, h2, h3, h4⟩ => ?_) (fun _ _ _ h => h.1) (hrun X hX)
            have hl1 : (listed.setIfInBounds i true).getD i false = true := by simp [hil]
            have hsub1 : ∀ mr ∈ X, MemOk c (mr :: Ms g') (M g') w' := fun mr hmr => h4.union h4 (fun m hm => .inl (by
              rcases List.mem_cons.1 hm with rfl | hm
              · exact List.mem_append_left _ hmr
              · exact List.mem_append_right _ hm))
            refine ih _ _ _ g' ⟨inv.head.set hi his, h1, fun q hq => ?_, h2, ?_, h3, fun j d' A' hjq hj hl => ?_⟩ (by have := unlisted_set hif; omega)
            · rw [hph q hq]
              by_cases hqi : q = i
              · subst hqi; rw [hl1]; simp
              · rw [getD_set_ne false (fun e => hqi e.symm), inv.phase q hq, decide_eq_false hqi, Bool.or_false]
            · exact h4.union h4 (fun m hm => .inl (List.mem_append_right _ hm))
            · have hji : j ≠ i := fun e => hjq (e ▸ hiqs)
              have hlj : listed.getD j false = true := by rw [getD_set_ne false (Ne.symm hji)] at hl; exact hl
              obtain ⟨mr, hmr, hA⟩ := hXE (d', A') (List.mem_reverse.1 (List.mem_of_getElem? hj)) (hents j d' A' hjq hj hlj)
              have hjs : j < s := by
                have := (List.getElem?_eq_some_iff.1 hj).1
                simpa [hlen'] using this
              have hoj : ol[j]? = some (ol[j]'(by omega)) := List.getElem?_eq_getElem (by omega)
              rcases hob j _ (htake j hjs _ hoj) with ⟨e, _⟩ | ⟨_, d2, A2, _, hE2, hd2, _⟩
              · exact absurd e hjq
              · rw [hj] at hE2
                cases hE2
                have : a'.tmps.getD d' undef = a.tmps.getD d' undef := by
                  rw [htm]
                  cases hdst' : o.dst with
                  | none => rfl
                  | some d =>
                    have hne : d ≠ d' := fun e => hji (hdist i j o _ d' his hjs hjq ho' hoj (e ▸ hdst') hd2).symm
                    simp only [Act.put, Array.getD_eq_getD_getElem?, Array.getElem?_setIfInBounds_ne hne]
                rw [this]
                exact ⟨mr, hsub1 mr hmr, hA⟩
          · have hok' := hok g hal
            have hmem := inv.mem
            have hout := inv.outer
            have hents := inv.ents
            refine wpOpIn_of (R := fun u w' => Ext w w' ∧ EntOK c (Ms g) (M g) A u w') ho ?_ ?_
            · rcases hok' a w inv.size inv.defers hmem (fun t _ v hv => hout t v hv) (fun p hp hpl => hside p (hsub p hp) hpl) with ⟨h1, h2⟩ | ⟨h1, h2⟩
              · exact .inl ⟨h1, h2⟩
              · exact .inr ⟨h1, Kp.refl _ w, h2⟩
            · rintro u w' ⟨hx, hu⟩
              refine ih _ _ _ g ⟨inv.head.set hi his, by simp [Act.put, hd, inv.size], fun q hq => ?_, by simp only [Act.put, hd]; exact inv.defers, hmem.ext hx, fun t v hv => ?_, fun j d' A' hjq hj hl => ?_⟩ (by have := unlisted_set hif; omega)
              · have hqi : q ≠ i := fun e => hiq (e ▸ hq)
                rw [getD_set_ne false (fun e => hqi e.symm), inv.phase q hq]
              · have hne : d ≠ t := fun e => by
                  subst e
                  rw [hld0 g] at hv; cases hv
                have := hout t v hv
                simp only [Act.put, hd, Array.getD_eq_getD_getElem?, Array.getElem?_setIfInBounds_ne hne] at this ⊢
                exact this
              · by_cases hji : j = i
                · subst hji
                  rw [hE] at hj
                  cases hj
                  have : (a.put o.dst u).tmps.getD d undef = u := by simp [Act.put, hd, inv.size, hdn]
                  rw [this]; exact hu
                · have hlj : listed.getD j false = true := by rw [getD_set_ne false (Ne.symm hji)] at hl; exact hl
                  have hjs : j < s := by
                    have := (List.getElem?_eq_some_iff.1 hj).1
                    simpa [hlen'] using this
                  have hoj : ol[j]? = some (ol[j]'(by omega)) := List.getElem?_eq_getElem (by omega)
                  rcases hob j _ (htake j hjs _ hoj) with ⟨e, _⟩ | ⟨_, d2, A2, _, hE2, hd2, _⟩
                  · exact absurd e hjq
                  · rw [hj] at hE2
                    cases hE2
                    have hne : d ≠ d' := fun e => hji (hdist j i _ o d hjs his hiq hoj ho' (e ▸ hd2) hd)
                    have h1 := (hents j d' A' hjq hj hlj).ext hx
                    have : (a.put o.dst u).tmps.getD d' undef = a.tmps.getD d' undef := by
                      simp only [Act.put, hd, Array.getD_eq_getD_getElem?, Array.getElem?_setIfInBounds_ne hne]
                    rw [this]; exact h1
  refine key _ _ a _ g0 ⟨⟨by simp, fun j oj _ hl => (by rw [getD_replicate_false] at hl; cases hl), fun t _ ht => getD_in (by simpa using ht) (getD_replicate_false _ _)⟩, hh.size, fun q hq => (by rw [getD_replicate_false, h0 q hq]), hh.defers, hh.mem.ext (Ext.draw w), hh.slots, fun i d A _ _ hl => (by rw [getD_replicate_false] at hl; cases hl)⟩ (by simp [unlisted, List.countP_replicate])

variable {o : Oper} {E : List (Nat × Value)} {Γ : List (Nat × Asr)} {todo tail : List Oper} {i : Nat}
def DJY (c : Cx P n) (ops : Array Oper) (qs : List Nat) (L : γ → List (Nat × Value)) (Ms : γ → List Mem) (M : γ → List Res) (ph : γ → Nat → Bool) (tail : List Oper) (K : Post) (todo : List Oper) (i : Nat) (E : List (Nat × Value)) (Γ : List (Nat × Asr)) : Prop :=
  ∀ env : List (Nat × Asr), (∀ p ∈ Γ, p ∈ env ∧ p.1 < n) → (∀ t v, look E t = some v → (t, fun _ u => u = v) ∈ env ∧ t < n) → (∀ g, keysB (L g) n = true) →
    DListY c ops qs L Ms M ph (fun env => ∀ g, (∀ q, q ∈ qs → ph g q = true) → Dfin c ops (L g) (Ms g) (M g) tail K env) todo i env
theorem W.drawY (g0 : γ) {id : Nat} {ol : List Oper} {l : List (Nat × Value)} {Ms0 : List Mem} {μ : List Res} (s : Nat) (qs : List Nat) (L : γ → List (Nat × Value)) (Ms : γ → List Mem) (M : γ → List Res) (ph : γ → Nat → Bool) (hm : P.follows .mixedOrders = true) (hp : parBY ol.toArray s qs = true) (ht : tailB ol.toArray s = true) (h0 : ∀ q, q ∈ qs → ph g0 q = false)
    (hk : ∀ g, keysB (L g) n = true) (hl : L g0 = l) (hMs : Ms g0 = Ms0) (hμ : M g0 = μ) (h : DJY c ol.toArray qs L Ms M ph (ol.drop s) K (ol.take s) 0 [] []) : W c (.region id ol.toArray true) K l Ms0 μ := by
  subst hl hMs hμ
  exact W.mk (W.parY g0 s qs hm hp ht h0 (h [] (fun _ h => by cases h) (fun _ _ h => by cases h) hk)).un
theorem DJY.step {A : Asr} {d : Nat} (hiq : qs.contains i = false) (hd : o.dst = some d) (hn : Nat.blt d n = true) (hl : ∀ g, look (L g) d = none)
    (hob : ∀ env, (∀ p ∈ Γ, p ∈ env ∧ p.1 < n) → (∀ t v, look E t = some v → (t, fun _ u => u = v) ∈ env ∧ t < n) → (∀ g, keysB (L g) n = true) →
      ∀ g, allowY ops qs i o (ph g) = true → ObOK c ops (L g) (Ms g) (M g) env o A)
    {E' : List (Nat × Value)} {Γ' : List (Nat × Asr)} (hE : ∀ t v, look E' t = some v → look E t = some v ∨ (t, A) = (d, fun _ u => u = v)) (hΓ : ∀ p ∈ Γ', p ∈ Γ ∨ p = (d, A))
    (h : DJY c ops qs L Ms M ph tail K todo (i + 1) E' Γ') : DJY c ops qs L Ms M ph tail K (o :: todo) i E Γ := fun env hΓe hEe hk => by
  refine .inr ⟨fun e => by rw [List.contains_eq_mem, decide_eq_false_iff_not] at hiq; exact hiq e, d, A, hd, Nat.lt_of_blt hn, hl, hob env hΓe hEe hk, h _ (fun p hp => ?_) (fun t v ht => ?_) hk⟩
  · rcases hΓ p hp with h1 | rfl
    · exact ⟨.tail _ (hΓe p h1).1, (hΓe p h1).2⟩
    · exact ⟨.head _, Nat.lt_of_blt hn⟩
  · rcases hE t v ht with h1 | h1
    · exact ⟨.tail _ (hEe t v h1).1, (hEe t v h1).2⟩
    · cases h1; exact ⟨.head _, Nat.lt_of_blt hn⟩
theorem DJY.val (G : List (Nat × Asr)) {v : Value} {d : Nat} (hv : ∀ g, allowY ops qs i o (ph g) = true → OpenE (fun l Ms => OpVal c o l Ms (M g) v) G (E ++ L g) (Ms g))
    (hw : ∀ g, allowY ops qs i o (ph g) = true → want ops (E ++ L g) o = some true) (hd : o.dst = some d) (hn : Nat.blt d n = true) (hl : ∀ g, look (L g) d = none) (hiq : qs.contains i = false)
    (h : DJY c ops qs L Ms M ph tail K todo (i + 1) ((d, v) :: E) Γ) (hG : GOk ops o Γ G := by exact trivial) : DJY c ops qs L Ms M ph tail K (o :: todo) i E Γ := by
  refine DJY.step (A := fun _ u => u = v) hiq hd hn hl (fun env hΓe hEe hk g hg => ?_) (fun t u ht => ?_) (fun p hp => .inl hp) h
  · exact ObOK.ofOpen G (OpenE.imp (fun l' Ms' hk' a' w hh => (hk'.un a' w hh).mono fun u w' ⟨hu, hx⟩ => ⟨hx, _, (hh.mem.ext hx).empty, hu⟩) (hv g hg)) (hw g hg) (fun p hp => ⟨(hΓe p (hG.spec p hp).1).1, (hG.spec p hp).2, (hΓe p (hG.spec p hp).1).2⟩) (known (hk g) hEe)
  · simp only [look] at ht
    split at ht
    · rename_i e; cases Nat.eq_of_beq_eq_true e; cases ht; exact .inr rfl
    · exact .inl ht
/-- The state behind a turn, one of those of the next phase. -/
def KeffY (L : γ → List (Nat × Value)) (X : γ → List Mem) (M : γ → List Res) (ph : γ → Nat → Bool) (qs : List Nat) (i : Nat) (g0 : γ) : Post := fun e l Ms μ => ∃ g, (∀ q, q ∈ qs → ph g q = (ph g0 q || decide (q = i))) ∧ Keff (L g) (X g) (M g) e l Ms μ
theorem DJY.eff (E' : List (Nat × Value)) (hE' : Has E E') (hlk : E'.all (fun p => (o.looksAt ops).contains p.1) = true) (hj : qs.contains i = true) (G : List (Nat × Asr)) (hG : GOk ops o Γ G)
    (he : ∀ g, allowY ops qs i o (ph g) = true → ph g i = false → want ops (E' ++ L g) o = some true ∧ ∀ Ms', (∀ m ∈ Ms g, m ∈ Ms') → OpenE (fun l' Ms2 => WL c ops [o] (KeffY L (fun g' => Ms' ++ Ms g') M ph qs i g) l' Ms2 (M g)) G (E' ++ L g) Ms')
    (h : DJY c ops qs L Ms M ph tail K todo (i + 1) E Γ) : DJY c ops qs L Ms M ph tail K (o :: todo) i E Γ := fun env hΓe hEe hk => by
  refine .inl ⟨⟨by simpa using hj, fun g hg hg2 a w hsz hD hout hm hents => ?_⟩, h _ (fun p hp => ⟨.tail _ (hΓe p hp).1, (hΓe p hp).2⟩) (fun t v ht => ⟨.tail _ (hEe t v ht).1, (hEe t v ht).2⟩) hk⟩
  obtain ⟨hwn, he⟩ := he g hg hg2
  have hslots : ∀ t v, look (E' ++ L g) t = some v → a.tmps.getD t undef = v := fun t v ht => by
    rcases look_append ht with h1 | h1
    · obtain ⟨p, hp, rfl⟩ := look_key h1
      obtain ⟨mr, _, h2⟩ := hents _ (hEe _ v (hE'.look _ _ h1)).1 (by have := List.all_eq_true.1 hlk p hp; simpa using this)
      exact h2
    · exact hout t v h1
  have hh : ∀ X, MemOk c (X ++ Ms g) (M g) w → Holds c (E' ++ L g) (X ++ Ms g) (M g) a w := fun X hX => ⟨hsz, hD, hslots, hX⟩
  have hwant : Region.wanted o (yielded ops a.tmps) = true := want_spec (hh [] hm) hwn
  refine ⟨hwant, fun X hX => ?_⟩
  obtain ⟨l2, Ms2, hk2, hh2⟩ := OpenE.holds (Ms0 := Ms g) (fun m hm => List.mem_append_right _ hm) (he (X ++ Ms g) (fun m hm => List.mem_append_right _ hm)) (hh X hX) (fun p hp => hents p (hΓe p (hG.spec p hp).1).1 (hG.spec p hp).2)
  have := hk2.un a w hh2
  unfold wpListIn at this
  rw [if_pos hwant] at this
  refine wpIn_eff (fun a' w' v htm h1 => ?_) (fun e a w ⟨l, Ms, μ, ⟨_, _, h1⟩, _⟩ => h1.1) this
  obtain ⟨l', Ms', μ', ⟨g', hp, _, h2, h3, h4, hmk⟩, h5⟩ := h1
  have h6 := h5.weaken h2 (fun m hm => h3 m ((List.mem_append.1 hm).elim (fun h => List.mem_append_left _ (List.mem_append_left _ h)) (fun h => List.mem_append_right _ h))) h4 hmk
  exact ⟨g', hp, h6.size, h6.defers, h6.slots, h6.mem⟩
theorem DJY.nil (h : ∀ g, (∀ q, q ∈ qs → ph g q = true) → OpenE (fun l' Ms' => WL c ops tail K l' Ms' (M g)) Γ (E ++ L g) (Ms g)) : DJY c ops qs L Ms M ph tail K [] i E Γ := fun env hΓe hEe hk g hg a w hh hents => by
  have hh' : Holds c (E ++ L g) (Ms g) (M g) a w := ⟨hh.size, hh.defers, fun t v ht => by
    rcases look_append ht with h1 | h1
    · obtain ⟨mr, _, h2⟩ := hents _ (hEe t v h1).1; exact h2
    · exact hh.slots t v h1, hh.mem⟩
  obtain ⟨l', Ms', hk', hh2⟩ := OpenE.holds (Ms0 := Ms g) (fun _ h => h) (h g hg) hh' (fun p hp => hents p (hΓe p hp).1)
  exact hk'.un a w hh2
end
section
variable {P : Program} {n : Nat} {c : Cx P n} {K : Post} {l : List (Nat × Value)} {Ms : List Mem} {μ : List Res} {ops : Array Oper} {rest : List Oper}
theorem Holds.swap {a : Act} {w : World} {r r2 : Res} (hm : marksOf (r2 :: r :: μ) = marksOf (r :: r2 :: μ)) (h : Holds c l Ms (r :: r2 :: μ) a w) : Holds c l Ms (r2 :: r :: μ) a w := by
  obtain ⟨h1, h2, h3, k1, k2, k3, k4, k5, k6⟩ := h
  have hp : (feet (r2 :: r :: μ)).Perm (feet (r :: r2 :: μ)) := (List.Perm.swap r r2 μ).filterMap _
  refine ⟨h1, by rw [hm]; exact h2, h3, k1, k2, k3, fun x hx => k4 x ?_, hp.nodup_iff.2 k5, fun b hb => k6 b (hp.mem_iff.1 hb)⟩
  rcases List.mem_cons.1 hx with rfl | hx
  · exact .tail _ (.head _)
  · rcases List.mem_cons.1 hx with rfl | hx
    · exact .head _
    · exact .tail _ (.tail _ hx)
theorem WL.swap {r r2 : Res} (hm : marksOf (r2 :: r :: μ) = marksOf (r :: r2 :: μ)) (h : WL c ops rest K l Ms (r2 :: r :: μ)) : WL c ops rest K l Ms (r :: r2 :: μ) := WL.mk fun a w hh => h.un a w (hh.swap hm)
end
/-- Two blocks made, in some order, of which the first one is then written. -/
inductive Two where
  | n
  | a (x : Nat)
  | b (y : Nat)
  | ab (x y : Nat)
  | s (x y : Nat)
def Two.tn (i j k : Nat) : Two → Nat → Bool
  | .n, _ => false
  | .a _, q => q == i
  | .b _, q => q == j
  | .ab _ _, q => q == i || q == j
  | .s _ _, q => q == i || q == j || q == k
def Two.L (d e : Nat) (l : List (Nat × Value)) : Two → List (Nat × Value)
  | .n => l
  | .a x => (d, .pointer (some ⟨x, 0, none⟩)) :: l
  | .b y => (e, .pointer (some ⟨y, 0, none⟩)) :: l
  | .ab x y => (e, .pointer (some ⟨y, 0, none⟩)) :: (d, .pointer (some ⟨x, 0, none⟩)) :: l
  | .s x y => (e, .pointer (some ⟨y, 0, none⟩)) :: (d, .pointer (some ⟨x, 0, none⟩)) :: l
def Two.M (Z C : Array Value) (T : TypeId) (μ : List Res) : Two → List Res
  | .n => μ
  | .a x => .blk x Z T :: μ
  | .b y => .blk y Z T :: μ
  | .ab x y => .blk y Z T :: .blk x Z T :: μ
  | .s x y => .blk y Z T :: .blk x C T :: μ
end Go.Eng
