/- The logic's rules for what is carried out in some order, where operations turn the state that need not come one behind the other. -/
import Derived.Test.YtdnbkjgbehakpaaGreatEngineB
namespace Go.Eng
open Go Go.RowKit
section
variable {P : Program} {n : Nat} {c : Cx P n} {K : Post} {γ : Type} {L : γ → List (Nat × Value)} {Ms : γ → List Mem} {M : γ → List Res} {ph : γ → Nat → Bool} {ops : Array Oper} {qs : List Nat}
def allowY (ops : Array Oper) (qs : List Nat) (i : Nat) (o : Oper) (p : Nat → Bool) : Bool :=
  qs.all fun q => (!(edgesOf o).contains q || p q) && (!p q || !earlyB ops q i)
structure ParY (c : Cx P n) (ops : Array Oper) (s : Nat) (qs : List Nat) (E : List (Nat × Asr)) (l : List (Nat × Value)) (Ms : List Mem) (μ : List Res) (p : Nat → Bool) (listed : Array Bool) (a : Act) (w : World) : Prop where
  head : HeadInv .any ops s listed
  size : a.tmps.size = n
  phase : ∀ q, q ∈ qs → listed.getD q false = p q
  defers : a.defers = marksOf μ ++ c.D
  mem : MemOk c Ms μ w
  outer : ∀ t v, look l t = some v → a.tmps.getD t undef = v
  ents : ∀ (i : Nat) (d : Nat) (A : Asr), i ∉ qs → E.reverse[i]? = some (d, A) → listed.getD i false = true → EntOK c Ms μ A (a.tmps.getD d undef) w
/-- Of the operation that turns the state. -/
def EffY (c : Cx P n) (ops : Array Oper) (L : γ → List (Nat × Value)) (Ms : γ → List Mem) (M : γ → List Res) (ph : γ → Nat → Bool) (qs : List Nat) (i : Nat) (g : γ) (env : List (Nat × Asr)) (o : Oper) : Prop :=
  ∀ (a : Act) (w : World), a.tmps.size = n → a.defers = marksOf (M g) ++ c.D → (∀ t v, look (L g) t = some v → a.tmps.getD t undef = v) → MemOk c (Ms g) (M g) w →
    (∀ p ∈ env, p.1 ∈ o.looksAt ops → EntOK c (Ms g) (M g) p.2 (a.tmps.getD p.1 undef) w) → Region.wanted o (yielded ops a.tmps) = true ∧ ∀ X, MemOk c (X ++ Ms g) (M g) w →
      o.wpIn (fd c.r) 0 P a w (fun a' w' => ∃ g', (∀ q, q ∈ qs → ph g' q = (ph g q || decide (q = i))) ∧ a'.tmps.size = n ∧ a'.defers = marksOf (M g') ++ c.D ∧ (∀ t v, look (L g') t = some v → a'.tmps.getD t undef = v) ∧ MemOk c (X ++ Ms g') (M g') w') (fun e _ _ => e = .normal ∧ False)
def DListY (c : Cx P n) (ops : Array Oper) (qs : List Nat) (L : γ → List (Nat × Value)) (Ms : γ → List Mem) (M : γ → List Res) (ph : γ → Nat → Bool) (fin : List (Nat × Asr) → Prop) : List Oper → Nat → List (Nat × Asr) → Prop
  | [], _, env => fin env
  | o :: todo, i, env => ((i ∈ qs ∧ ∀ g, allowY ops qs i o (ph g) = true → ph g i = false → EffY c ops L Ms M ph qs i g env o) ∧ DListY c ops qs L Ms M ph fin todo (i + 1) ((n, fun _ _ => True) :: env)) ∨
    (i ∉ qs ∧ ∃ d A, o.dst = some d ∧ d < n ∧ (∀ g, look (L g) d = none) ∧ (∀ g, allowY ops qs i o (ph g) = true → ObOK c ops (L g) (Ms g) (M g) env o A) ∧
      DListY c ops qs L Ms M ph fin todo (i + 1) ((d, A) :: env))
def GotY (c : Cx P n) (ops : Array Oper) (qs : List Nat) (L : γ → List (Nat × Value)) (Ms : γ → List Mem) (M : γ → List Res) (ph : γ → Nat → Bool) (fin : List (Nat × Asr) → Prop) (todo : List Oper) (i0 : Nat) (env : List (Nat × Asr)) : Prop :=
    ∃ E : List (Nat × Asr), fin (E ++ env) ∧ E.length = todo.length ∧ ∀ (i : Nat) (o : Oper), todo[i]? = some o →
      (i0 + i ∈ qs ∧ E.reverse[i]? = some (n, fun _ _ => True) ∧ ∃ E', (∀ p ∈ E', p ∈ E ++ env) ∧ ∀ g, allowY ops qs (i0 + i) o (ph g) = true → ph g (i0 + i) = false → EffY c ops L Ms M ph qs (i0 + i) g E' o) ∨
      (i0 + i ∉ qs ∧ ∃ d A E', E.reverse[i]? = some (d, A) ∧ o.dst = some d ∧ d < n ∧ (∀ g, look (L g) d = none) ∧ (∀ p ∈ E', p ∈ E ++ env) ∧ (∀ g, allowY ops qs (i0 + i) o (ph g) = true → ObOK c ops (L g) (Ms g) (M g) E' o A))
theorem GotY.cons {fin : List (Nat × Asr) → Prop} {o : Oper} {todo : List Oper} {i0 : Nat} {env : List (Nat × Asr)} {d : Nat} {A : Asr} (h : GotY c ops qs L Ms M ph fin todo (i0 + 1) ((d, A) :: env))
    (hd : ((i0 ∈ qs ∧ ∀ g, allowY ops qs i0 o (ph g) = true → ph g i0 = false → EffY c ops L Ms M ph qs i0 g env o) ∧ (d, A) = (n, fun _ _ => True)) ∨ (i0 ∉ qs ∧ o.dst = some d ∧ d < n ∧ (∀ g, look (L g) d = none) ∧ (∀ g, allowY ops qs i0 o (ph g) = true → ObOK c ops (L g) (Ms g) (M g) env o A))) :
    GotY c ops qs L Ms M ph fin (o :: todo) i0 env := by
  obtain ⟨E, h1, h2, h3⟩ := h
  refine ⟨E ++ [(d, A)], by simpa using h1, by simp [h2], fun i o' hi => ?_⟩
  cases i with
  | zero =>
    cases hi
    rcases hd with ⟨⟨e, he⟩, e2⟩ | ⟨e, k1, k2, k3, k4⟩
    · exact .inl ⟨e, by simp [e2], env, fun p hp => by simp [hp], he⟩
    · exact .inr ⟨e, d, A, env, by simp, k1, k2, k3, fun p hp => by simp [hp], k4⟩
  | succ i =>
    have e : i0 + (i + 1) = i0 + 1 + i := by omega
    rw [e]
    rcases h3 i o' (by simpa using hi) with ⟨k0, k1, E', k2, k3⟩ | ⟨k0, d', A', E', k1, k2, k3, k4, k5, k6⟩
    · exact .inl ⟨k0, by simpa using k1, E', fun p hp => by simpa using k2 p hp, k3⟩
    · exact .inr ⟨k0, d', A', E', by simpa using k1, k2, k3, k4, fun p hp => by simpa using k5 p hp, k6⟩
theorem DListY.all {fin : List (Nat × Asr) → Prop} : ∀ {todo : List Oper} {i0 : Nat} {env : List (Nat × Asr)}, DListY c ops qs L Ms M ph fin todo i0 env → GotY c ops qs L Ms M ph fin todo i0 env
  | [], i0, env, h => ⟨[], h, rfl, fun i o hi => by simp at hi⟩
  | o :: todo, i0, env, .inl ⟨e, h⟩ => (DListY.all h).cons (.inl ⟨e, rfl⟩)
  | o :: todo, i0, env, .inr ⟨e, d, A, k1, k2, k3, k4, h⟩ => (DListY.all h).cons (.inr ⟨e, k1, k2, k3, k4⟩)

variable {o : Oper} {E : List (Nat × Value)} {Γ : List (Nat × Asr)} {todo tail : List Oper} {i : Nat}
def DJY (c : Cx P n) (ops : Array Oper) (qs : List Nat) (L : γ → List (Nat × Value)) (Ms : γ → List Mem) (M : γ → List Res) (ph : γ → Nat → Bool) (tail : List Oper) (K : Post) (todo : List Oper) (i : Nat) (E : List (Nat × Value)) (Γ : List (Nat × Asr)) : Prop :=
  ∀ env : List (Nat × Asr), (∀ p ∈ Γ, p ∈ env ∧ p.1 < n) → (∀ t v, look E t = some v → (t, fun _ u => u = v) ∈ env ∧ t < n) → (∀ g, keysB (L g) n = true) →
    DListY c ops qs L Ms M ph (fun env => ∀ g, (∀ q, q ∈ qs → ph g q = true) → Dfin c ops (L g) (Ms g) (M g) tail K env) todo i env
theorem DJY.step {A : Asr} {d : Nat} (hiq : qs.contains i = false) (hd : o.dst = some d) (hn : Nat.blt d n = true) (hl : ∀ g, look (L g) d = none)
    (hob : ∀ env, (∀ p ∈ Γ, p ∈ env ∧ p.1 < n) → (∀ t v, look E t = some v → (t, fun _ u => u = v) ∈ env ∧ t < n) → (∀ g, keysB (L g) n = true) →
      ∀ g, allowY ops qs i o (ph g) = true → ObOK c ops (L g) (Ms g) (M g) env o A)
    {E' : List (Nat × Value)} {Γ' : List (Nat × Asr)} (hE : ∀ t v, look E' t = some v → look E t = some v ∨ (t, A) = (d, fun _ u => u = v)) (hΓ : ∀ p ∈ Γ', p ∈ Γ ∨ p = (d, A))
    (h : DJY c ops qs L Ms M ph tail K todo (i + 1) E' Γ') : DJY c ops qs L Ms M ph tail K (o :: todo) i E Γ := fun env hΓe hEe hk => by
  refine .inr ⟨fun e => by rw [List.contains_eq_mem, decide_eq_false_iff_not] at hiq; exact hiq e, d, A, hd, Nat.lt_of_blt hn, hl, hob env hΓe hEe hk, h _ (fun p hp => ?_) (fun t v ht => ?_) hk⟩
  · rcases hΓ p hp with h1 | rfl
    · exact ⟨.tail _ (hΓe p h1).1, (hΓe p h1).2⟩
    · exact ⟨.head _, Nat.lt_of_blt hn⟩
  · rcases hE t v ht with h1 | h1
    · exact ⟨.tail _ (hEe t v h1).1, (hEe t v h1).2⟩
    · cases h1; exact ⟨.head _, Nat.lt_of_blt hn⟩
end
section
variable {P : Program} {n : Nat} {c : Cx P n} {K : Post} {l : List (Nat × Value)} {Ms : List Mem} {μ : List Res} {ops : Array Oper} {rest : List Oper}
end
/-- Two blocks made, in some order, of which the first one is then written. -/
inductive Two where
  | n
  | a (x : Nat)
  | b (y : Nat)
  | ab (x y : Nat)
  | s (x y : Nat)
def Two.tn (i j k : Nat) : Two → Nat → Bool
  | .n, _ => false
  | .a _, q => q == i
  | .b _, q => q == j
  | .ab _ _, q => q == i || q == j
  | .s _ _, q => q == i || q == j || q == k
def Two.L (d e : Nat) (l : List (Nat × Value)) : Two → List (Nat × Value)
  | .n => l
  | .a x => (d, .pointer (some ⟨x, 0, none⟩)) :: l
  | .b y => (e, .pointer (some ⟨y, 0, none⟩)) :: l
  | .ab x y => (e, .pointer (some ⟨y, 0, none⟩)) :: (d, .pointer (some ⟨x, 0, none⟩)) :: l
  | .s x y => (e, .pointer (some ⟨y, 0, none⟩)) :: (d, .pointer (some ⟨x, 0, none⟩)) :: l
def Two.M (Z C : Array Value) (T : TypeId) (μ : List Res) : Two → List Res
  | .n => μ
  | .a x => .blk x Z T :: μ
  | .b y => .blk y Z T :: μ
  | .ab x y => .blk y Z T :: .blk x Z T :: μ
  | .s x y => .blk y Z T :: .blk x C T :: μ
end Go.Eng
