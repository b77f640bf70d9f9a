/- A small program logic over the kit's fenced calculus: a symbolic state (known slots, persistent memories, owned resources) stands for all worlds that meet it. -/
import Derived.WalkKit
import Derived.OrdersIn
import Derived.CallsIn
import Derived.TacticsIn
import Derived.OwnWalkIn
import Derived.RangeFuncNested
import Derived.RangeFuncCalls
import Derived.KernelRfl
import Derived.Great.FillDense
import Derived.RangeFuncLeaves
import Derived.StillTail
import Derived.RangeFuncIn
import Derived.Laws.StructEq
import Derived.MapKept
namespace Go.Eng
open Go Go.RowKit

/-- The wide fence, in a round or not. -/
def fd (r : Option Nat) : Fence := { fn := fun _ => True, depth := none, alive := false, round := r }
theorem fd_none : fd none = Fence.wide := rfl

/-! ### Memories -/
abbrev Mem := Nat → Option Obj
/-- All that m has, m' has. -/
def MLe (m m' : Mem) : Prop := ∀ b o, m b = some o → m' b = some o
/-- All that m has lies in the world. -/
def Sub (m : Mem) (w : World) : Prop := ∀ b o, m b = some o → w.heap[b]? = some o
theorem MLe.refl (m : Mem) : MLe m m := fun _ _ h => h
theorem MLe.trans {a b c : Mem} (h : MLe a b) (k : MLe b c) : MLe a c := fun x o hx => k x o (h x o hx)
theorem Sub.of_le {m m' : Mem} {w : World} (h : MLe m m') (hs : Sub m' w) : Sub m w := fun b o hb => hs b o (h b o hb)
theorem Sub.lt {m : Mem} {w : World} (hs : Sub m w) {b : Nat} (h : m b ≠ none) : b < w.heap.size := by
  cases hb : m b with
  | none => exact absurd hb h
  | some o => exact (Array.getElem?_eq_some_iff.1 (hs b o hb)).1

/-- The union of memories. -/
def MAll : List Mem → Mem
  | [], _ => none
  | m :: ms, b => match m b with
    | some o => some o
    | none => MAll ms b
theorem MAll.sub {w : World} : ∀ {ms : List Mem}, (∀ m ∈ ms, Sub m w) → Sub (MAll ms) w
  | [], _ => fun b o h => by cases h
  | m :: ms, h => fun b o hb => by
    simp only [MAll] at hb
    cases hm : m b with
    | some o' => rw [hm] at hb; cases hb; exact h m (.head _) b o hm
    | none => rw [hm] at hb; exact MAll.sub (fun m' hm' => h m' (.tail _ hm')) b o hb
theorem MAll.le {w : World} {ms : List Mem} (h : ∀ m ∈ ms, Sub m w) {m : Mem} (hm : m ∈ ms) : MLe m (MAll ms) := by
  intro b o hb
  have hw := h m hm b o hb
  cases hx : MAll ms b with
  | some o' => have := MAll.sub h b o' hx; rw [hw] at this; rw [this]
  | none =>
    exfalso
    induction ms with
    | nil => cases hm
    | cons m' ms ih =>
      simp only [MAll] at hx
      cases hm' : m' b with
      | some o' => rw [hm'] at hx; cases hx
      | none =>
        rw [hm'] at hx
        rcases List.mem_cons.1 hm with rfl | hm2
        · rw [hb] at hm'; cases hm'
        · exact ih (fun m'' h'' => h m'' (.tail _ h'')) hm2 hx
theorem MAll.has : ∀ {ms : List Mem} {b : Nat}, MAll ms b ≠ none → ∃ m ∈ ms, m b ≠ none
  | [], _, h => absurd rfl h
  | m :: ms, b, h => by
    cases hm : m b with
    | some o => exact ⟨m, .head _, by rw [hm]; simp⟩
    | none =>
      have : MAll ms b ≠ none := by simpa [MAll, hm] using h
      obtain ⟨m', h1, h2⟩ := MAll.has this
      exact ⟨m', .tail _ h1, h2⟩

/-- Each of some memories is below h: written out. -/
def AllLe : List Mem → Mem → Prop
  | [], _ => True
  | m :: ms, h => MLe m h ∧ AllLe ms h
theorem AllLe.of : ∀ {ms : List Mem} {h : Mem}, (∀ m ∈ ms, MLe m h) → AllLe ms h
  | [], _, _ => trivial
  | _ :: _, _, k => ⟨k _ (.head _), AllLe.of fun _ hm => k _ (.tail _ hm)⟩

/-! ### What a step keeps -/
/-- Of the blocks that were there, only those of F may have turned. -/
structure Kp (F : Nat → Prop) (w w' : World) : Prop where
  os : w'.os = w.os
  tape : w'.tape = w.tape
  output : w'.output = w.output
  size : w.heap.size ≤ w'.heap.size
  block : ∀ b, b < w.heap.size → ¬ F b → w'.heap[b]? = w.heap[b]?
abbrev Ext := Kp (fun _ => False)
theorem Kp.refl (F : Nat → Prop) (w : World) : Kp F w w := ⟨rfl, rfl, rfl, Nat.le_refl _, fun _ _ _ => rfl⟩
theorem Kp.trans {F : Nat → Prop} {a b c : World} (h : Kp F a b) (k : Kp F b c) : Kp F a c :=
  ⟨k.os.trans h.os, k.tape.trans h.tape, k.output.trans h.output, Nat.le_trans h.size k.size,
   fun x hx hf => (k.block x (Nat.lt_of_lt_of_le hx h.size) hf).trans (h.block x hx hf)⟩
theorem Kp.mono {F G : Nat → Prop} {a b : World} (h : Kp F a b) (hFG : ∀ x, x < a.heap.size → F x → G x) : Kp G a b :=
  ⟨h.os, h.tape, h.output, h.size, fun x hx hg => h.block x hx (fun hf => hg (hFG x hx hf))⟩
theorem Ext.kp {F : Nat → Prop} {a b : World} (h : Ext a b) : Kp F a b := Kp.mono h (fun _ _ hf => hf.elim)
theorem Ext.below {w w' : World} (h : Ext w w') : Below w.heap.size w w' := ⟨h.os, h.tape, h.output, h.size, fun k hk => h.block k hk (fun hf => hf)⟩
theorem Ext.of_below {w w' : World} (h : Below w.heap.size w w') : Ext w w' := ⟨h.os, h.tape, h.output, h.size, fun k hk _ => h.block k hk⟩
theorem Ext.alloc (w : World) (o : Obj) : Ext w (w.alloc o) :=
  ⟨rfl, rfl, rfl, by simp, fun b hb _ => Below.heap_alloc w o b hb⟩
theorem Ext.draw (w : World) : Ext w { w with drawn := w.drawn + 1 } := ⟨rfl, rfl, rfl, Nat.le_refl _, fun _ _ _ => rfl⟩
theorem Ext.drew (w : World) : Ext w w.drew := ⟨rfl, rfl, rfl, Nat.le_refl _, fun _ _ _ => rfl⟩
theorem Ext.get {w w' : World} (h : Ext w w') {b : Nat} {o : Obj} (hb : w.heap[b]? = some o) : w'.heap[b]? = some o :=
  (h.block b (Array.getElem?_eq_some_iff.1 hb).1 (fun hf => hf)).trans hb
theorem Sub.ext {m : Mem} {w w' : World} (hs : Sub m w) (h : Ext w w') : Sub m w' := fun b o hb => h.get (hs b o hb)

/-! ### Resources: memory of one's own -/
inductive Res where
  /-- a block of cells -/
  | blk (b : Nat) (cs : Array Value) (T : TypeId)
  /-- a slice of n elements of type T, of k cells each: nil, or at the head of a block of one's own; its cells -/
  | row (T : TypeId) (k : Nat) (v : Value) (n : Nat) (xs : List Value)
  /-- whatever else -/
  | obj (b : Nat) (o : Obj)
def Res.foot : Res → Option Nat
  | .blk b _ _ => some b
  | .row _ _ v _ _ => v.ownBlock
  | .obj b _ => some b
def Res.ok : Res → World → Prop
  | .blk b cs T, w => w.heap[b]? = some (.cells cs T (0, 0))
  | .row T k v n xs, w => w.ownsRow 0 T k v n xs
  | .obj b o, w => w.heap[b]? = some o
theorem Res.ok_of_same {r : Res} {w w' : World} (h : r.ok w) (hb : ∀ b, r.foot = some b → w'.heap[b]? = w.heap[b]?) : r.ok w' := by
  cases r with
  | blk b cs T => exact (hb b rfl).trans h
  | obj b o => exact (hb b rfl).trans h
  | row T k v n xs =>
    refine ⟨h.1, ?_⟩
    rcases h.2 with hn | ⟨g, cap, cur, rfl, hg, hh, rest⟩
    · exact .inl hn
    · exact .inr ⟨g, cap, cur, rfl, hg, (hb g rfl).trans hh, rest⟩
theorem Res.foot_lt {r : Res} {w : World} (h : r.ok w) {b : Nat} (hb : r.foot = some b) : b < w.heap.size := by
  cases r with
  | blk b' cs T => cases hb; exact (Array.getElem?_eq_some_iff.1 h).1
  | obj b' o => cases hb; exact (Array.getElem?_eq_some_iff.1 h).1
  | row T k v n xs => exact (World.ownsRow.lt h b hb).2
theorem Res.ok_ext {r : Res} {w w' : World} (h : r.ok w) (he : Ext w w') : r.ok w' :=
  Res.ok_of_same h fun b hb => he.block b (Res.foot_lt h hb) (fun hf => hf)

def feet (μ : List Res) : List Nat := μ.filterMap Res.foot
/-- A block for the rounds' deferred calls, and its mark. -/
def markOf : Res → Option Deferred
  | .obj b (.deferred (some [])) => some { target := .collected b, args := #[] }
  | _ => none
def marksOf (μ : List Res) : List Deferred := μ.filterMap markOf

/-! ### Symbolic states -/
/-- What stands round a piece of code: the program, the round, the frame's size, its deferred calls, the world at the start, the old blocks that may turn, the old blocks that are persistent. -/
structure Cx (P : Program) (n : Nat) where
  r : Option Nat
  D : List Deferred
  w0 : World
  F : Nat → Prop
  M0 : Nat → Prop

def look : List (Nat × Value) → Nat → Option Value
  | [], _ => none
  | (i, v) :: l, t => match Nat.beq i t with
    | true => some v
    | false => look l t

/-- Memory: persistent ones and resources, apart from each other. -/
structure MemOk {P : Program} {n : Nat} (c : Cx P n) (Ms : List Mem) (μ : List Res) (w : World) : Prop where
  sub : ∀ m ∈ Ms, Sub m w
  fresh : ∀ m ∈ Ms, ∀ b, m b ≠ none → c.M0 b ∨ c.w0.heap.size ≤ b
  kept : Kp c.F c.w0 w
  res : ∀ r ∈ μ, r.ok w
  nodup : (feet μ).Nodup
  own : ∀ b ∈ feet μ, (c.F b ∨ c.w0.heap.size ≤ b) ∧ ∀ m ∈ Ms, m b = none

structure Holds {P : Program} {n : Nat} (c : Cx P n) (l : List (Nat × Value)) (Ms : List Mem) (μ : List Res) (a : Act) (w : World) : Prop where
  size : a.tmps.size = n
  defers : a.defers = marksOf μ ++ c.D
  slots : ∀ t v, look l t = some v → a.tmps.getD t undef = v
  mem : MemOk c Ms μ w

theorem MemOk.ext {P : Program} {n : Nat} {c : Cx P n} {Ms : List Mem} {μ : List Res} {w w' : World} (h : MemOk c Ms μ w) (he : Ext w w') : MemOk c Ms μ w' :=
  ⟨fun m hm => (h.sub m hm).ext he, h.fresh, h.kept.trans he.kp, fun r hr => Res.ok_ext (h.res r hr) he, h.nodup, h.own⟩
theorem Holds.ext {P : Program} {n : Nat} {c : Cx P n} {l : List (Nat × Value)} {Ms : List Mem} {μ : List Res} {a : Act} {w w' : World} (h : Holds c l Ms μ a w) (he : Ext w w') : Holds c l Ms μ a w' :=
  ⟨h.size, h.defers, h.slots, h.mem.ext he⟩

abbrev Post := Exit → List (Nat × Value) → List Mem → List Res → Prop
def post {P : Program} {n : Nat} (c : Cx P n) (K : Post) : Exit → Act → World → Prop := fun e a w => ∃ l Ms μ, K e l Ms μ ∧ Holds c l Ms μ a w

/-- The code, from whatever the state stands for. -/
def W {P : Program} {n : Nat} (c : Cx P n) (code : Code) (K : Post) (l : List (Nat × Value)) (Ms : List Mem) (μ : List Res) : Prop :=
  ∀ a w, Holds c l Ms μ a w → code.wpIn (fd c.r) 0 P (post c K) a w
/-- The rest of a region that is carried out in the text's order. -/
def WL {P : Program} {n : Nat} (c : Cx P n) (ops : Array Oper) (rest : List Oper) (K : Post) (l : List (Nat × Value)) (Ms : List Mem) (μ : List Res) : Prop :=
  ∀ a w, Holds c l Ms μ a w → wpListIn (fd c.r) 0 P ops (post c K) rest a w

/-! ### Control -/
section control
variable {P : Program} {n : Nat} {c : Cx P n} {K : Post} {l : List (Nat × Value)} {Ms : List Mem} {μ : List Res}

def Kseq (c : Cx P n) (y : Code) (K : Post) : Post
  | .normal, l, Ms, μ => W c y K l Ms μ
  | e, l, Ms, μ => K e l Ms μ
theorem Kseq.go {y : Code} (h : W c y K l Ms μ) : Kseq c y K .normal l Ms μ := h

theorem Kseq.exit {y : Code} {j : Nat} (h : K (.exit j) l Ms μ) : Kseq c y K (.exit j) l Ms μ := h
theorem Kseq.ret {y : Code} (h : K .ret l Ms μ) : Kseq c y K .ret l Ms μ := h

theorem W.seq {x y : Code} (h : W c x (Kseq c y K) l Ms μ) : W c (.seq x y) K l Ms μ := fun a w hh =>
  wpIn_seq (wpIn_mono (h a w hh) fun e a' w' ⟨l', Ms', μ', hk, hh'⟩ => by
    cases e with
    | normal => exact hk a' w' hh'
    | _ => exact ⟨l', Ms', μ', hk, hh'⟩)
theorem W.skip (h : K .normal l Ms μ) : W c .skip K l Ms μ := fun _ _ hh => wpIn_skip ⟨l, Ms, μ, h, hh⟩
theorem W.label {j : Nat} (h : K .normal l Ms μ) : W c (.label j) K l Ms μ := fun _ _ hh => wpIn_label ⟨l, Ms, μ, h, hh⟩
theorem W.exit {j : Nat} (h : K (.exit j) l Ms μ) : W c (.exit j) K l Ms μ := fun _ _ hh => wpIn_exit ⟨l, Ms, μ, h, hh⟩
theorem W.ret (h : K .ret l Ms μ) : W c .ret K l Ms μ := fun _ _ hh => wpIn_ret ⟨l, Ms, μ, h, hh⟩

def Kblock (id : Nat) (K : Post) : Post
  | .exit id', l, Ms, μ => if id' = id then K .normal l Ms μ else K (.exit id') l Ms μ
  | e, l, Ms, μ => K e l Ms μ
theorem Kblock.normal {id : Nat} (h : K .normal l Ms μ) : Kblock id K .normal l Ms μ := h
theorem Kblock.here {id : Nat} (h : K .normal l Ms μ) : Kblock id K (.exit id) l Ms μ := by simpa [Kblock] using h
theorem Kblock.past {id id' : Nat} (hne : (id' == id) = false) (h : K (.exit id') l Ms μ) : Kblock id K (.exit id') l Ms μ := by
  have : id' ≠ id := by simpa using hne
  simpa [Kblock, this] using h
theorem Kblock.ret {id : Nat} (h : K .ret l Ms μ) : Kblock id K .ret l Ms μ := h
theorem W.block {id : Nat} {x : Code} (h : W c x (Kblock id K) l Ms μ) : W c (.block id x) K l Ms μ := fun a w hh =>
  wpIn_block (wpIn_mono (h a w hh) fun e a' w' ⟨l', Ms', μ', hk, hh'⟩ => by
    cases e with
    | exit id' =>
      simp only [Exit.inBlock, Kblock] at hk ⊢
      split
      · rename_i hid; rw [if_pos hid] at hk; exact ⟨l', Ms', μ', hk, hh'⟩
      · rename_i hid; rw [if_neg hid] at hk; exact ⟨l', Ms', μ', hk, hh'⟩
    | _ => exact ⟨l', Ms', μ', hk, hh'⟩)

/-- An operand's value in a list of slots. -/
def ev (l : List (Nat × Value)) : Operand → Value
  | .tmp t => (look l t).getD undef
  | .const v => v
  | .global g => .pointer (some ⟨g, 0, none⟩)
  | .func f => .func (.func f) #[] #[]
def kn (l : List (Nat × Value)) : Operand → Bool
  | .tmp t => (look l t).isSome
  | _ => true
theorem Holds.eval {a : Act} {w : World} (hh : Holds c l Ms μ a w) {x : Operand} (hx : kn l x = true) : a.eval x = ev l x := by
  cases x with
  | tmp t =>
    simp only [kn] at hx
    cases hl : look l t with
    | none => rw [hl] at hx; cases hx
    | some v => simp [ev, hl, Act.eval, hh.slots t v hl]
  | _ => rfl

theorem W.cond {x : Operand} {t e : Code} {b : Bool} (hk : kn l x = true) (hb : ev l x = .bool b) (ht : b = true → W c t K l Ms μ) (he : b = false → W c e K l Ms μ) : W c (.cond x t e) K l Ms μ := fun a w hh =>
  wpIn_cond_split ((hh.eval hk).trans hb) (fun h => ht h a w hh) (fun h => he h a w hh)
theorem W.condT {x : Operand} {t e : Code} (hk : kn l x = true) (hb : ev l x = .bool true) (ht : W c t K l Ms μ) : W c (.cond x t e) K l Ms μ :=
  W.cond hk hb (fun _ => ht) (fun h => by cases h)
theorem W.condF {x : Operand} {t e : Code} (hk : kn l x = true) (hb : ev l x = .bool false) (he : W c e K l Ms μ) : W c (.cond x t e) K l Ms μ :=
  W.cond hk hb (fun h => by cases h) (fun _ => he)
/-- A test that is decided by a proposition. -/
theorem W.condD {x : Operand} {t e : Code} {p : Prop} [Decidable p] (hk : kn l x = true) (hb : ev l x = .bool (decide p)) (ht : p → W c t K l Ms μ) (he : ¬ p → W c e K l Ms μ) : W c (.cond x t e) K l Ms μ :=
  W.cond hk hb (fun h => ht (of_decide_eq_true h)) (fun h => he (of_decide_eq_false h))

/-- The slots of a list are those of another one: written out. -/
def Has (l : List (Nat × Value)) : List (Nat × Value) → Prop
  | [] => True
  | (i, v) :: ps => look l i = some v ∧ Has l ps
theorem Has.look {l : List (Nat × Value)} : ∀ {ps : List (Nat × Value)}, Has l ps → ∀ t v, look ps t = some v → look l t = some v
  | [], _, _, _, h => by cases h
  | (i, u) :: ps, hh, t, v, h => by
    simp only [Eng.look] at h
    split at h
    · rename_i e; cases Nat.eq_of_beq_eq_true e; cases h; exact hh.1
    · exact Has.look hh.2 t v h


end control

/-! ### Loops -/
theorem wpIn_loop_ghost {σ : Type} {F : Fence} {n : Nat} {P : Program} {Q : Exit → Act → World → Prop} {c : Code} (I : σ → Act → World → Prop) (ms : σ → Nat)
    (round : ∀ s a w, I s a w → c.wpIn F n P (Exit.then (fun a' w' => ∃ s', I s' a' w' ∧ ms s' < ms s) Q) a w) {s0 : σ} {a : Act} {w : World} (h₀ : I s0 a w) : (Code.loop c).wpIn F n P Q a w := by
  intro b k cs hro hb hr
  have key : ∀ j (s : σ) a w, ms s = j → I s a w →
      ∃ e a' w', Q e a' w' ∧ ArrivesIn (Machine.fenced P F) P (lone (b.atR a (.code c :: .inLoop c :: k)) cs w) b k cs e a' w' := by
    intro j
    induction j using Nat.strongRecOn with
    | _ j ih =>
      intro s a w hn hI
      obtain ⟨e, a₁, w₁, hq, harr⟩ := round s a w hI b (.inLoop c :: k) cs hro hb hr
      cases e with
      | normal =>
        obtain ⟨s', hI₁, hlt⟩ := hq
        obtain ⟨e₂, a₂, w₂, hq₂, harr₂⟩ := ih (ms s') (hn ▸ hlt) s' a₁ w₁ rfl hI₁
        exact ⟨e₂, a₂, w₂, hq₂, .of_steps (StepsIn.trans harr (.one (fenced_calm hb hr rfl) stepR_inLoop)) harr₂⟩
      | exit id => exact ⟨_, a₁, w₁, hq, .pass (x := .inLoop c) rfl (fun _ _ => .inl (by simp)) harr⟩
      | goto l => exact ⟨_, a₁, w₁, hq, .pass (x := .inLoop c) rfl (fun _ _ => .inl (by simp)) harr⟩
      | ret => exact ⟨_, a₁, w₁, hq, .pass (x := .inLoop c) rfl (fun _ _ => .inl (by simp)) harr⟩
      | panic ch => exact ⟨_, a₁, w₁, hq, .pass (x := .inLoop c) rfl (fun _ _ => .inl (by simp)) harr⟩
      | outgrown => exact ⟨_, a₁, w₁, hq, .pass (x := .inLoop c) rfl (fun _ _ => .inl (by simp)) harr⟩
  obtain ⟨e, a', w', hq, harr⟩ := key _ s0 a w rfl h₀
  exact ⟨e, a', w', hq, .of_steps (.one (fenced_calm hb hr rfl) stepR_loop) harr⟩

theorem feet_sublist {μ μ' : List Res} (h : List.Sublist μ' μ) : List.Sublist (feet μ') (feet μ) := h.filterMap _

section
variable {P : Program} {n : Nat} {c : Cx P n} {K : Post} {l : List (Nat × Value)} {Ms : List Mem} {μ : List Res}

/-- From fewer known slots, memories, resources. -/
theorem Holds.weaken {l' : List (Nat × Value)} {Ms' : List Mem} {μ' : List Res} {a : Act} {w : World} (hl : Has l l') (hm : ∀ m ∈ Ms', m ∈ Ms) (hμ : List.Sublist μ' μ) (hd : marksOf μ' = marksOf μ) (hh : Holds c l Ms μ a w) : Holds c l' Ms' μ' a w :=
  ⟨hh.size, by rw [hd]; exact hh.defers, fun t v ht => hh.slots t v (hl.look t v ht),
   ⟨fun m h' => hh.mem.sub m (hm m h'), fun m h' => hh.mem.fresh m (hm m h'), hh.mem.kept, fun r hr => hh.mem.res r (hμ.mem hr), (feet_sublist hμ).nodup hh.mem.nodup,
    fun b hb => ⟨(hh.mem.own b ((feet_sublist hμ).mem hb)).1, fun m h' => (hh.mem.own b ((feet_sublist hμ).mem hb)).2 m (hm m h')⟩⟩⟩
theorem W.weaken {code : Code} (l' : List (Nat × Value)) (Ms' : List Mem) (μ' : List Res) (hl : Has l l') (hm : ∀ m ∈ Ms', m ∈ Ms) (hμ : List.Sublist μ' μ) (h : W c code K l' Ms' μ') (hd : marksOf μ' = marksOf μ := by rfl) : W c code K l Ms μ := fun a w hh => h a w (hh.weaken hl hm hμ hd)

/-- What a round must end in: a later ghost state. -/
def Kloop {σ : Type} (S : σ → List (Nat × Value)) (M : σ → List Mem) (R : σ → List Res) (I : σ → Prop) (ms : σ → Nat) (s : σ) (K : Post) : Post
  | .normal, l, Ms, μ => ∃ s', I s' ∧ ms s' < ms s ∧ Has l (S s') ∧ (∀ m ∈ M s', m ∈ Ms) ∧ List.Sublist (R s') μ ∧ marksOf (R s') = marksOf μ
  | e, l, Ms, μ => K e l Ms μ

theorem Kloop.exit {σ : Type} {S : σ → List (Nat × Value)} {M : σ → List Mem} {R : σ → List Res} {I : σ → Prop} {ms : σ → Nat} {s : σ} {j : Nat} (h : K (.exit j) l Ms μ) : Kloop S M R I ms s K (.exit j) l Ms μ := h
theorem Kloop.ret {σ : Type} {S : σ → List (Nat × Value)} {M : σ → List Mem} {R : σ → List Res} {I : σ → Prop} {ms : σ → Nat} {s : σ} (h : K .ret l Ms μ) : Kloop S M R I ms s K .ret l Ms μ := h
theorem Kloop.next {σ : Type} {S : σ → List (Nat × Value)} {M : σ → List Mem} {R : σ → List Res} {I : σ → Prop} {ms : σ → Nat} {s : σ} (s' : σ) (h1 : I s') (h2 : ms s' < ms s) (h3 : Has l (S s')) (h4 : ∀ m ∈ M s', m ∈ Ms) (h5 : List.Sublist (R s') μ) (h6 : marksOf (R s') = marksOf μ := by rfl) : Kloop S M R I ms s K .normal l Ms μ := ⟨s', h1, h2, h3, h4, h5, h6⟩

theorem W.loop {σ : Type} {body : Code} (S : σ → List (Nat × Value)) (M : σ → List Mem) (R : σ → List Res) (I : σ → Prop) (ms : σ → Nat) (s0 : σ)
    (hs : Has l (S s0)) (hM : ∀ m ∈ M s0, m ∈ Ms) (hR : List.Sublist (R s0) μ) (h0 : I s0)
    (round : ∀ s, I s → W c body (Kloop S M R I ms s K) (S s) (M s) (R s)) (hRm : marksOf (R s0) = marksOf μ := by rfl) : W c (.loop body) K l Ms μ := fun a w hh =>
  wpIn_loop_ghost (fun s a w => I s ∧ Holds c (S s) (M s) (R s) a w) ms (fun s a w ⟨hI, hh⟩ =>
    wpIn_mono (round s hI a w hh) fun e a' w' ⟨l', Ms', μ', hk, hh'⟩ => by
      cases e with
      | normal =>
        obtain ⟨s', h1, h2, h3, h4, h5, h6⟩ := hk
        exact ⟨s', ⟨h1, hh'.weaken h3 h4 h5 h6⟩, h2⟩
      | _ => exact ⟨l', Ms', μ', hk, hh'⟩) (s0 := s0) ⟨h0, hh.weaken hs hM hR hRm⟩

theorem _root_.Nat.lt_of_blt {a b : Nat} (h : Nat.blt a b = true) : a < b := by simpa using h

/-! ### One operation -/
variable {o : Oper}

/-- What an operation does, its operands' values being given: it yields a value of which R holds, at once or by a call. -/
def Yields (P : Program) (o : Oper) (ρ : Operand → Value) (w : World) (R : Value → World → Prop) : Prop :=
  (∀ d, o.op ≠ .defer d) ∧ (∀ cs b, o.op ≠ .select cs b) ∧
  match (execOp ρ o).run P w with
  | .ok (.value u) w' => R u w'
  | .ok .skip w' => R undef w'
  | .ok (.enter f args) w' => Calls P f args w' fun e w'' => ∃ u, e = .returned u ∧ R u w''
  | _ => False
theorem Yields.congr {ρ ρ' : Operand → Value} {w : World} {R : Value → World → Prop} (h : ∀ x ∈ o.op.operands, ρ x = ρ' x) (hy : Yields P o ρ w R) : Yields P o ρ' w R := by
  refine ⟨hy.1, hy.2.1, ?_⟩
  rw [← execOp_congr o hy.2.1 h]
  exact hy.2.2
theorem Yields.mono {ρ : Operand → Value} {w : World} {R R' : Value → World → Prop} (hy : Yields P o ρ w R) (hr : ∀ v w', R v w' → R' v w') : Yields P o ρ w R' := by
  refine ⟨hy.1, hy.2.1, ?_⟩
  have h := hy.2.2
  split at h
  · exact hr _ _ h
  · exact hr _ _ h
  · exact h.mono fun _ _ ⟨u, h1, h2⟩ => ⟨u, h1, hr _ _ h2⟩
  · exact h.elim
theorem Yields.wpIn {a : Act} {w : World} {R : Value → World → Prop} {next : Act → World → Prop} {Q : Exit → Act → World → Prop} {r : Option Nat} (hy : Yields P o a.eval w R) (hn : ∀ v w', R v w' → next (a.put o.dst v) w') : o.wpIn (fd r) 0 P a w next Q := by
  refine ⟨fun _ _ => trivial, ?_⟩
  rw [Oper.semAt_eq _ _ _ hy.1]
  have h := hy.2.2
  split at h
  · rename_i u w' hr; rw [hr]; exact hn u w' h
  · rename_i w' hr; rw [hr]; exact hn undef w' h
  · rename_i f args w' hr
    rw [hr]
    refine ⟨(fun h => by cases h), ?_⟩
    have h' : CallsIn Fence.wide (0 - 1) P f args w' (fun e w'' => match e with
      | .returned v => next (a.put o.dst v) w''
      | .panicked chain => Q (.panic chain) a w''
      | .outgrown => LetsOut Q) := callsIn_wide.2 (h.mono fun e w' ⟨v, he, hr⟩ => by subst he; exact hn v w' hr)
    exact h'.mono fun e w' he => by cases e <;> exact he
  · exact h.elim

/-- The operation yields v, which the state alone tells; whatever was there is kept. -/
def OpVal (c : Cx P n) (o : Oper) (l : List (Nat × Value)) (Ms : List Mem) (μ : List Res) (v : Value) : Prop :=
  ∀ a w, Holds c l Ms μ a w → Yields P o a.eval w fun u w' => u = v ∧ Ext w w'
/-- The operation yields a value of which A holds, in a persistent memory that lies beside the old ones or is new. -/
def OpAbs (c : Cx P n) (o : Oper) (l : List (Nat × Value)) (Ms : List Mem) (μ : List Res) (A : Mem → Value → Prop) : Prop :=
  ∀ a w, Holds c l Ms μ a w → Yields P o a.eval w fun u w' => Ext w w' ∧ ∃ mr, Sub mr w' ∧ (∀ b, mr b ≠ none → (∃ m ∈ Ms, m b ≠ none) ∨ w.heap.size ≤ b) ∧ A mr u

theorem OpVal.cast {v v' : Value} (h : OpVal c o l Ms μ v) (e : v = v') : OpVal c o l Ms μ v' := e ▸ h
theorem OpVal.same {Ms' : List Mem} {v : Value} (hm : ∀ m ∈ Ms', m ∈ Ms) (h : OpVal c o l Ms' μ v) : OpVal c o l Ms μ v := fun a w hh =>
  h a w ⟨hh.size, hh.defers, hh.slots, ⟨fun m h' => hh.mem.sub m (hm m h'), fun m h' => hh.mem.fresh m (hm m h'), hh.mem.kept, hh.mem.res, hh.mem.nodup, fun b hb => ⟨(hh.mem.own b hb).1, fun m h' => (hh.mem.own b hb).2 m (hm m h')⟩⟩⟩

theorem Holds.put {a : Act} {w : World} (hh : Holds c l Ms μ a w) {d : Nat} (hd : d < n) (v : Value) : Holds c ((d, v) :: l) Ms μ (a.put (some d) v) w :=
  ⟨by simp [Act.put, hh.size], by simp [Act.put, hh.defers], fun t u ht => by
    simp only [look] at ht
    split at ht
    · rename_i e
      cases Nat.eq_of_beq_eq_true e
      cases ht
      simp [Act.put, hh.size, hd]
    · rename_i e
      have hne : d ≠ t := fun h => by subst h; simp at e
      have := hh.slots t u ht
      simp only [Act.put, Array.getD_eq_getD_getElem?, Array.getElem?_setIfInBounds_ne hne] at this ⊢
      exact this, hh.mem⟩

theorem MemOk.add {w w' : World} {mr : Mem} (h : MemOk c Ms μ w) (he : Ext w w') (hs : Sub mr w') (hf : ∀ b, mr b ≠ none → (∃ m ∈ Ms, m b ≠ none) ∨ w.heap.size ≤ b) : MemOk c (mr :: Ms) μ w' := by
  have h' := h.ext he
  refine ⟨fun m hm => ?_, fun m hm => ?_, h'.kept, h'.res, h'.nodup, fun b hb => ⟨(h'.own b hb).1, fun m hm => ?_⟩⟩
  · rcases List.mem_cons.1 hm with rfl | hm
    · exact hs
    · exact h'.sub m hm
  · rcases List.mem_cons.1 hm with rfl | hm
    · intro b hb
      rcases hf b hb with ⟨m, hm, hb'⟩ | hb'
      · exact h.fresh m hm b hb'
      · exact .inr (Nat.le_trans h.kept.size hb')
    · exact h'.fresh m hm
  · rcases List.mem_cons.1 hm with rfl | hm
    · cases hx : m b with
      | none => rfl
      | some o =>
        exfalso
        rcases hf b (by rw [hx]; simp) with ⟨m', hm', hb'⟩ | hb'
        · exact hb' ((h.own b hb).2 m' hm')
        · obtain ⟨r, hr, hfo⟩ := List.mem_filterMap.1 hb
          have := Res.foot_lt (h.res r hr) hfo
          omega
    · exact (h'.own b hb).2 m hm
theorem Holds.add {a : Act} {w w' : World} {mr : Mem} (h : Holds c l Ms μ a w) (he : Ext w w') (hs : Sub mr w') (hf : ∀ b, mr b ≠ none → (∃ m ∈ Ms, m b ≠ none) ∨ w.heap.size ≤ b) : Holds c l (mr :: Ms) μ a w' :=
  ⟨h.size, h.defers, h.slots, h.mem.add he hs hf⟩

/-- Is the operation wanted? -/
def want (ops : Array Oper) (l : List (Nat × Value)) (o : Oper) : Option Bool :=
  match o.guard with
  | none => some true
  | some (j, b) => match (ops[j]?).bind (·.dst) with
    | some d => match look l d with
      | some (.bool x) => some (x == b)
      | some (.tuple _) => some false
      | _ => none
    | none => none
theorem want_spec {ops : Array Oper} {a : Act} {w : World} (hh : Holds c l Ms μ a w) {b : Bool} (h : want ops l o = some b) : Region.wanted o (yielded ops a.tmps) = b := by
  unfold want at h
  unfold Region.wanted
  split at h
  · rename_i hg; rw [hg]; cases h; rfl
  · rename_i j b' hg
    rw [hg]
    simp only
    split at h
    · rename_i d hd
      split at h
      · rename_i x hx
        cases h
        have hs := hh.slots d _ hx
        have ht : a.tmps[d]? = some (.bool x) := by
          rw [Array.getD_eq_getD_getElem?] at hs
          cases hc : a.tmps[d]? with
          | none => rw [hc] at hs; simp [undef] at hs
          | some y => rw [hc] at hs; simp at hs; rw [hs]
        simp only [yielded, hd, Option.bind_some, ht]
        cases x <;> cases b' <;> rfl
      · rename_i cs hx
        cases h
        have hs := hh.slots d _ hx
        have hn : ∀ x : Bool, a.tmps[d]? ≠ some (.bool x) := fun x hx' => by
          rw [Array.getD_eq_getD_getElem?, hx'] at hs; cases hs
        have hy : yielded ops a.tmps j = none := by
          simp only [yielded, hd, Option.bind_some]
        rw [hy]; cases b' <;> rfl
      · cases h
    · cases h

variable {ops : Array Oper} {rest : List Oper}
theorem W.region {id : Nat} {l0 : List Oper} (h : WL c l0.toArray l0 K l Ms μ) : W c (.region id l0.toArray false) K l Ms μ := fun a w hh => wpIn_region_lit (h a w hh)
theorem WL.nil (h : K .normal l Ms μ) : WL c ops [] K l Ms μ := fun _ _ hh => ⟨l, Ms, μ, h, hh⟩
theorem WL.step (hw : want ops l o = some true) (h : ∀ a w, Holds c l Ms μ a w → o.wpIn (fd c.r) 0 P a w (wpListIn (fd c.r) 0 P ops (post c K) rest) (post c K)) : WL c ops (o :: rest) K l Ms μ := fun a w hh => by
  unfold wpListIn
  rw [if_pos (want_spec hh hw)]
  exact h a w hh
theorem WL.val {v : Value} {d : Nat} (hv : OpVal c o l Ms μ v) (hw : want ops l o = some true) (hd : o.dst = some d) (hn : Nat.blt d n = true) (h : WL c ops rest K ((d, v) :: l) Ms μ) : WL c ops (o :: rest) K l Ms μ :=
  WL.step hw fun a w hh => (hv a w hh).wpIn fun u w' ⟨hu, he⟩ => by subst hu; rw [hd]; exact h _ _ ((hh.ext he).put (Nat.lt_of_blt hn) u)
theorem WL.val0 {v : Value} (hv : OpVal c o l Ms μ v) (hw : want ops l o = some true) (hd : o.dst = none) (h : WL c ops rest K l Ms μ) : WL c ops (o :: rest) K l Ms μ :=
  WL.step hw fun a w hh => (hv a w hh).wpIn fun u w' ⟨hu, he⟩ => by subst hu; rw [hd]; exact h _ _ (hh.ext he)
theorem WL.abs {A : Mem → Value → Prop} {d : Nat} (hv : OpAbs c o l Ms μ A) (hw : want ops l o = some true) (hd : o.dst = some d) (hn : Nat.blt d n = true)
    (h : ∀ mr v, A mr v → WL c ops rest K ((d, v) :: l) (mr :: Ms) μ) : WL c ops (o :: rest) K l Ms μ :=
  WL.step hw fun a w hh => (hv a w hh).wpIn fun v w' ⟨he, mr, hs, hf, hA⟩ => by rw [hd]; exact h mr v hA _ _ ((hh.add he hs hf).put (Nat.lt_of_blt hn) v)
theorem WL.pass {d : Nat} (hw : want ops l o = some false) (hd : o.dst = some d) (hn : Nat.blt d n = true) (h : WL c ops rest K ((d, undef) :: l) Ms μ) : WL c ops (o :: rest) K l Ms μ := fun a w hh => by
  unfold wpListIn
  rw [if_neg (by rw [want_spec hh hw]; simp)]
  refine ⟨fun _ _ => trivial, ?_⟩
  rw [hd]; exact h _ _ (hh.put (Nat.lt_of_blt hn) undef)

/-! ### Operations that look at no memory -/
def lk (l : List (Nat × Value)) : Operand → Option Value
  | .tmp t => look l t
  | .const v => some v
  | .global g => some (.pointer (some ⟨g, 0, none⟩))
  | .func f => some (.func (.func f) #[] #[])
theorem Holds.lk {a : Act} {w : World} (hh : Holds c l Ms μ a w) {x : Operand} {v : Value} (hx : lk l x = some v) : a.eval x = v := by
  cases x with
  | tmp t => exact hh.slots t v hx
  | _ => cases hx; rfl

def lks (l : List (Nat × Value)) : List Operand → Option (List Value)
  | [] => some []
  | x :: xs => match Eng.lk l x, lks l xs with
    | some v, some vs => some (v :: vs)
    | _, _ => none
theorem Holds.lks {a : Act} {w : World} (hh : Holds c l Ms μ a w) : ∀ {xs : List Operand} {vs : List Value}, lks l xs = some vs → xs.map a.eval = vs
  | [], _, h => by cases h; rfl
  | x :: xs, vs, h => by
    simp only [Eng.lks] at h
    split at h
    · rename_i v vs' h1 h2
      cases h
      simp [hh.lk h1, Holds.lks hh h2]
    · cases h

/-- What such an operation yields. -/
def opv (l : List (Nat × Value)) : Op → Option Value
  | .move x => lk l x
  | .assign x => lk l x
  | .pick x a b => match lk l x, lk l a, lk l b with
    | some (.bool true), some v, _ => some v
    | some (.bool false), _, some u => some u
    | _, _, _ => none
  | .binOp op _ x y _ => match lk l x, lk l y with
    | some (.int .i64 a), some (.int .i64 b) => match op with
      | .eql => some (.bool (decide (a = b)))
      | .neq => some (.bool (!decide (a = b)))
      | .lss => some (.bool (decide (a < b)))
      | .leq => some (.bool (decide (a ≤ b)))
      | .gtr => some (.bool (decide (b < a)))
      | .geq => some (.bool (decide (b ≤ a)))
      | _ => none
    | _, _ => none
  | .unOp .not _ x => match lk l x with
    | some (.bool b) => some (.bool (!b))
    | _ => none
  | .extract x i => match lk l x with
    | some (.tuple vs) => vs[i]?
    | _ => none
  | .nilCheck x => match lk l x with
    | some (.pointer (some a)) => some (.pointer (some a))
    | some (.func (.func f) p q) => some (.func (.func f) p q)
    | _ => none
  | .makeFunc fn first captured => match lks l first.toList, lks l captured.toList with
    | some p, some q => some (.func fn p.toArray q.toArray)
    | _, _ => none
  | _ => none

theorem OpVal.of_runs {v : Value} (hdf : ∀ c, o.op ≠ .defer c) (hse : ∀ cs b, o.op ≠ .select cs b) (h : ∀ a w, Holds c l Ms μ a w → (execOp a.eval o).run P w = .ok (.value v) w) : OpVal c o l Ms μ v := fun a w hh => by
  refine ⟨hdf, hse, ?_⟩
  rw [h a w hh]
  exact ⟨rfl, Kp.refl _ w⟩

theorem OpVal.opv {v : Value} (h : opv l o.op = some v) : OpVal c o l Ms μ v := by
  obtain ⟨dst, op, type, pos, after, guard⟩ := o
  refine OpVal.of_runs (by rintro c rfl; simp [Eng.opv] at h) (by rintro cs b rfl; simp [Eng.opv] at h) fun a w hh => ?_
  simp only at h
  unfold Eng.opv at h
  split at h
  · simp [execOp, hh.lk h]
  · simp [execOp, hh.lk h]
  · split at h
    · rename_i h1 h2
      cases h; simp [execOp, hh.lk h1, hh.lk h2, asBool]
    · rename_i h1 h2
      cases h; simp [execOp, hh.lk h1, hh.lk h2, asBool]
    · cases h
  · split at h
    · rename_i h1 h2
      split at h <;> cases h <;> simp [execOp, hh.lk h1, hh.lk h2, eqGuard, binOp, Op.intCmp, bne] <;> rfl
    · cases h
  · split at h
    · rename_i h1
      cases h; simp [execOp, hh.lk h1, Op.unary]
    · cases h
  · split at h
    · rename_i h1
      simp [execOp, hh.lk h1, Instr.extract, h]
    · cases h
  · split at h
    · rename_i h1; cases h; simp [execOp, hh.lk h1]
    · rename_i h1; cases h; simp [execOp, hh.lk h1]
    · cases h
  · split at h
    · rename_i h1 h2
      cases h
      have e1 := hh.lks h1
      have e2 := hh.lks h2
      simp only [execOp, Instr.makeFunc, Sem.run_bind, Sem.run_pure, Result.andThen_ok]
      congr 3 <;> (apply Array.ext'; simp [*])
    · cases h
  · cases h
end

open Go Go.RowKit

/-! ### The program's table of types, as classes -/
class TU (P : Program) (t : TypeId) (d : outParam TypeDesc) : Prop where
  u : P.underlying t = some d
class TI (P : Program) (t : TypeId) (size bytes : outParam Nat) (zero : outParam Value) : Prop where
  i : ∃ i, P.info? t = some i ∧ i.size = size ∧ i.bytes = bytes ∧ i.zero = some zero
theorem TI.mk' {P : Program} {t : TypeId} {size bytes : Nat} {zero : Value} (h : (P.info? t).map (fun i => (i.size, i.bytes, i.zero)) = some (size, bytes, some zero)) : TI P t size bytes zero := by
  cases hi : P.info? t with
  | none => rw [hi] at h; cases h
  | some i =>
    rw [hi] at h
    simp at h
    exact ⟨⟨i, hi, h.1, h.2.1, h.2.2⟩⟩
theorem TI.sizeOf {P : Program} {t : TypeId} {size bytes : Nat} {zero : Value} (h : TI P t size bytes zero) (w : World) : (sizeOf t).run P w = .ok size w := by
  obtain ⟨i, h1, h2, _, _⟩ := h.i
  simp [Go.sizeOf, typeInfo, h1, h2]
theorem TI.zero {P : Program} {t : TypeId} {size bytes : Nat} {zero : Value} (h : TI P t size bytes zero) (w : World) : (zeroValue t).run P w = .ok zero w := by
  obtain ⟨i, h1, _, _, h2⟩ := h.i
  simp [zeroValue, typeInfo, h1, h2]
/-- A type whose values are of one cell that is no aggregate's. -/
def flat : TypeDesc → Bool
  | .struct _ | .array _ _ => false
  | _ => true
theorem TU.flat {P : Program} {t : TypeId} {d : TypeDesc} (h : TU P t d) (hf : flat d = true) (w : World) : (isAgg t).run P w = .ok false w := by
  simp only [isAgg, Sem.run_bind, run_underlying h.u, Result.andThen_ok]
  cases d <;> first | rfl | cases hf
theorem TU.agg {P : Program} {t : TypeId} {d : TypeDesc} (h : TU P t d) (hf : Eng.flat d = false) (w : World) : (isAgg t).run P w = .ok true w := by
  simp only [isAgg, Sem.run_bind, run_underlying h.u, Result.andThen_ok]
  cases d <;> first | rfl | cases hf

/-- Is a value of the type an aggregate? -/
class TL (P : Program) (t : TypeId) (b : outParam Bool) : Prop where
  l : ∀ w, (isAgg t).run P w = .ok b w
theorem TL.flat {P : Program} {t : TypeId} {d : TypeDesc} (h : P.underlying t = some d) (hf : Eng.flat d = true) : TL P t false := ⟨TU.flat ⟨h⟩ hf⟩
theorem TL.struct {P : Program} {t : TypeId} {fs : Array Field} (h : P.underlying t = some (.struct fs)) : TL P t true := ⟨TU.agg ⟨h⟩ rfl⟩
theorem TL.array {P : Program} {t e : TypeId} {n : Nat} (h : P.underlying t = some (.array n e)) : TL P t true := ⟨TU.agg ⟨h⟩ rfl⟩

/-! ### Slices in persistent memory -/
def cellM (m : Mem) (b o : Nat) : Option Value :=
  match m b with
  | some (.cells cs _ _) => cs[o]?
  | _ => none
theorem cellM_le {m m' : Mem} (h : MLe m m') {b o : Nat} {v : Value} (hc : cellM m b o = some v) : cellM m' b o = some v := by
  unfold cellM at *
  cases hb : m b with
  | none => rw [hb] at hc; cases hc
  | some ob => rw [h b ob hb]; rw [hb] at hc; exact hc
theorem cellM_sub {m : Mem} {w : World} (h : Sub m w) {b o : Nat} {v : Value} (hc : cellM m b o = some v) : w.cell? ⟨b, o, none⟩ = some v := by
  unfold cellM at hc
  cases hb : m b with
  | none => rw [hb] at hc; cases hc
  | some ob =>
    rw [hb] at hc
    unfold World.cell?
    simp only [h b ob hb]
    cases ob <;> first | cases hc | exact hc

/-- A slice of n elements of k cells each, f their values. -/
def IsArr (m : Mem) (k : Nat) (v : Value) (n : Nat) (f : Nat → Nat → Value) : Prop :=
  ∃ a cap, v = .slice a n cap ∧ n ≤ cap ∧ cap ≤ maxLen ∧ (∀ i j, i < n → j < k → (f i j).oneCell' = true) ∧
    (0 < n → ∃ b off, a = some ⟨b, off, none⟩ ∧ ∀ i j, i < n → j < k → cellM m b (off + i * k + j) = some (f i j))
theorem IsArr.le {m m' : Mem} {k : Nat} {v : Value} {n : Nat} {f : Nat → Nat → Value} (h : IsArr m k v n f) (hm : MLe m m') : IsArr m' k v n f := by
  obtain ⟨a, cap, hv, h1, h2, h3, h4⟩ := h
  exact ⟨a, cap, hv, h1, h2, h3, fun hn => let ⟨b, off, ha, hc⟩ := h4 hn; ⟨b, off, ha, fun i j hi hj => cellM_le hm (hc i j hi hj)⟩⟩
theorem IsArr.congr {m : Mem} {k : Nat} {v : Value} {n : Nat} {f g : Nat → Nat → Value} (h : IsArr m k v n f) (e : ∀ i j, i < n → j < k → f i j = g i j) : IsArr m k v n g := by
  obtain ⟨a, cap, hv, h1, h2, h3, h4⟩ := h
  exact ⟨a, cap, hv, h1, h2, fun i j hi hj => e i j hi hj ▸ h3 i j hi hj, fun hn => let ⟨b, off, ha, hc⟩ := h4 hn; ⟨b, off, ha, fun i j hi hj => e i j hi hj ▸ hc i j hi hj⟩⟩
theorem IsArr.one {m : Mem} {k : Nat} {v : Value} {n : Nat} {f : Nat → Nat → Value} (h : IsArr m k v n f) : v.oneCell' = true := by
  obtain ⟨a, cap, rfl, _⟩ := h; rfl
theorem IsArr.cells {m : Mem} {k : Nat} {v : Value} {n : Nat} {f : Nat → Nat → Value} (h : IsArr m k v n f) : v.cells = #[v] := by
  obtain ⟨a, cap, rfl, _⟩ := h; rfl
theorem IsArr.len {m : Mem} {k : Nat} {v : Value} {n : Nat} {f : Nat → Nat → Value} (h : IsArr m k v n f) : n ≤ maxLen := by
  obtain ⟨a, cap, rfl, h1, h2, _⟩ := h; omega
theorem IsArr.nil (m : Mem) (k : Nat) (f : Nat → Nat → Value) : IsArr m k (.slice none 0 0) 0 f :=
  ⟨none, 0, rfl, Nat.le_refl _, Nat.zero_le _, fun _ _ hi => absurd hi (Nat.not_lt_zero _), fun h => absurd h (Nat.lt_irrefl _)⟩

/-- The address of a cell of a slice's element. -/
def EP (v : Value) (k i off : Nat) : Value :=
  match v with
  | .slice (some a) _ _ => .pointer (some ⟨a.block, a.off + i * k + off, none⟩)
  | _ => undef

section
variable {P : Program} {n : Nat} {c : Cx P n} {K : Post} {l : List (Nat × Value)} {Ms : List Mem} {μ : List Res}
variable {dst : Option Tmp} {x y : Operand} {t ty : TypeId} {pos : String} {af : Array Edge} {gd : Option (Nat × Bool)}

/-! ### Arithmetic -/
theorem i64_in {x : Int} (h1 : -9223372036854775808 ≤ x) (h2 : x ≤ 9223372036854775807) : IntKind.i64.wrap x = x := IntWalk.i64_in x ⟨h1, h2⟩
theorem OpVal.add {t' : TypeId} {a b : Int} (hx : lk l x = some (.int .i64 a)) (hy : lk l y = some (.int .i64 b)) (h1 : -9223372036854775808 ≤ a + b) (h2 : a + b ≤ 9223372036854775807) :
    OpVal c ⟨dst, .binOp .add t x y t', ty, pos, af, gd⟩ l Ms μ (.int .i64 (a + b)) :=
  OpVal.of_runs (by simp) (by simp) fun a w hh => by simp [execOp, hh.lk hx, hh.lk hy, eqGuard, binOp, Op.intArith, i64_in h1 h2]
theorem OpVal.incr {t' : TypeId} {a : Nat} (hx : lk l x = some (.int .i64 (a : Int))) (h2 : a < 9223372036854775807) :
    OpVal c ⟨dst, .binOp .add t x (.const (.int .i64 1)) t', ty, pos, af, gd⟩ l Ms μ (.int .i64 ((a + 1 : Nat) : Int)) :=
  (OpVal.add hx rfl (by omega) (by omega)).cast (by simp)
theorem OpVal.sub {t' : TypeId} {a b : Int} (hx : lk l x = some (.int .i64 a)) (hy : lk l y = some (.int .i64 b)) (h1 : -9223372036854775808 ≤ a - b) (h2 : a - b ≤ 9223372036854775807) :
    OpVal c ⟨dst, .binOp .sub t x y t', ty, pos, af, gd⟩ l Ms μ (.int .i64 (a - b)) :=
  OpVal.of_runs (by simp) (by simp) fun a w hh => by simp [execOp, hh.lk hx, hh.lk hy, eqGuard, binOp, Op.intArith, i64_in h1 h2]
theorem OpVal.mul {t' : TypeId} {a b : Int} (hx : lk l x = some (.int .i64 a)) (hy : lk l y = some (.int .i64 b)) (h1 : -9223372036854775808 ≤ a * b) (h2 : a * b ≤ 9223372036854775807) :
    OpVal c ⟨dst, .binOp .mul t x y t', ty, pos, af, gd⟩ l Ms μ (.int .i64 (a * b)) :=
  OpVal.of_runs (by simp) (by simp) fun a w hh => by simp [execOp, hh.lk hx, hh.lk hy, eqGuard, binOp, Op.intArith, i64_in h1 h2]

/-! ### Lengths, addresses, loads -/
theorem OpVal.len {e : TypeId} [hu : TU P t (.slice e)] {m : Mem} {k : Nat} {v : Value} {N : Nat} {f : Nat → Nat → Value} (hx : lk l x = some v) (h : IsArr m k v N f) :
    OpVal c ⟨dst, .call ⟨.builtin .len, #[x], #[t]⟩, ty, pos, af, gd⟩ l Ms μ (.int .i64 (N : Int)) := by
  obtain ⟨a, cap, rfl, _⟩ := h
  exact OpVal.of_runs (by simp) (by simp) fun a w hh => by
    simp [execOp, resolve, invoke, builtin, Builtin.len_, hh.lk hx, run_underlying hu.u, goInt]
theorem OpVal.lenNil {e : TypeId} [hu : TU P t (.slice e)] {a : Option Addr} {N cap : Nat} (hx : lk l x = some (.slice a N cap)) :
    OpVal c ⟨dst, .call ⟨.builtin .len, #[x], #[t]⟩, ty, pos, af, gd⟩ l Ms μ (.int .i64 (N : Int)) :=
  OpVal.of_runs (by simp) (by simp) fun a w hh => by
    simp [execOp, resolve, invoke, builtin, Builtin.len_, hh.lk hx, run_underlying hu.u, goInt]

theorem addr_add (a : Addr) (h : a.spot = none) (j : Nat) : a.add j = ⟨a.block, a.off + j, none⟩ := by
  unfold Addr.add
  split
  · rename_i e; subst e; cases a; simp at h; simp [h]
  · cases a; simp

theorem OpVal.indexAddr {e : TypeId} {k bytes : Nat} {z : Value} [hu : TU P t (.slice e)] [hi : TI P e k bytes z] {m : Mem} {v : Value} {N : Nat} {f : Nat → Nat → Value} {i : Int}
    (hx : lk l x = some v) (hy : lk l y = some (.int .i64 i)) (h : IsArr m k v N f) (h0 : 0 ≤ i) (hlt : i < N) :
    OpVal c ⟨dst, .indexAddr t x y, ty, pos, af, gd⟩ l Ms μ (EP v k i.toNat 0) := by
  obtain ⟨a, cap, rfl, _, _, _, h4⟩ := h
  obtain ⟨b, off, rfl, _⟩ := h4 (by omega)
  exact OpVal.of_runs (by simp) (by simp) fun a w hh => by
    simp [execOp, Instr.indexAt, hh.lk hx, hh.lk hy, asIntOf, run_underlying hu.u, h0, hlt, hi.sizeOf, addr_add, EP]
theorem OpVal.indexAddrN {e : TypeId} {k bytes : Nat} {z : Value} [hu : TU P t (.slice e)] [hi : TI P e k bytes z] {m : Mem} {v : Value} {N : Nat} {f : Nat → Nat → Value} {i : Nat}
    (hx : lk l x = some v) (hy : lk l y = some (.int .i64 (i : Int))) (h : IsArr m k v N f) (hlt : i < N) :
    OpVal c ⟨dst, .indexAddr t x y, ty, pos, af, gd⟩ l Ms μ (EP v k i 0) :=
  (OpVal.indexAddr hx hy h (by omega) (by omega)).cast (by simp)

/-- A field that has a cell. -/
class TF (P : Program) (t : TypeId) (j : Nat) (off : outParam Nat) : Prop where
  f : ∃ fs fd i, P.underlying t = some (.struct fs) ∧ fs[j]? = some fd ∧ P.info? fd.type = some i ∧ i.size ≠ 0 ∧ fd.offset = off
theorem OpVal.fieldAddrE {j off' : Nat} [hf : TF P t j off'] {v : Value} {k i off : Nat} (hx : lk l x = some (EP v k i off)) (hv : EP v k i off ≠ undef) :
    OpVal c ⟨dst, .fieldAddr t x j, ty, pos, af, gd⟩ l Ms μ (EP v k i (off + off')) := by
  obtain ⟨fs, fd, inf, h1, h2, h3, h4, rfl⟩ := hf.f
  have hv' : ∃ a p q, v = .slice (some a) p q := by
    unfold EP at hv; split at hv
    · exact ⟨_, _, _, rfl⟩
    · exact absurd rfl hv
  obtain ⟨a, p, q, rfl⟩ := hv'
  exact OpVal.of_runs (by simp) (by simp) fun a w hh => by
    simp [execOp, Instr.fieldAt, hh.lk hx, EP, Instr.sureAddr, run_underlying h1, h2, fieldPlace, sizeOf, typeInfo, h3, h4, addr_add, Nat.add_assoc]
theorem EP_ne {m : Mem} {k : Nat} {v : Value} {N : Nat} {f : Nat → Nat → Value} (h : IsArr m k v N f) {i : Nat} (hlt : i < N) (k' off : Nat) : EP v k' i off ≠ undef := by
  obtain ⟨a, cap, rfl, _, _, _, h4⟩ := h
  obtain ⟨b, o, rfl, _⟩ := h4 (by omega)
  simp [EP, undef]
theorem OpVal.fieldAddrN {j off' : Nat} [hf : TF P t j off'] {m : Mem} {v : Value} {k i off N : Nat} {f : Nat → Nat → Value} (hx : lk l x = some (EP v k i off)) (h : IsArr m k v N f) (hlt : i < N) :
    OpVal c ⟨dst, .fieldAddr t x j, ty, pos, af, gd⟩ l Ms μ (EP v k i (off + off')) := OpVal.fieldAddrE hx (EP_ne h hlt k off)

theorem OpVal.loadE [hu : TL P t false] {m : Mem} {k : Nat} {v : Value} {N : Nat} {f : Nat → Nat → Value} {i off : Nat} (hx : lk l x = some (EP v k i off)) (h : IsArr m k v N f) (hm : m ∈ Ms) (hlt : i < N) (ho : off < k) :
    OpVal c ⟨dst, .load t x, ty, pos, af, gd⟩ l Ms μ (f i off) := by
  obtain ⟨a, cap, rfl, _, _, _, h4⟩ := h
  obtain ⟨b, o, rfl, hc⟩ := h4 (by omega)
  exact OpVal.of_runs (by simp) (by simp) fun a w hh => by
    have hcell := cellM_sub (hh.mem.sub m hm) (hc i off hlt ho)
    simp [execOp, Instr.loadAt, loadVar, hh.lk hx, EP, Instr.sureAddr, hu.l, hcell]
/-- A whole element. -/
theorem OpVal.loadEA [hu : TL P t true] {bytes : Nat} {z : Value} {k : Nat} [hi : TI P t k bytes z] {m : Mem} {v : Value} {N : Nat} {f : Nat → Nat → Value} {i : Nat} (hx : lk l x = some (EP v k i 0)) (h : IsArr m k v N f) (hm : m ∈ Ms) (hlt : i < N) :
    OpVal c ⟨dst, .load t x, ty, pos, af, gd⟩ l Ms μ (.agg ((List.range k).map (f i)).toArray) := by
  obtain ⟨a, cap, rfl, _, _, _, h4⟩ := h
  obtain ⟨b, o, rfl, hc⟩ := h4 (by omega)
  exact OpVal.of_runs (by simp) (by simp) fun a w hh => by
    have hl := run_loadCells (P := P) w ⟨b, o + i * k, none⟩ k (f i) (fun j hj => by
      rw [addr_add _ rfl]
      exact cellM_sub (hh.mem.sub m hm) (hc i j hlt hj))
    simp only [execOp, Instr.loadAt, loadVar, hh.lk hx, EP, Instr.sureAddr, Sem.run_bind, Sem.run_pure, Result.andThen_ok, hu.l, hi.sizeOf, if_true, Nat.add_zero, hl]

/-! ### Boxes -/
theorem Holds.blk {a : Act} {w : World} (hh : Holds c l Ms μ a w) {b : Nat} {cs : Array Value} {T : TypeId} (hb : Res.blk b cs T ∈ μ) : w.heap[b]? = some (.cells cs T (0, 0)) := hh.mem.res _ hb
theorem OpVal.loadB [hu : TL P t false] {b off : Nat} {cs : Array Value} {T : TypeId} {v : Value} (hx : lk l x = some (.pointer (some ⟨b, off, none⟩))) (hb : Res.blk b cs T ∈ μ) (hv : cs[off]? = some v) :
    OpVal c ⟨dst, .load t x, ty, pos, af, gd⟩ l Ms μ v :=
  OpVal.of_runs (by simp) (by simp) fun a w hh => by
    have hcell : w.cell? ⟨b, off, none⟩ = some v := by simp [World.cell?, hh.blk hb, hv]
    simp [execOp, Instr.loadAt, loadVar, hh.lk hx, Instr.sureAddr, hu.l, hcell]
theorem OpVal.loadBA [hu : TL P t true] {bytes : Nat} {z : Value} {k : Nat} [hi : TI P t k bytes z] {b off : Nat} {cs : Array Value} {T : TypeId} {vs : List Value} (hx : lk l x = some (.pointer (some ⟨b, off, none⟩))) (hb : Res.blk b cs T ∈ μ)
    (hv : (cs.toList.drop off).take k = vs) (hk : vs.length = k) :
    OpVal c ⟨dst, .load t x, ty, pos, af, gd⟩ l Ms μ (.agg vs.toArray) :=
  OpVal.of_runs (by simp) (by simp) fun a w hh => by
    subst hk
    have hl := run_loadCells_list (P := P) w ⟨b, off, none⟩ vs (fun j u hu => by
      rw [addr_add _ rfl]
      have : cs[off + j]? = some u := by
        rw [← hv, List.getElem?_take] at hu
        split at hu
        · simpa using hu
        · cases hu
      simp [World.cell?, hh.blk hb, this])
    simp only [execOp, Instr.loadAt, loadVar, hh.lk hx, Instr.sureAddr, Sem.run_bind, Sem.run_pure, Result.andThen_ok, hu.l, hi.sizeOf, if_true, hl]
/-- A whole box. -/
theorem OpVal.loadBW [hu : TL P t true] {bytes : Nat} {z : Value} {k : Nat} [hi : TI P t k bytes z] {b : Nat} {cs : Array Value} {T : TypeId} (hx : lk l x = some (.pointer (some ⟨b, 0, none⟩))) (hb : Res.blk b cs T ∈ μ) (hk : cs.size = k) :
    OpVal c ⟨dst, .load t x, ty, pos, af, gd⟩ l Ms μ (.agg cs) :=
  (OpVal.loadBA hx hb (vs := cs.toList) (by subst hk; rw [List.drop_zero]; exact List.take_of_length_le (by simp)) (by simpa using hk)).cast (by simp)
theorem OpVal.fieldAddrB {j off' : Nat} [hf : TF P t j off'] {b off : Nat} (hx : lk l x = some (.pointer (some ⟨b, off, none⟩))) :
    OpVal c ⟨dst, .fieldAddr t x j, ty, pos, af, gd⟩ l Ms μ (.pointer (some ⟨b, off + off', none⟩)) := by
  obtain ⟨fs, fd, inf, h1, h2, h3, h4, rfl⟩ := hf.f
  exact OpVal.of_runs (by simp) (by simp) fun a w hh => by
    simp [execOp, Instr.fieldAt, hh.lk hx, Instr.sureAddr, run_underlying h1, h2, fieldPlace, sizeOf, typeInfo, h3, h4, addr_add]
/-- A place of an array in a box. -/
theorem OpVal.indexAddrB {e : TypeId} {L bytes : Nat} {z : Value} [hu : TU P t (.array L e)] [hi : TI P e 1 bytes z] {b off : Nat} {i : Nat}
    (hx : lk l x = some (.pointer (some ⟨b, off, none⟩))) (hy : lk l y = some (.int .i64 (i : Int))) (hlt : i < L) :
    OpVal c ⟨dst, .indexAddr t x y, ty, pos, af, gd⟩ l Ms μ (.pointer (some ⟨b, off + i, none⟩)) :=
  OpVal.of_runs (by simp) (by simp) fun a w hh => by
    simp [execOp, Instr.indexAt, hh.lk hx, hh.lk hy, asIntOf, Instr.sureAddr, run_underlying hu.u, hlt, hi.sizeOf, addr_add]
end

open Go Go.RowKit

/-- One resource in the place of another one. -/
inductive Repl (r r' : Res) : List Res → List Res → Prop
  | head (μ : List Res) : Repl r r' (r :: μ) (r' :: μ)
  | tail (x : Res) {μ μ' : List Res} : Repl r r' μ μ' → Repl r r' (x :: μ) (x :: μ')
/-- One resource taken out. -/
inductive Pick (r : Res) : List Res → List Res → Prop
  | head (μ : List Res) : Pick r (r :: μ) μ
  | tail (x : Res) {μ μ' : List Res} : Pick r μ μ' → Pick r (x :: μ) (x :: μ')
theorem Repl.mem {r r' : Res} {μ μ' : List Res} (h : Repl r r' μ μ') : r ∈ μ := by
  induction h with
  | head μ => exact .head _
  | tail x _ ih => exact .tail _ ih
theorem Repl.of {r r' : Res} {μ μ' : List Res} (h : Repl r r' μ μ') : ∀ s ∈ μ', s = r' ∨ s ∈ μ := by
  induction h with
  | head μ => intro s hs; rcases List.mem_cons.1 hs with rfl | hs; exact .inl rfl; exact .inr (.tail _ hs)
  | tail x _ ih =>
    intro s hs
    rcases List.mem_cons.1 hs with rfl | hs
    · exact .inr (.head _)
    · exact (ih s hs).imp id (.tail _)
theorem Pick.mem {r : Res} {μ μ' : List Res} (h : Pick r μ μ') : r ∈ μ := by
  induction h with
  | head μ => exact .head _
  | tail x _ ih => exact .tail _ ih
theorem Pick.sublist {r : Res} {μ μ' : List Res} (h : Pick r μ μ') : List.Sublist μ' μ := by
  induction h with
  | head μ => exact .cons _ (.refl _)
  | tail x _ ih => exact ih.cons_cons _
theorem Pick.of {r : Res} {μ μ' : List Res} (h : Pick r μ μ') : ∀ s ∈ μ, s = r ∨ s ∈ μ' := by
  induction h with
  | head μ => exact fun s hs => List.mem_cons.1 hs
  | tail x _ ih =>
    intro s hs
    rcases List.mem_cons.1 hs with rfl | hs
    · exact .inr (.head _)
    · exact (ih s hs).imp id (.tail _)
theorem Pick.feet {r : Res} {μ μ' : List Res} (h : Pick r μ μ') {b : Nat} (hb : r.foot = some b) (hn : (feet μ).Nodup) : b ∉ Eng.feet μ' := by
  induction h with
  | head μ =>
    simp only [Eng.feet, List.filterMap_cons, hb] at hn
    exact (List.nodup_cons.1 hn).1
  | tail x h ih =>
    intro hm
    cases hx : x.foot with
    | none =>
      simp only [Eng.feet, List.filterMap_cons, hx] at hn hm
      exact ih hn hm
    | some b' =>
      simp only [Eng.feet, List.filterMap_cons, hx] at hn hm
      obtain ⟨h1, h2⟩ := List.nodup_cons.1 hn
      rcases List.mem_cons.1 hm with rfl | hm
      · exact h1 (List.mem_filterMap.2 ⟨r, h.mem, hb⟩)
      · exact ih h2 hm
theorem feet_repl {r r' : Res} {μ μ' : List Res} (h : Repl r r' μ μ') (hf : r'.foot = r.foot) : feet μ' = feet μ := by
  induction h with
  | head μ => simp [feet, List.filterMap_cons, hf]
  | tail x _ ih => simp only [feet, List.filterMap_cons] at ih ⊢; cases x.foot <;> simp [ih]
theorem Repl.marks {r r' : Res} {μ μ' : List Res} (h : Repl r r' μ μ') (h1 : markOf r = none) (h2 : markOf r' = none) : marksOf μ' = marksOf μ := by
  induction h with
  | head μ => simp [marksOf, h1, h2]
  | tail x _ ih => simp only [marksOf, List.filterMap_cons] at ih ⊢; cases markOf x <;> simp [ih]
theorem Pick.marks {r : Res} {μ μ' : List Res} (h : Pick r μ μ') (h1 : markOf r = none) : marksOf μ' = marksOf μ := by
  induction h with
  | head μ => simp [marksOf, h1]
  | tail x _ ih => simp only [marksOf, List.filterMap_cons] at ih ⊢; cases markOf x <;> simp [ih]
theorem Repl.pick {r r' : Res} {μ μ' : List Res} (h : Repl r r' μ μ') : ∃ μ0, Pick r μ μ0 ∧ Pick r' μ' μ0 := by
  induction h with
  | head μ => exact ⟨μ, .head _, .head _⟩
  | tail x _ ih => obtain ⟨μ0, h1, h2⟩ := ih; exact ⟨x :: μ0, .tail _ h1, .tail _ h2⟩
theorem Repl.nodup {r r' : Res} {μ μ' : List Res} (h : Repl r r' μ μ') (hn : (feet μ).Nodup) (hf : ∀ b, r'.foot = some b → b ∉ feet μ ∨ r.foot = some b) : (feet μ').Nodup := by
  induction h with
  | head μ =>
    have hn' : (feet μ).Nodup := (feet_sublist (.cons r (.refl μ))).nodup hn
    cases hb : r'.foot with
    | none => simpa [feet, List.filterMap_cons, hb] using hn'
    | some b =>
      simp only [feet, List.filterMap_cons, hb]
      refine List.nodup_cons.2 ⟨fun hm => ?_, hn'⟩
      rcases hf b hb with h | h
      · exact h ((feet_sublist (.cons r (.refl μ))).mem hm)
      · simp only [feet, List.filterMap_cons, h] at hn
        exact (List.nodup_cons.1 hn).1 hm
  | tail x h ih =>
    rename_i ν ν'
    have hn' : (feet ν).Nodup := (feet_sublist (.cons x (.refl ν))).nodup hn
    have := ih hn' (fun b hb => (hf b hb).imp (fun hne hm => hne ((feet_sublist (.cons x (.refl ν))).mem hm)) id)
    cases hx : x.foot with
    | none => simpa [feet, List.filterMap_cons, hx] using this
    | some bx =>
      simp only [feet, List.filterMap_cons, hx]
      refine List.nodup_cons.2 ⟨fun hm => ?_, this⟩
      simp only [feet, List.filterMap_cons, hx] at hn
      have h1 := (List.nodup_cons.1 hn).1
      obtain ⟨s, hs, hsb⟩ := List.mem_filterMap.1 hm
      rcases h.of s hs with rfl | hs'
      · rcases hf bx hsb with h2 | h2
        · exact h2 (by simp [feet, hx])
        · exact h1 (List.mem_filterMap.2 ⟨r, h.mem, h2⟩)
      · exact h1 (List.mem_filterMap.2 ⟨s, hs', hsb⟩)

section
variable {P : Program} {n : Nat} {c : Cx P n} {K : Post} {l : List (Nat × Value)} {Ms : List Mem} {μ : List Res}
variable {dst : Option Tmp} {x y : Operand} {t ty : TypeId} {pos : String} {af : Array Edge} {gd : Option (Nat × Bool)} {ops : Array Oper} {rest : List Oper}

/-- A new block of one's own. -/
theorem MemOk.new {w : World} (h : MemOk c Ms μ w) (cs : Array Value) (T : TypeId) : MemOk c Ms (.blk w.heap.size cs T :: μ) (w.alloc (.cells cs T)) := by
  have h' := h.ext (Ext.alloc w (.cells cs T))
  have hlt : ∀ b ∈ feet μ, b < w.heap.size := fun b hb => by
    obtain ⟨r, hr, hf⟩ := List.mem_filterMap.1 hb
    exact Res.foot_lt (h.res r hr) hf
  refine ⟨h'.sub, h'.fresh, h'.kept, ?_, ?_, ?_⟩
  · intro r hr
    rcases List.mem_cons.1 hr with rfl | hr
    · exact heap_alloc_new w _
    · exact h'.res r hr
  · simp only [feet, List.filterMap_cons, Res.foot]
    exact List.nodup_cons.2 ⟨fun hm => absurd (hlt _ hm) (Nat.lt_irrefl _), h.nodup⟩
  · intro b hb
    simp only [feet, List.filterMap_cons, Res.foot] at hb
    rcases List.mem_cons.1 hb with rfl | hb
    · refine ⟨.inr h.kept.size, fun m hm => ?_⟩
      cases hx : m w.heap.size with
      | none => rfl
      | some o => exact absurd ((h.sub m hm).lt (by rw [hx]; simp)) (Nat.lt_irrefl _)
    · exact h'.own b hb
/-- A resource that has turned. -/
theorem MemOk.turn {r r' : Res} {μ' : List Res} {w w' : World} (h : MemOk c Ms μ w) (hr : Repl r r' μ μ') (hok : r'.ok w')
    (hk : Kp (fun b => r.foot = some b) w w') (hf : ∀ b, r'.foot = some b → r.foot = some b ∨ w.heap.size ≤ b) : MemOk c Ms μ' w' := by
  have hlt : ∀ b ∈ feet μ, b < w.heap.size := fun b hb => by
    obtain ⟨s, hs, hsb⟩ := List.mem_filterMap.1 hb
    exact Res.foot_lt (h.res s hs) hsb
  have hmine : ∀ b, r.foot = some b → b ∈ feet μ := fun b hb => List.mem_filterMap.2 ⟨r, hr.mem, hb⟩
  obtain ⟨μ0, hp, hp'⟩ := hr.pick
  have hmem : ∀ s ∈ μ', s = r' ∨ s ∈ μ0 := hp'.of
  refine ⟨fun m hm b o hb => ?_, h.fresh, ⟨hk.os.trans h.kept.os, hk.tape.trans h.kept.tape, hk.output.trans h.kept.output, Nat.le_trans h.kept.size hk.size, fun b hb hF => ?_⟩, fun s hs => ?_, ?_, fun b hb => ?_⟩
  · rw [hk.block b ((h.sub m hm).lt (by rw [hb]; simp)) (fun hfb => ?_)]
    · exact h.sub m hm b o hb
    · have := (h.own b (hmine b hfb)).2 m hm
      rw [this] at hb; cases hb
  · refine (hk.block b (Nat.lt_of_lt_of_le hb h.kept.size) (fun hfb => ?_)).trans (h.kept.block b hb hF)
    rcases (h.own b (hmine b hfb)).1 with h1 | h1
    · exact hF h1
    · omega
  · rcases hmem s hs with rfl | hs
    · exact hok
    · have hsμ := hp.sublist.mem hs
      refine Res.ok_of_same (h.res s hsμ) fun b hb => hk.block b (Res.foot_lt (h.res s hsμ) hb) fun hfb => ?_
      exact hp.feet hfb h.nodup (List.mem_filterMap.2 ⟨s, hs, hb⟩)
  · exact hr.nodup h.nodup fun b hb => by
      rcases hf b hb with h1 | h1
      · exact .inr h1
      · exact .inl fun hm => absurd (hlt b hm) (by omega)
  · obtain ⟨s, hs, hsb⟩ := List.mem_filterMap.1 hb
    rcases hmem s hs with rfl | hs
    · rcases hf b hsb with h1 | h1
      · exact h.own b (hmine b h1)
      · refine ⟨.inr (Nat.le_trans h.kept.size h1), fun m hm => ?_⟩
        cases hx : m b with
        | none => rfl
        | some o => exact absurd ((h.sub m hm).lt (by rw [hx]; simp)) (by omega)
    · exact h.own b (List.mem_filterMap.2 ⟨s, hp.sublist.mem hs, hsb⟩)

/-- Out of a resource a persistent memory. -/
theorem MemOk.freeze {r : Res} {μ' : List Res} {w : World} (h : MemOk c Ms μ w) (hp : Pick r μ μ') (hF : ∀ b, c.F b → b ∈ feet μ') :
    MemOk c ((fun b => if r.foot = some b then w.heap[b]? else none) :: Ms) μ' w := by
  refine ⟨fun m hm => ?_, fun m hm => ?_, h.kept, fun s hs => h.res s (hp.sublist.mem hs), (feet_sublist hp.sublist).nodup h.nodup, fun b hb => ⟨(h.own b ((feet_sublist hp.sublist).mem hb)).1, fun m hm => ?_⟩⟩
  · rcases List.mem_cons.1 hm with rfl | hm
    · intro b o hb
      dsimp only at hb
      split at hb
      · exact hb
      · cases hb
    · exact h.sub m hm
  · rcases List.mem_cons.1 hm with rfl | hm
    · intro b hb
      dsimp only at hb
      split at hb
      · rename_i hf
        rcases (h.own b (List.mem_filterMap.2 ⟨r, hp.mem, hf⟩)).1 with h1 | h1
        · exact absurd (hF b h1) (hp.feet hf h.nodup)
        · exact .inr h1
      · exact absurd rfl hb
    · exact h.fresh m hm
  · rcases List.mem_cons.1 hm with rfl | hm
    · dsimp only
      rw [if_neg]
      intro hf
      exact hp.feet hf h.nodup hb
    · exact (h.own b ((feet_sublist hp.sublist).mem hb)).2 m hm

/-! ### Freezing a row -/
theorem W.freezeRow {code : Code} {T : TypeId} {k : Nat} {v : Value} {N : Nat} {xs : List Value} {μ' : List Res} (hp : Pick (.row T k v N xs) μ μ') (hF : ∀ b, c.F b → b ∈ feet μ') (h1 : ∀ u ∈ xs, u.oneCell' = true)
    (h : ∀ mr, IsArr mr k v N (fun i j => xs.getD (i * k + j) undef) → W c code K l (mr :: Ms) μ') : W c code K l Ms μ := fun a w hh => by
  have hok : w.ownsRow 0 T k v N xs := hh.mem.res _ hp.mem
  refine h _ ?_ a w ⟨hh.size, by rw [hp.marks rfl]; exact hh.defers, hh.slots, hh.mem.freeze hp hF⟩
  obtain ⟨hlen, hv⟩ := hok
  have hin : ∀ i j, i < N → j < k → i * k + j < xs.length := fun i j hi hj => by
    rw [hlen]
    calc i * k + j < i * k + k := by omega
      _ = (i + 1) * k := by rw [Nat.add_mul, Nat.one_mul]
      _ ≤ N * k := Nat.mul_le_mul_right _ hi
  have hone : ∀ i j, i < N → j < k → (xs.getD (i * k + j) undef).oneCell' = true := fun i j hi hj => by
    have := hin i j hi hj
    rw [List.getD_eq_getElem?_getD, List.getElem?_eq_getElem this]
    exact h1 _ (List.getElem_mem _)
  rcases hv with ⟨rfl, rfl⟩ | ⟨g, cap, cur, rfl, _, hg, hn, hm, hs, ht⟩
  · exact ⟨none, 0, rfl, Nat.le_refl _, Nat.zero_le _, hone, fun h => absurd h (Nat.lt_irrefl _)⟩
  · refine ⟨some ⟨g, 0, none⟩, cap, rfl, hn, hm, hone, fun _ => ⟨g, 0, rfl, fun i j hi hj => ?_⟩⟩
    have hlt := hin i j hi hj
    have hx : xs[i * k + j]? = cur[i * k + j]? := by
      rw [← ht, List.getElem?_take, if_pos (by rw [← hlen]; exact hlt)]
      simp
    simp only [cellM, Res.foot, Value.ownBlock, if_true, hg, Nat.zero_add, List.getD_eq_getElem?_getD]
    rw [← hx, List.getElem?_eq_getElem hlt]
    rfl

/-! ### A new variable -/
theorem WL.box {v : Value} {d : Nat} (hx : lk l x = some v) (hw : want ops l ⟨dst, .box t x, ty, pos, af, gd⟩ = some true) (hd : dst = some d) (hn : Nat.blt d n = true)
    (h : ∀ b, WL c ops rest K ((d, .pointer (some ⟨b, 0, none⟩)) :: l) Ms (.blk b v.cells t :: μ)) : WL c ops (⟨dst, .box t x, ty, pos, af, gd⟩ :: rest) K l Ms μ :=
  WL.step hw fun a w hh => by
    refine ⟨fun _ _ => trivial, ?_⟩
    rw [Oper.semAt_eq _ _ _ (by simp)]
    have hr : (execOp a.eval ⟨dst, .box t x, ty, pos, af, gd⟩).run P w = .ok (.value (.pointer (some ⟨w.heap.size, 0, none⟩))) (w.alloc (.cells v.cells t)) := by
      simp [execOp, Instr.box, newVar, newRow, newObj, hh.lk hx, Sem.run]
    rw [hr]
    subst hd
    exact h w.heap.size _ _ ((Holds.mk hh.size (by exact hh.defers) hh.slots (hh.mem.new v.cells t)).put (Nat.lt_of_blt hn) _)
theorem WL.alloc {size bytes : Nat} {z : Value} [hi : TI P t size bytes z] {d : Nat} (hw : want ops l ⟨dst, .alloc t, ty, pos, af, gd⟩ = some true) (hd : dst = some d) (hn : Nat.blt d n = true)
    (h : ∀ b, WL c ops rest K ((d, .pointer (some ⟨b, 0, none⟩)) :: l) Ms (.blk b z.cells t :: μ)) : WL c ops (⟨dst, .alloc t, ty, pos, af, gd⟩ :: rest) K l Ms μ :=
  WL.step hw fun a w hh => by
    refine ⟨fun _ _ => trivial, ?_⟩
    rw [Oper.semAt_eq _ _ _ (by simp)]
    have hr : (execOp a.eval ⟨dst, .alloc t, ty, pos, af, gd⟩).run P w = .ok (.value (.pointer (some ⟨w.heap.size, 0, none⟩))) (w.alloc (.cells z.cells t)) := by
      simp [execOp, Instr.alloc, newVar, newRow, newObj, hi.zero, Sem.run]
    rw [hr]
    subst hd
    exact h w.heap.size _ _ ((Holds.mk hh.size (by exact hh.defers) hh.slots (hh.mem.new z.cells t)).put (Nat.lt_of_blt hn) _)

/-! ### A store into a variable -/
theorem WL.store {size bytes : Nat} {z : Value} [hi : TI P t size bytes z] {b off : Nat} {cs : Array Value} {T : TypeId} {v : Value} {μ' : List Res} (cs' : List Value) (hx : lk l x = some (.pointer (some ⟨b, off, none⟩))) (hr : Repl (.blk b cs T) (.blk b cs'.toArray T) μ μ') (hy : lk l y = some v)
    (hw : want ops l ⟨none, .store t x y, ty, pos, af, gd⟩ = some true) (hs : v.cells.size = size) (hfit : off + size ≤ cs.size) (h1 : ∀ u ∈ v.cells.toList, u.oneCell' = true)
    (he : cs.toList.take off ++ (v.cells.toList ++ cs.toList.drop (off + size)) = cs')
    (h : WL c ops rest K l Ms μ') : WL c ops (⟨none, .store t x y, ty, pos, af, gd⟩ :: rest) K l Ms μ :=
  WL.step hw fun a w hh => by
    subst he
    refine ⟨fun _ _ => trivial, ?_⟩
    rw [Oper.semAt_eq _ _ _ (by simp)]
    have hg : w.heap[b]? = some (.cells cs T (0, 0)) := hh.mem.res _ hr.mem
    have hlen : v.cells.toList.length = size := by simpa using hs
    have hst := run_storeCells_at P b off T v.cells.toList 0 cs w hg (by rw [hlen]; omega) h1
    simp only [Nat.add_zero, hlen, List.append_assoc] at hst
    have hr' : (execOp a.eval ⟨none, .store t x y, ty, pos, af, gd⟩).run P w = .ok .skip (w.setRow b (cs.toList.take off ++ (v.cells.toList ++ cs.toList.drop (off + size))).toArray) := by
      simp only [execOp, Instr.storeAt, storeVar, hh.lk hx, hh.lk hy, Instr.sureAddr, Sem.run_bind, Sem.run_pure, Result.andThen_ok, hi.sizeOf, hs, ne_eq, not_true, if_false, hst]
    rw [hr']
    exact h _ _ (Holds.mk hh.size (by rw [hr.marks rfl rfl]; exact hh.defers) hh.slots (hh.mem.turn hr (setRow_heap w b cs _ T _ hg)
      ⟨rfl, rfl, rfl, by simp, fun b' _ hb' => setRow_other w b b' _ (fun e => hb' (by rw [e]; rfl))⟩ (fun b' hb' => .inl hb')))
/-- A cell that is the first of its block, a scalar: the common case. -/
theorem storeOne {v : Value} (h : v.oneCell' = true) : v.cells = #[v] := by cases v <;> first | rfl | cases h
end

open Go Go.RowKit

/-- A slice of n elements of k cells whose cells are a list. -/
def IsCells (m : Mem) (k : Nat) (v : Value) (n : Nat) (xs : List Value) : Prop :=
  xs.length = n * k ∧ IsArr m k v n (fun i j => xs.getD (i * k + j) undef)
theorem IsCells.le {m m' : Mem} {k : Nat} {v : Value} {n : Nat} {xs : List Value} (h : IsCells m k v n xs) (hm : MLe m m') : IsCells m' k v n xs := ⟨h.1, h.2.le hm⟩
theorem IsArr.form {m : Mem} {k : Nat} {v : Value} {n : Nat} {f : Nat → Nat → Value} (h : IsArr m k v n f) : ∃ a cap, v = .slice a n cap := by
  obtain ⟨a, cap, hv, _⟩ := h; exact ⟨a, cap, hv⟩

/-- The places and sizes of a struct's fields. -/
class TB (P : Program) (t : TypeId) (pl : outParam (Array (Nat × Nat))) : Prop where
  b : ∃ fs, P.underlying t = some (.struct fs) ∧ ∀ w, (fs.mapM fun (f : Field) => do pure (f.offset, ← sizeOf f.type) : Sem (Array (Nat × Nat))).run P w = .ok pl w
/-- A function that can be called. -/
class TC (P : Program) (f : FuncId) : Prop where
  c : ∀ args w, (callFunc f args).run P w = .ok (.enter f args) w

/-! ### Contracts -/
/-- Of a call, whatever the world, the persistent memory being h: it returns a value of which R holds, in a memory that is h's or new; whatever was there is kept. -/
def FnR (P : Program) (f : FuncId) (args : Array Value) (h : Mem) (R : Mem → Value → Prop) : Prop :=
  ∀ w, Sub h w → Calls P f args w fun e w' => ∃ v mr, e = .returned v ∧ R mr v ∧ Ext w w' ∧ Sub mr w' ∧ ∀ b, mr b ≠ none → h b ≠ none ∨ w.heap.size ≤ b
/-- It returns just this value. -/
def FnV (P : Program) (f : FuncId) (args : Array Value) (h : Mem) (v : Value) : Prop :=
  ∀ w, Sub h w → Calls P f args w fun e w' => e = .returned v ∧ Ext w w'
theorem FnR.val {P : Program} {f : FuncId} {args : Array Value} {h : Mem} {v : Value} (H : FnR P f args h fun _ r => r = v) : FnV P f args h v := fun w hw =>
  (H w hw).mono fun _ _ ⟨v', mr, he, hv, hx, _⟩ => ⟨by rw [he, hv], hx⟩
theorem FnR.mono {P : Program} {f : FuncId} {args : Array Value} {h : Mem} {R R' : Mem → Value → Prop} (H : FnR P f args h R) (hr : ∀ mr v, R mr v → R' mr v) : FnR P f args h R' := fun w hw =>
  (H w hw).mono fun _ _ ⟨v', mr, he, hv, hx⟩ => ⟨v', mr, he, hr _ _ hv, hx⟩

section
variable {P : Program} {n : Nat} {c : Cx P n} {K : Post} {l : List (Nat × Value)} {Ms : List Mem} {μ : List Res}
variable {dst : Option Tmp} {x y : Operand} {t ty : TypeId} {pos : String} {af : Array Edge} {gd : Option (Nat × Bool)} {ops : Array Oper} {rest : List Oper}

/-! ### Structs by value -/
theorem OpVal.build {pl : Array (Nat × Nat)} {size bytes : Nat} {z : Value} [hb : TB P t pl] [hi : TI P t size bytes z] {parts : Array (Nat × Operand)} {vs : List Value} (cells : Array Value)
    (hps : lks l (parts.toList.map (·.2)) = some vs) (hf : Instr.fill (fun i => pl[i]?) z.cells ((parts.toList.map (·.1)).zip vs) = some cells) :
    OpVal c ⟨dst, .build t parts, ty, pos, af, gd⟩ l Ms μ (.agg cells) := by
  obtain ⟨fs, h1, h2⟩ := hb.b
  refine OpVal.of_runs (by simp) (by simp) fun a w hh => ?_
  have e : (parts.map fun (p : Nat × Operand) => (p.1, a.eval p.2)).toList = (parts.toList.map (·.1)).zip vs := by
    have h3 := hh.lks hps
    rw [← h3]
    simp only [Array.toList_map, List.map_map]
    generalize parts.toList = ps
    induction ps with
    | nil => rfl
    | cons p ps ih => simp [ih]
  simp only [execOp, Instr.build, Sem.run_bind, hi.zero, Result.andThen_ok, run_underlying h1, h2 w, e, hf, Sem.run_pure]
theorem OpVal.build1 {pl : Array (Nat × Nat)} {bytes : Nat} {z : Value} [TB P t pl] [TI P t 1 bytes z] {parts : Array (Nat × Operand)} {vs : List Value} {a0 : Value}
    (hps : lks l (parts.toList.map (·.2)) = some vs) (hf : Instr.fill (fun i => pl[i]?) z.cells ((parts.toList.map (·.1)).zip vs) = some #[a0]) : OpVal c ⟨dst, .build t parts, ty, pos, af, gd⟩ l Ms μ (.agg #[a0]) := OpVal.build _ hps hf
theorem OpVal.build2 {pl : Array (Nat × Nat)} {bytes : Nat} {z : Value} [TB P t pl] [TI P t 2 bytes z] {parts : Array (Nat × Operand)} {vs : List Value} {a0 a1 : Value}
    (hps : lks l (parts.toList.map (·.2)) = some vs) (hf : Instr.fill (fun i => pl[i]?) z.cells ((parts.toList.map (·.1)).zip vs) = some #[a0, a1]) : OpVal c ⟨dst, .build t parts, ty, pos, af, gd⟩ l Ms μ (.agg #[a0, a1]) := OpVal.build _ hps hf
theorem OpVal.build3 {pl : Array (Nat × Nat)} {bytes : Nat} {z : Value} [TB P t pl] [TI P t 3 bytes z] {parts : Array (Nat × Operand)} {vs : List Value} {a0 a1 a2 : Value}
    (hps : lks l (parts.toList.map (·.2)) = some vs) (hf : Instr.fill (fun i => pl[i]?) z.cells ((parts.toList.map (·.1)).zip vs) = some #[a0, a1, a2]) : OpVal c ⟨dst, .build t parts, ty, pos, af, gd⟩ l Ms μ (.agg #[a0, a1, a2]) := OpVal.build _ hps hf
theorem OpVal.field {j off : Nat} {tf : TypeId} {cs : Array Value} {v : Value} (hu : ∃ fs fd, P.underlying t = some (.struct fs) ∧ fs[j]? = some fd ∧ fd.offset = off ∧ fd.type = tf) [ht : TL P tf false]
    (hx : lk l x = some (.agg cs)) (hv : cs[off]? = some v) : OpVal c ⟨dst, .field t x j, ty, pos, af, gd⟩ l Ms μ v := by
  obtain ⟨fs, fd, h1, h2, rfl, rfl⟩ := hu
  exact OpVal.of_runs (by simp) (by simp) fun a w hh => by
    simp [execOp, Instr.field, hh.lk hx, run_underlying h1, h2, asAgg, part, ht.l, hv]

/-! ### Literals of slices -/
theorem isCells_of_row {w : World} {T : TypeId} {k : Nat} {v : Value} {N : Nat} {xs : List Value} {m : Mem} (hok : w.ownsRow 0 T k v N xs) (h1 : ∀ u ∈ xs, u.oneCell' = true) (hm : ∀ b, v.ownBlock = some b → m b = w.heap[b]?) : IsCells m k v N xs := by
  obtain ⟨hlen, hv⟩ := hok
  have hin : ∀ i j, i < N → j < k → i * k + j < xs.length := fun i j hi hj => by
    rw [hlen]
    calc i * k + j < i * k + k := by omega
      _ = (i + 1) * k := by rw [Nat.add_mul, Nat.one_mul]
      _ ≤ N * k := Nat.mul_le_mul_right _ hi
  have hone : ∀ i j, i < N → j < k → (xs.getD (i * k + j) undef).oneCell' = true := fun i j hi hj => by
    have := hin i j hi hj
    rw [List.getD_eq_getElem?_getD, List.getElem?_eq_getElem this]
    exact h1 _ (List.getElem_mem _)
  refine ⟨hlen, ?_⟩
  rcases hv with ⟨rfl, rfl⟩ | ⟨g, cap, cur, rfl, _, hg, hn, hmx, hs, ht⟩
  · exact ⟨none, 0, rfl, Nat.le_refl _, Nat.zero_le _, hone, fun h => absurd h (Nat.lt_irrefl _)⟩
  · refine ⟨some ⟨g, 0, none⟩, cap, rfl, hn, hmx, hone, fun _ => ⟨g, 0, rfl, fun i j hi hj => ?_⟩⟩
    have hlt := hin i j hi hj
    have hx : xs[i * k + j]? = cur[i * k + j]? := by
      rw [← ht, List.getElem?_take, if_pos (by rw [← hlen]; exact hlt)]
      simp
    simp only [cellM, hm g rfl, hg, Nat.zero_add, List.getD_eq_getElem?_getD]
    rw [← hx, List.getElem?_eq_getElem hlt]
    rfl

theorem zip_idx (vs : List Value) : (List.range vs.length).zip vs = (vs.zipIdx 0).map fun x => (x.2, x.1) := by
  apply List.ext_getElem?
  intro i
  by_cases h : i < vs.length
  · simp [h]
  · rw [List.getElem?_eq_none (by simp; omega), List.getElem?_eq_none (by simp; omega)]
theorem lit_len {vs xs : List Value} {N k : Nat} (hlen : vs.length = N) (hvs : ∀ v ∈ vs, v.cells.size = k) (hfx : (vs.flatMap fun v => v.cells.toList) = xs) : xs.length = N * k := by
  subst hfx hlen
  induction vs with
  | nil => simp
  | cons v vs ih => rw [List.flatMap_cons, List.length_append, ih fun u hu => hvs u (.tail _ hu), Array.length_toList, hvs v (.head _), List.length_cons, Nat.add_mul, Nat.one_mul, Nat.add_comm]
theorem run_lit {e : TypeId} {k bytes : Nat} {z : Value} [hu : TU P t (.slice e)] [hi : TI P e k bytes z] {N : Nat} {parts : Array (Nat × Operand)} {vs xs : List Value} {a : Act} {w : World} (hh : Holds c l Ms μ a w)
    (hps : lks l (parts.toList.map (·.2)) = some vs) (hN : N * k ≤ 16777216)
    (hidx : parts.toList.map (·.1) = List.range N) (hlen : vs.length = N) (hvs : ∀ v ∈ vs, v.cells.size = k) (hkp : 0 < k) (hfx : (vs.flatMap fun v => v.cells.toList) = xs) :
    (execOp a.eval ⟨dst, .buildSlice t N parts, ty, pos, af, gd⟩).run P w = .ok (.value (.slice (some ⟨w.heap.size, 0, none⟩) N N)) (w.alloc (.cells xs.toArray e)) := by
  have hf : Instr.fill (fun i => some (i * k, k)) ((Array.range (N * k)).map (z.cells[· % z.cells.size]!)) ((parts.toList.map (·.1)).zip vs) = some xs.toArray := by
    rw [hidx, ← hfx, ← hlen, zip_idx]
    exact Great.fill_whole hkp vs _ hvs (by simp)
  have e1 : (parts.map fun (p : Nat × Operand) => (p.1, a.eval p.2)).toList = (parts.toList.map (·.1)).zip vs := by
    have h3 := hh.lks hps
    rw [← h3]
    simp only [Array.toList_map, List.map_map]
    generalize parts.toList = ps
    induction ps with
    | nil => rfl
    | cons p ps ih => simp [ih]
  by_cases h0 : N * k = 0
  · rw [h0] at hf
    have hz : ((Array.range 0).map (z.cells[· % z.cells.size]!)) = ((Array.range 0).map ((#[] : Array Value)[· % (#[] : Array Value).size]!)) := by simp
    rw [hz] at hf
    simp only [execOp, Instr.buildSlice, run_underlying hu.u, Sem.run_bind, Result.andThen_ok, hi.sizeOf, e1, h0, if_neg (by omega : ¬ 0 > 2 ^ 24), if_true, Sem.run_pure, hf, newRow, newObj, Sem.run]
    rfl
  · simp only [execOp, Instr.buildSlice, run_underlying hu.u, Sem.run_bind, Result.andThen_ok, hi.sizeOf, e1, if_neg (by omega : ¬ N * k > 2 ^ 24), if_neg h0, hi.zero, Sem.run_pure, hf, newRow, newObj, Sem.run]
    rfl
theorem OpAbs.lit {e : TypeId} {k bytes : Nat} {z : Value} [hu : TU P t (.slice e)] [hi : TI P e k bytes z] {N : Nat} {parts : Array (Nat × Operand)} {vs : List Value} (xs : List Value)
    (hps : lks l (parts.toList.map (·.2)) = some vs) (hN : N * k ≤ 16777216) 
    (hidx : parts.toList.map (·.1) = List.range N) (hlen : vs.length = N) (hvs : ∀ v ∈ vs, v.cells.size = k) (hkp : 0 < k) (hfx : (vs.flatMap fun v => v.cells.toList) = xs)
    (h1 : ∀ u ∈ xs, u.oneCell' = true) :
    OpAbs c ⟨dst, .buildSlice t N parts, ty, pos, af, gd⟩ l Ms μ (fun m v => IsCells m k v N xs ∧ ∃ b, v = .slice (some ⟨b, 0, none⟩) N N) := fun a w hh => by
  have hxs := lit_len hlen hvs hfx
  refine ⟨by simp, by simp, ?_⟩
  rw [run_lit hh hps hN hidx hlen hvs hkp hfx]
  have hle : N ≤ maxLen ∨ k = 0 := by
    rcases Nat.eq_zero_or_pos k with h | h
    · exact .inr h
    · have := Nat.le_mul_of_pos_right N h
      exact .inl (by unfold maxLen; omega)
  have hrow : k ≠ 0 → (w.alloc (.cells xs.toArray e)).ownsRow 0 e k (.slice (some ⟨w.heap.size, 0, none⟩) N N) N xs := fun hk => by
    have := World.ownsRow_lit (base := 0) (e := e) (size := k) w xs.toArray N (Nat.zero_le _) (hle.resolve_right hk) (by simpa using hxs)
    simpa using this
  by_cases hk : k = 0
  · exact absurd hk (Nat.pos_iff_ne_zero.1 hkp)
  · refine ⟨Ext.alloc w _, fun b => if b = w.heap.size then some (.cells xs.toArray e) else none, fun b o hb => ?_, fun b hb => ?_, isCells_of_row (hrow hk) h1 (fun b hb => ?_), _, rfl⟩
    · have hb : (if b = w.heap.size then some (Obj.cells xs.toArray e) else none) = some o := hb
      by_cases hbe : b = w.heap.size
      · rw [if_pos hbe] at hb; cases hb; rw [hbe]; exact heap_alloc_new w _
      · rw [if_neg hbe] at hb; cases hb
    · have hb : (if b = w.heap.size then some (Obj.cells xs.toArray e) else none) ≠ none := hb
      by_cases hbe : b = w.heap.size
      · exact .inr (Nat.le_of_eq hbe.symm)
      · rw [if_neg hbe] at hb; exact absurd rfl hb
    · simp only [Value.ownBlock, Option.some.injEq] at hb
      subst hb
      exact (if_pos rfl).trans (heap_alloc_new w _).symm
/-- In a resource of one's own. -/
theorem WL.lit {e : TypeId} {k bytes : Nat} {z : Value} [hu : TU P t (.slice e)] [hi : TI P e k bytes z] {N d : Nat} {parts : Array (Nat × Operand)} {vs : List Value} (xs : List Value)
    (hps : lks l (parts.toList.map (·.2)) = some vs) (hN : N * k ≤ 16777216) 
    (hidx : parts.toList.map (·.1) = List.range N) (hlen : vs.length = N) (hvs : ∀ v ∈ vs, v.cells.size = k) (hkp : 0 < k) (hfx : (vs.flatMap fun v => v.cells.toList) = xs)
    (hw : want ops l ⟨dst, .buildSlice t N parts, ty, pos, af, gd⟩ = some true) (hd : dst = some d) (hn : Nat.blt d n = true)
    (h : ∀ b, WL c ops rest K ((d, .slice (some ⟨b, 0, none⟩) N N) :: l) Ms (.row e k (.slice (some ⟨b, 0, none⟩) N N) N xs :: μ)) : WL c ops (⟨dst, .buildSlice t N parts, ty, pos, af, gd⟩ :: rest) K l Ms μ :=
  WL.step hw fun a w hh => by
    have hxs := lit_len hlen hvs hfx
    refine ⟨fun _ _ => trivial, ?_⟩
    rw [Oper.semAt_eq _ _ _ (by simp), run_lit hh hps hN hidx hlen hvs hkp hfx]
    subst hd
    have hle : N ≤ maxLen := by
      have := Nat.le_mul_of_pos_right N hkp
      unfold maxLen; omega
    have hrow := World.ownsRow_lit (base := 0) (e := e) (size := k) w xs.toArray N (Nat.zero_le _) hle (by simpa using hxs)
    have hm := hh.mem.new xs.toArray e
    have hm' : MemOk c Ms (.row e k (.slice (some ⟨w.heap.size, 0, none⟩) N N) N xs :: μ) (w.alloc (.cells xs.toArray e)) := by
      refine ⟨hm.sub, hm.fresh, hm.kept, fun r hr => ?_, hm.nodup, hm.own⟩
      rcases List.mem_cons.1 hr with rfl | hr
      · simpa [Res.ok] using hrow
      · exact hm.res r (.tail _ hr)
    exact h w.heap.size _ _ ((Holds.mk hh.size (by exact hh.defers) hh.slots hm').put (Nat.lt_of_blt hn) _)
/-- The nil slice as a row of one's own. -/
theorem W.nilRow {code : Code} (T : TypeId) (k : Nat) (h : W c code K l Ms (.row T k (.slice none 0 0) 0 [] :: μ)) : W c code K l Ms μ := fun a w hh =>
  h a w ⟨hh.size, hh.defers, hh.slots, hh.mem.sub, hh.mem.fresh, hh.mem.kept, fun r hr => by
    rcases List.mem_cons.1 hr with rfl | hr
    · exact World.ownsRow_nil w 0 T k
    · exact hh.mem.res r hr, by simpa [feet, List.filterMap_cons, Res.foot, Value.ownBlock] using hh.mem.nodup, fun b hb => hh.mem.own b (by simpa [feet, List.filterMap_cons, Res.foot, Value.ownBlock] using hb)⟩
theorem WL.nilRow (T : TypeId) (k : Nat) (h : WL c ops rest K l Ms (.row T k (.slice none 0 0) 0 [] :: μ)) : WL c ops rest K l Ms μ := fun a w hh =>
  h a w ⟨hh.size, hh.defers, hh.slots, hh.mem.sub, hh.mem.fresh, hh.mem.kept, fun r hr => by
    rcases List.mem_cons.1 hr with rfl | hr
    · exact World.ownsRow_nil w 0 T k
    · exact hh.mem.res r hr, by simpa [feet, List.filterMap_cons, Res.foot, Value.ownBlock] using hh.mem.nodup, fun b hb => hh.mem.own b (by simpa [feet, List.filterMap_cons, Res.foot, Value.ownBlock] using hb)⟩

/-! ### Append to a row of one's own -/
theorem run_append_own' {w : World} {t ty e : TypeId} {i : TypeInfo} {z : Value} {size bytes : Nat} (ht : P.underlying t = some (.slice e)) (hi : P.info? e = some i) (hz : i.zero = some z)
    (hsize : i.size = size) (hby : i.bytes = bytes) (hzs : z.cells.size = size) (hsz : 0 < size) {v : Value} {N : Nat} {xs : List Value} (hown : w.ownsRow 0 e size v N xs)
    {a2 : Option Addr} {m cp : Nat} {news : List Value} (hl : news.length = m * size) (hnews : 0 < m → ∃ a, a2 = some a ∧ ∀ j u, news[j]? = some u → w.cell? (a.add j) = some u) (h1 : ∀ u ∈ news, u.oneCell' = true)
    (h63 : N + m ≤ maxLen) (hbytes : (N + m) * bytes ≤ 140737488355328) :
    ∃ v' w', (Builtin.append_ #[t, t] ty #[v, .slice a2 m cp]).run P w = .ok v' w' ∧ w'.ownsRow 0 e size v' (N + m) (xs ++ news) ∧ w.grownBy w' v.ownBlock ∧ (∀ b, v'.ownBlock = some b → v.ownBlock = some b ∨ w.heap.size ≤ b) := by
  cases a2 with
  | none =>
    have hm : m = 0 := Nat.eq_zero_of_not_pos fun h => by obtain ⟨a, ha, _⟩ := hnews h; cases ha
    subst hm
    have hn : news = [] := List.eq_nil_of_length_eq_zero (by simpa using hl)
    subst hn
    refine ⟨v, w, ?_, by simpa using hown, ⟨rfl, rfl, rfl, Nat.le_refl _, fun _ _ _ => rfl⟩, fun b hb => .inl hb⟩
    rcases hown.2 with ⟨rfl, rfl⟩ | ⟨g, cap, cur, rfl, _, _, hnc, _⟩
    · simp [Builtin.append_, run_underlying ht, sizeOf, typeInfo, hi, Builtin.lenOf, Builtin.firstCells]
    · simp [Builtin.append_, run_underlying ht, sizeOf, typeInfo, hi, Builtin.lenOf, Builtin.firstCells, hnc, storeCells]
  | some a =>
    have hnews' : ∀ j u, news[j]? = some u → w.cell? (a.add j) = some u := by
      rcases Nat.eq_zero_or_pos m with rfl | h
      · have hn : news = [] := List.eq_nil_of_length_eq_zero (by simpa using hl)
        subst hn; intro j u hu; simp at hu
      · obtain ⟨a', ha, hc⟩ := hnews h; cases ha; exact hc
    obtain ⟨v', w', hr, h2, h3, _⟩ := run_append_own w 0 t ty e i z size bytes ht hi hz hsize hby hzs hsz v N xs hown a m cp news hl hnews' h1 h63 hbytes (Nat.zero_le _)
    refine ⟨v', w', hr, h2, h3, fun b hb => ?_⟩
    rcases hown.2 with ⟨rfl, rfl⟩ | ⟨g, cap, cur, rfl, hbg, hg, hnc, hcm, hcs, htake⟩
    · have hx : xs = [] := List.eq_nil_of_length_eq_zero (by simpa using hown.1)
      subst hx
      obtain ⟨v2, w2, hr2, h22, _⟩ := run_append_own w w.heap.size t ty e i z size bytes ht hi hz hsize hby hzs hsz (.slice none 0 0) 0 [] (World.ownsRow_nil w _ e size) a m cp news hl hnews' h1 h63 hbytes (Nat.le_refl _)
      rw [hr] at hr2
      cases hr2
      exact .inr (h22.lt b hb).1
    · subst hsize
      by_cases hroom : N + m ≤ cap
      · have hfit : N * i.size + news.length ≤ cur.size := by rw [hl, hcs, ← Nat.add_mul]; exact Nat.mul_le_mul_right _ hroom
        have hr2 := run_append_room (P := P) w t ty e i ht hi g N cap cur hg a m cp news hl hnews' h1 hroom hfit
        rw [hr] at hr2
        cases hr2
        exact .inl hb
      · have holds : ∀ j u, xs[j]? = some u → w.cell? ((⟨g, 0, none⟩ : Addr).add j) = some u := hown.cells (g := g) rfl
        have hr2 := run_append_grow (P := P) w t ty e i z ht hi hz ⟨g, 0, none⟩ N cap xs hown.1 holds a m cp news hl hnews' (by omega) (by simp only [maxLen] at h63; omega) (growslice_fits (by omega) (by rw [hby]; exact hbytes))
        rw [hr] at hr2
        cases hr2
        simp [Value.ownBlock] at hb
        exact .inr (Nat.le_of_eq hb)

theorem WL.append {e : TypeId} {k bytes : Nat} {z : Value} [hu : TU P t (.slice e)] [hi : TI P e k bytes z] {d N m2 : Nat} {v v2 : Value} {xs ys : List Value} {m : Mem} {μ' : Value → List Res}
    (hx : lk l x = some v) (hr : ∀ v', Repl (.row e k v N xs) (.row e k v' (N + m2) (xs ++ ys)) μ (μ' v')) (hy : lk l y = some v2) (hs : IsCells m k v2 m2 ys) (hm : m ∈ Ms)
    (hz : z.cells.size = k) (hkp : 0 < k) (hb1 : N + m2 ≤ maxLen) (hb2 : (N + m2) * bytes ≤ 140737488355328)
    (hw : want ops l ⟨dst, .call ⟨.builtin .append, #[x, y], #[t, t]⟩, ty, pos, af, gd⟩ = some true) (hd : dst = some d) (hn : Nat.blt d n = true)
    (h : ∀ a' cap', WL c ops rest K ((d, .slice a' (N + m2) cap') :: l) Ms (μ' (.slice a' (N + m2) cap'))) : WL c ops (⟨dst, .call ⟨.builtin .append, #[x, y], #[t, t]⟩, ty, pos, af, gd⟩ :: rest) K l Ms μ :=
  WL.step hw fun a w hh => by
    obtain ⟨i, hi1, hi2, hi3, hi4⟩ := hi.i
    have hown : w.ownsRow 0 e k v N xs := hh.mem.res _ (hr v).mem
    obtain ⟨hl, a2, cap2, rfl, _, _, hone, hcell⟩ := hs
    have hone' : ∀ u ∈ ys, u.oneCell' = true := fun u hu => by
      obtain ⟨j, hj, rfl⟩ := List.mem_iff_getElem.1 hu
      have hdiv : j / k < m2 := (Nat.div_lt_iff_lt_mul hkp).2 (by rw [← hl]; exact hj)
      have := hone (j / k) (j % k) hdiv (Nat.mod_lt _ hkp)
      dsimp only at this
      rw [Nat.div_add_mod' j k, List.getD_eq_getElem?_getD, List.getElem?_eq_getElem hj] at this
      exact this
    have hnews : 0 < m2 → ∃ ad, a2 = some ad ∧ ∀ j u, ys[j]? = some u → w.cell? (ad.add j) = some u := fun h0 => by
      obtain ⟨b, off, rfl, hc⟩ := hcell h0
      refine ⟨_, rfl, fun j u hu => ?_⟩
      have hj : j < ys.length := (List.getElem?_eq_some_iff.1 hu).1
      have hdiv : j / k < m2 := (Nat.div_lt_iff_lt_mul hkp).2 (by rw [← hl]; exact hj)
      have := hc (j / k) (j % k) hdiv (Nat.mod_lt _ hkp)
      dsimp only at this
      rw [Nat.add_assoc, Nat.div_add_mod' j k, List.getD_eq_getElem?_getD, hu] at this
      rw [addr_add _ rfl]
      exact cellM_sub (hh.mem.sub m hm) this
    obtain ⟨v', w', hrun, hown', hg, hnew⟩ := run_append_own' (ty := ty) hu.u hi1 hi4 hi2 hi3 hz hkp hown (cp := cap2) hl hnews hone' hb1 hb2
    refine ⟨fun _ _ => trivial, ?_⟩
    rw [Oper.semAt_eq _ _ _ (by simp)]
    have hr' : (execOp a.eval ⟨dst, .call ⟨.builtin .append, #[x, y], #[t, t]⟩, ty, pos, af, gd⟩).run P w = .ok (.value v') w' := by
      simp [execOp, resolve, invoke, builtin, hh.lk hx, hh.lk hy, hrun]
    rw [hr']
    subst hd
    have hform : ∃ a' cap', v' = .slice a' (N + m2) cap' := by
      rcases hown'.2 with ⟨rfl, h0⟩ | ⟨g, cap, cur, rfl, _⟩
      · exact ⟨none, 0, by rw [h0]⟩
      · exact ⟨_, _, rfl⟩
    obtain ⟨a', cap', rfl⟩ := hform
    have hm' := hh.mem.turn (hr (.slice a' (N + m2) cap')) hown' ⟨hg.os, hg.tape, hg.output, hg.size, fun b hb hf => hg.block b hb (fun e => hf e.symm)⟩ hnew
    exact h a' cap' _ _ ((Holds.mk hh.size (by rw [(hr _).marks rfl rfl]; exact hh.defers) hh.slots hm').put (Nat.lt_of_blt hn) _)

/-! ### Calls -/
/-- The function and the arguments of a call of a function value. -/
theorem run_call {f : FuncId} [hc : TC P f] {xs : Array Operand} {ats : Array TypeId} {first caps : Array Value} {vs : List Value} {a : Act} {w : World} (hh : Holds c l Ms μ a w) (hf : lk l x = some (.func (.func f) first caps)) (hxs : lks l xs.toList = some vs) :
    (execOp a.eval ⟨dst, .call ⟨.value x, xs, ats⟩, ty, pos, af, gd⟩).run P w = .ok (.enter f (first ++ vs.toArray ++ caps)) w := by
  have e : xs.map a.eval = vs.toArray := by
    apply Array.ext'
    rw [Array.toList_map, hh.lks hxs]
  simp only [execOp, resolve, hh.lk hf, Deferred.ofValue, Sem.run_bind, Sem.run_pure, Result.andThen_ok, invoke, e, hc.c]
theorem Yields.call {f : FuncId} [TC P f] {xs : Array Operand} {ats : Array TypeId} {first caps : Array Value} {vs : List Value} {a : Act} {w : World} (hh : Holds c l Ms μ a w) (hf : lk l x = some (.func (.func f) first caps)) (hxs : lks l xs.toList = some vs)
    {R : Value → World → Prop} (h : Calls P f (first ++ vs.toArray ++ caps) w fun e w' => ∃ v, e = .returned v ∧ R v w') : Yields P ⟨dst, .call ⟨.value x, xs, ats⟩, ty, pos, af, gd⟩ a.eval w R := by
  refine ⟨by simp, by simp, ?_⟩
  rw [run_call hh hf hxs]
  exact h
theorem OpVal.callC {f : FuncId} [TC P f] {xs : Array Operand} {ats : Array TypeId} {first caps : Array Value} {vs : List Value} {v : Value} (hf : lk l x = some (.func (.func f) first caps)) (hxs : lks l xs.toList = some vs)
    (h : ∀ m, AllLe Ms m → FnV P f (first ++ vs.toArray ++ caps) m v) : OpVal c ⟨dst, .call ⟨.value x, xs, ats⟩, ty, pos, af, gd⟩ l Ms μ v := fun _ w hh =>
  Yields.call hh hf hxs ((h (MAll Ms) (AllLe.of fun _ hm => MAll.le hh.mem.sub hm) w (MAll.sub hh.mem.sub)).mono fun _ _ ⟨he, hx⟩ => ⟨v, he, rfl, hx⟩)
theorem OpAbs.callC {f : FuncId} [TC P f] {xs : Array Operand} {ats : Array TypeId} {first caps : Array Value} {vs : List Value} {R : Mem → Value → Prop} (hf : lk l x = some (.func (.func f) first caps)) (hxs : lks l xs.toList = some vs)
    (h : ∀ m, AllLe Ms m → FnR P f (first ++ vs.toArray ++ caps) m R) : OpAbs c ⟨dst, .call ⟨.value x, xs, ats⟩, ty, pos, af, gd⟩ l Ms μ R := fun _ w hh =>
  Yields.call hh hf hxs ((h (MAll Ms) (AllLe.of fun _ hm => MAll.le hh.mem.sub hm) w (MAll.sub hh.mem.sub)).mono fun _ _ ⟨v, mr, he, hR, hx, hs, hfr⟩ => ⟨v, he, hx, mr, hs, fun b hb => (hfr b hb).imp MAll.has id, hR⟩)
/-- A call of a function by its name. -/
theorem OpVal.call {f : FuncId} [TC P f] {xs : Array Operand} {ats : Array TypeId} {vs : List Value} {v : Value} (hxs : lks l xs.toList = some vs)
    (h : ∀ m, AllLe Ms m → FnV P f vs.toArray m v) : OpVal c ⟨dst, .call ⟨.value (.func f), xs, ats⟩, ty, pos, af, gd⟩ l Ms μ v :=
  OpVal.callC (first := #[]) (caps := #[]) rfl hxs (by simpa using h)
theorem OpAbs.call {f : FuncId} [TC P f] {xs : Array Operand} {ats : Array TypeId} {vs : List Value} {R : Mem → Value → Prop} (hxs : lks l xs.toList = some vs)
    (h : ∀ m, AllLe Ms m → FnR P f vs.toArray m R) : OpAbs c ⟨dst, .call ⟨.value (.func f), xs, ats⟩, ty, pos, af, gd⟩ l Ms μ R :=
  OpAbs.callC (first := #[]) (caps := #[]) rfl hxs (by simpa using h)

/-! ### A function's own proof -/
/-- What a result variable holds. -/
inductive ResV (P : Program) (l : List (Nat × Value)) (μ : List Res) : ResultVar → Value → Prop
  | tmp {t : Tmp} {v : Value} (h : look l t = some v) : ResV P l μ (.tmp t) v
  | one {t : Tmp} {T : TypeId} {b : Nat} {cs : Array Value} {T' : TypeId} {v : Value} (hu : TL P T false) (h : look l t = some (.pointer (some ⟨b, 0, none⟩))) (hb : Res.blk b cs T' ∈ μ) (hv : cs[0]? = some v) : ResV P l μ (.cell t T) v
  | agg {t : Tmp} {T : TypeId} {k bytes : Nat} {z : Value} {b : Nat} {cs : Array Value} {T' : TypeId} (hu : TL P T true) (hi : TI P T k bytes z) (h : look l t = some (.pointer (some ⟨b, 0, none⟩))) (hb : Res.blk b cs T' ∈ μ) (hk : cs.size = k) : ResV P l μ (.cell t T) (.agg cs)
def ResVs (P : Program) (l : List (Nat × Value)) (μ : List Res) : List ResultVar → List Value → Prop
  | [], [] => True
  | r :: rs, v :: vs => ResV P l μ r v ∧ ResVs P l μ rs vs
  | _, _ => False
def tup : List Value → Value
  | [v] => v
  | vs => .tuple vs.toArray
/-- What a function's body must end in. -/
def Kret (P : Program) (res : Array ResultVar) (R : Mem → Value → Prop) : Post := fun e l Ms μ =>
  (e = .ret ∨ e = .normal) ∧ ∃ vs mr, ResVs P l μ res.toList vs ∧ mr ∈ Ms ∧ R mr (tup vs)

def resOf (tmps : Array Value) : ResultVar → Sem Value
  | .tmp t => pure (tmps.getD t undef)
  | .cell x t => do loadVar t (← asAddr (tmps.getD x undef))
theorem ResV.run {a : Act} {w : World} (hh : Holds c l Ms μ a w) {r : ResultVar} {v : Value} (h : ResV P l μ r v) : (resOf a.tmps r).run P w = .ok v w := by
  cases h with
  | tmp h => simp [resOf, hh.slots _ _ h]
  | one hu h hb hv =>
    rename_i t T b cs T'
    have hcell : w.cell? ⟨b, 0, none⟩ = some v := by simp [World.cell?, hh.blk hb, hv]
    simp [resOf, hh.slots _ _ h, asAddr, loadVar, hu.l, hcell]
  | agg hu hi h hb hk =>
    rename_i t T k bytes z b cs T'
    have hl := run_loadCells_list (P := P) w ⟨b, 0, none⟩ cs.toList (fun j u hu => by
      rw [addr_add _ rfl]
      simp only [Nat.zero_add, World.cell?, hh.blk hb]
      simpa using hu)
    simp only [resOf, hh.slots _ _ h, asAddr, loadVar, Sem.run_bind, Sem.run_pure, Result.andThen_ok, hu.l, hi.sizeOf, if_true]
    rw [← hk, ← Array.length_toList, hl]
    simp
theorem ResVs.run {a : Act} {w : World} (hh : Holds c l Ms μ a w) : ∀ {rs : List ResultVar} {vs : List Value}, ResVs P l μ rs vs → (rs.mapM (resOf a.tmps)).run P w = .ok vs w
  | [], [], _ => rfl
  | r :: rs, v :: vs, h => by
    rw [List.mapM_cons]
    simp only [Sem.run_bind, h.1.run hh, Result.andThen_ok, ResVs.run hh h.2, Sem.run_pure]
theorem results_run {fn : Func} {a : Act} {w : World} (hh : Holds c l Ms μ a w) {vs : List Value} (h : ResVs P l μ fn.results.toList vs) : (results fn a.tmps).run P w = .ok (tup vs) w := by
  have e : results fn a.tmps = (do
    let vs ← fn.results.mapM (resOf a.tmps)
    pure (if h : vs.size = 1 then vs[0] else .tuple vs)) := by
    unfold results
    congr 1
  have hr : (fn.results.mapM (resOf a.tmps)).run P w = .ok vs.toArray w := by
    rw [Array.mapM_eq_mapM_toList]
    show (Functor.map _ _ : Sem _).run P w = _
    rw [← bind_pure_comp]
    simp only [Sem.run_bind, ResVs.run hh h, Result.andThen_ok, Sem.run_pure]
  rw [e]
  simp only [Sem.run_bind, hr, Result.andThen_ok, Sem.run_pure]
  match vs with
  | [] => rfl
  | [v] => rfl
  | v :: u :: vs => simp [tup]

/-- The slots of the arguments. -/
def argSlots : Nat → List Value → List (Nat × Value)
  | _, [] => []
  | i, v :: vs => (i, v) :: argSlots (i + 1) vs
theorem argSlots_look : ∀ (vs : List Value) (i t : Nat) (v : Value), look (argSlots i vs) t = some v → i ≤ t ∧ vs[t - i]? = some v
  | [], _, _, _, h => by cases h
  | u :: vs, i, t, v, h => by
    simp only [argSlots, look] at h
    split at h
    · rename_i e; cases Nat.eq_of_beq_eq_true e; cases h; simp
    · rename_i e
      have hne : i ≠ t := fun h => by subst h; simp at e
      obtain ⟨h1, h2⟩ := argSlots_look vs (i + 1) t v h
      refine ⟨by omega, ?_⟩
      rw [show t - i = (t - (i + 1)) + 1 by omega]
      simpa using h2

/-- A mark among the resources. -/
theorem marks_cons : ∀ {μ : List Res} {d : Deferred} {ds : List Deferred}, marksOf μ = d :: ds → ∃ b μ2, d = { target := .collected b, args := #[] } ∧ Repl (.obj b (.deferred (some []))) (.obj b (.deferred none)) μ μ2 ∧ marksOf μ2 = ds
  | [], _, _, h => by simp [marksOf] at h
  | r :: μ, d, ds, h => by
    cases hr : markOf r with
    | none =>
      have h' : marksOf μ = d :: ds := by simpa [marksOf, List.filterMap_cons, hr] using h
      obtain ⟨b, μ2, h1, h2, h3⟩ := marks_cons h'
      exact ⟨b, r :: μ2, h1, .tail _ h2, by simpa [marksOf, List.filterMap_cons, hr] using h3⟩
    | some d' =>
      have h' : d' = d ∧ marksOf μ = ds := by simpa [marksOf, List.filterMap_cons, hr] using h
      obtain ⟨rfl, rfl⟩ := h'
      unfold markOf at hr
      split at hr
      · rename_i b
        cases hr
        exact ⟨b, .obj b (.deferred none) :: μ, rfl, .head _, rfl⟩
      · cases hr
theorem Repl.stays {r r' : Res} {μ μ' : List Res} (h : Repl r r' μ μ') : ∀ s ∈ μ, s ≠ r → s ∈ μ' := by
  induction h with
  | head μ =>
    intro s hs hne
    rcases List.mem_cons.1 hs with rfl | hs
    · exact absurd rfl hne
    · exact .tail _ hs
  | tail x _ ih =>
    intro s hs hne
    rcases List.mem_cons.1 hs with rfl | hs
    · exact .head _
    · exact .tail _ (ih s hs hne)
theorem ResVs.stays {μ' : List Res} (h : ∀ b cs T, Res.blk b cs T ∈ μ → Res.blk b cs T ∈ μ') : ∀ {rs : List ResultVar} {vs : List Value}, ResVs P l μ rs vs → ResVs P l μ' rs vs
  | [], [], _ => trivial
  | r :: rs, v :: vs, ⟨h1, h2⟩ => ⟨by
      cases h1 with
      | tmp h => exact .tmp h
      | one hu h' hb hv => exact .one hu h' (h _ _ _ hb) hv
      | agg hu hi h' hb hk => exact .agg hu hi h' (h _ _ _ hb) hk, ResVs.stays h h2⟩
theorem leave_marks {fn : Func} {R : Ending → World → Prop} {vs : List Value} : ∀ (k : Nat) {μ : List Res} {tmps : Array Value} {w : World}, (marksOf μ).length = k → tmps.size = n → (∀ t v, look l t = some v → tmps.getD t undef = v) → MemOk c Ms μ w → ResVs P l μ fn.results.toList vs →
    (∀ μ' w', MemOk c Ms μ' w' → (∀ r ∈ μ, markOf r = none → r ∈ μ') → R (.returned (tup vs)) w') → LeavesInM Fence.wide 0 P fn tmps R (marksOf μ) .returning w
  | 0, μ, tmps, w, hk, hsz, hsl, hm, hres, hR => by
    have h0 : marksOf μ = [] := List.eq_nil_of_length_eq_zero hk
    rw [h0]
    have hh : Holds c l Ms μ { tmps := tmps, defers := marksOf μ ++ c.D } w := ⟨hsz, rfl, hsl, hm⟩
    exact ⟨_, results_run (fn := fn) hh hres, hR μ w hm fun r hr _ => hr⟩
  | k + 1, μ, tmps, w, hk, hsz, hsl, hm, hres, hR => by
    cases hds : marksOf μ with
    | nil => rw [hds] at hk; cases hk
    | cons d ds =>
      obtain ⟨b, μ2, rfl, hrep, rfl⟩ := marks_cons hds
      have hok : w.heap[b]? = some (.deferred (some [])) := hm.res _ hrep.mem
      have hm2 : MemOk c Ms μ2 (w.putObj b (.deferred none)) := hm.turn hrep (World.putObj_heap_same (Array.getElem?_eq_some_iff.1 hok).1)
        ⟨rfl, rfl, rfl, by simp, fun b' _ hb' => World.putObj_heap_other (fun e => hb' (by rw [e]; rfl))⟩ (fun b' hb' => .inl hb')
      refine ⟨by simp, .inl ⟨b, _, rfl, run_takeDeferred hok, ?_⟩⟩
      refine leave_marks k (by rw [hds] at hk; simpa using hk) hsz hsl hm2 (hres.stays fun b' cs T hb' => hrep.stays _ hb' (by simp)) fun μ' w' hm' hsub => hR μ' w' hm' fun r hr hmk => hsub r (hrep.stays r hr fun e => by subst e; cases hmk) hmk

theorem FnR.of_W {f : FuncId} {fn : Func} {code : Code} {args : Array Value} {h : Mem} {R : Mem → Value → Prop} (hf : P.funcs[f]? = some fn) (hb : fn.body = some code) (hn : fn.ntmps = n) (ha : args.size ≤ n)
    (hW : ∀ c : Cx P n, c.r = none → c.D = [] → (∀ b, ¬ c.F b) → W c code (Kret P fn.results R) (argSlots 0 args.toList) [h] []) : FnR P f args h R := fun w hw => by
  refine callsIn_wide.1 (callsIn_of_wp_marks (n := 0) hf hb trivial ?_)
  let c : Cx P n := ⟨none, [], w, fun _ => False, fun b => h b ≠ none⟩
  have hh : Holds c (argSlots 0 args.toList) [h] [] { tmps := args ++ Array.replicate (fn.ntmps - args.size) undef, defers := [] } w := by
    refine ⟨by simp [hn]; omega, rfl, fun t v ht => ?_, ⟨fun m hm => ?_, fun m hm b hb => ?_, Kp.refl _ w, fun r hr => (by cases hr), List.nodup_nil, fun b hb => (by cases hb)⟩⟩
    · obtain ⟨_, h2⟩ := argSlots_look _ _ _ _ ht
      have h3 : args[t]? = some v := by simpa using h2
      have hlt := (Array.getElem?_eq_some_iff.1 h3).1
      rw [Array.getD_eq_getD_getElem?, Array.getElem?_append_left hlt, h3]
      rfl
    · rcases List.mem_cons.1 hm with rfl | hm
      · exact hw
      · cases hm
    · rcases List.mem_cons.1 hm with rfl | hm
      · exact .inl hb
      · cases hm
  refine wpIn_mono (hW c rfl rfl (fun _ h => h) _ w hh) fun e a' w' ⟨l', Ms', μ', hk, hh'⟩ => ?_
  obtain ⟨he, vs, mr, hres, hm, hR⟩ := hk
  have hD : a'.defers = marksOf μ' := by rw [hh'.defers]; exact List.append_nil _
  have hfin : LeavesInM Fence.wide 0 P fn a'.tmps (fun e w' => ∃ v mr, e = .returned v ∧ R mr v ∧ Ext w w' ∧ Sub mr w' ∧ ∀ b, mr b ≠ none → h b ≠ none ∨ w.heap.size ≤ b) a'.defers .returning w' := by
    rw [hD]
    exact leave_marks _ rfl hh'.size hh'.slots hh'.mem hres fun μ2 w2 hm2 _ => ⟨_, mr, rfl, hR, hm2.kept, hm2.sub mr hm, hm2.fresh mr hm⟩
  rcases he with rfl | rfl <;> exact hfin
end

open Go Go.RowKit

abbrev Asr := Mem → Value → Prop
def edgesOf (o : Oper) : List Nat := (o.after.toList.filter (Region.binds .any ·)).map (·.on)

/-- The first s operations have places of their own, and wait for those whose places they look at; edges lead back. -/
def parB (ops : Array Oper) (s : Nat) : Bool :=
  let l := ops.toList
  decide (s ≤ l.length) &&
  (l.take s).all (fun o => o.dst.isSome) &&
  (l.take s).zipIdx.all (fun p => (l.take s).zipIdx.all (fun q => decide (p.2 = q.2) || (p.1.dst != q.1.dst))) &&
  l.zipIdx.all (fun p => (edgesOf p.1).all (fun e => decide (e < p.2))) &&
  (l.take s).all (fun o => (l.take s).zipIdx.all (fun q => match q.1.dst with
    | some d => !(o.looksAt ops).contains d || (edgesOf o).contains q.2
    | none => true))
/-- The operations behind them. -/
def tailB (ops : Array Oper) (s : Nat) : Bool :=
  (decide (s = ops.size) || (decide (s < ops.size) && Region.sinkB .any ops s && Region.chainB .any ops s)) && Region.seqB .any ops (ops.size - s) s (Array.replicate s true ++ Array.replicate (ops.size - s) false)

section
variable {P : Program} {n : Nat} {c : Cx P n} {K : Post} {l : List (Nat × Value)} {Ms : List Mem} {μ : List Res} {ops : Array Oper}

/-- An entry's word of a value. -/
def EntOK (c : Cx P n) (Ms : List Mem) (μ : List Res) (A : Asr) (u : Value) (w : World) : Prop := ∃ mr, MemOk c (mr :: Ms) μ w ∧ A mr u
theorem EntOK.ext {A : Asr} {u : Value} {w w' : World} (h : EntOK c Ms μ A u w) (he : Ext w w') : EntOK c Ms μ A u w' := let ⟨mr, h1, h2⟩ := h; ⟨mr, h1.ext he, h2⟩

/-- One operation's word, of whatever state holds of what it looks at. -/
def ObOK (c : Cx P n) (ops : Array Oper) (l : List (Nat × Value)) (Ms : List Mem) (μ : List Res) (env : List (Nat × Asr)) (o : Oper) (A : Asr) : Prop :=
  ∀ (a : Act) (w : World), a.tmps.size = n → a.defers = marksOf μ ++ c.D → MemOk c Ms μ w →
    (∀ t ∈ o.looksAt ops, ∀ v, look l t = some v → a.tmps.getD t undef = v) → (∀ p ∈ env, p.1 ∈ o.looksAt ops → EntOK c Ms μ p.2 (a.tmps.getD p.1 undef) w) →
    (Region.wanted o (yielded ops a.tmps) = true ∧ Yields P o a.eval w fun u w' => Ext w w' ∧ EntOK c Ms μ A u w') ∨ (Region.wanted o (yielded ops a.tmps) = false ∧ EntOK c Ms μ A undef w)

def DList (c : Cx P n) (ops : Array Oper) (l : List (Nat × Value)) (Ms : List Mem) (μ : List Res) (fin : List (Nat × Asr) → Prop) : List Oper → List (Nat × Asr) → Prop
  | [], env => fin env
  | o :: todo, env => ∃ d A, o.dst = some d ∧ d < n ∧ look l d = none ∧ ObOK c ops l Ms μ env o A ∧ DList c ops l Ms μ fin todo ((d, A) :: env)

/-- What a list of operations comes to, number by number. -/
theorem DList.all {fin : List (Nat × Asr) → Prop} : ∀ {todo : List Oper} {env : List (Nat × Asr)}, DList c ops l Ms μ fin todo env →
    ∃ E : List (Nat × Asr), fin (E ++ env) ∧ E.length = todo.length ∧ ∀ (i : Nat) (o : Oper), todo[i]? = some o → ∃ d A E', E.reverse[i]? = some (d, A) ∧ o.dst = some d ∧ d < n ∧ look l d = none ∧ (∀ p ∈ E', p ∈ E ++ env) ∧ ObOK c ops l Ms μ E' o A
  | [], env, h => ⟨[], h, rfl, fun i o hi => by simp at hi⟩
  | o :: todo, env, ⟨d, A, hd, hn, hl, hob, h⟩ => by
    obtain ⟨E, h1, h2, h3⟩ := DList.all h
    refine ⟨E ++ [(d, A)], by simpa using h1, by simp [h2], fun i o' hi => ?_⟩
    cases i with
    | zero =>
      cases hi
      exact ⟨d, A, env, by simp, hd, hn, hl, fun p hp => by simp [hp], hob⟩
    | succ i =>
      obtain ⟨d', A', E', k1, k2, k3, k4, k5, k6⟩ := h3 i o' (by simpa using hi)
      exact ⟨d', A', E', by simpa using k1, k2, k3, k4, fun p hp => by simpa using k5 p hp, k6⟩

/-- The entries opened: whatever values they hold of. -/
def OpenE (k : List (Nat × Value) → List Mem → Prop) : List (Nat × Asr) → List (Nat × Value) → List Mem → Prop
  | [], l, Ms => k l Ms
  | (t, A) :: env, l, Ms => ∀ mr u, A mr u → OpenE k env ((t, u) :: l) (mr :: Ms)

theorem OpenE.holds {k : List (Nat × Value) → List Mem → Prop} {a : Act} {w : World} : ∀ {env : List (Nat × Asr)} {l : List (Nat × Value)} {Ms : List Mem} {Ms0 : List Mem}, (∀ m ∈ Ms0, m ∈ Ms) → OpenE k env l Ms → Holds c l Ms μ a w →
    (∀ p ∈ env, EntOK c Ms0 μ p.2 (a.tmps.getD p.1 undef) w) → ∃ l' Ms', k l' Ms' ∧ Holds c l' Ms' μ a w
  | [], l, Ms, _, _, h, hh, _ => ⟨l, Ms, h, hh⟩
  | (t, A) :: env, l, Ms, Ms0, hs, h, hh, he => by
    obtain ⟨mr, hm, hA⟩ := he (t, A) (.head _)
    have hh' : Holds c ((t, a.tmps.getD t undef) :: l) (mr :: Ms) μ a w := by
      refine ⟨hh.size, hh.defers, fun t' v ht => ?_, ⟨fun m h' => ?_, fun m h' => ?_, hh.mem.kept, hh.mem.res, hh.mem.nodup, fun b hb => ⟨(hh.mem.own b hb).1, fun m h' => ?_⟩⟩⟩
      · simp only [look] at ht
        split at ht
        · rename_i e; cases Nat.eq_of_beq_eq_true e; cases ht; rfl
        · exact hh.slots t' v ht
      · rcases List.mem_cons.1 h' with rfl | h'
        · exact hm.sub _ (.head _)
        · exact hh.mem.sub m h'
      · rcases List.mem_cons.1 h' with rfl | h'
        · exact hm.fresh _ (.head _)
        · exact hh.mem.fresh m h'
      · rcases List.mem_cons.1 h' with rfl | h'
        · exact (hm.own b hb).2 _ (.head _)
        · exact (hh.mem.own b hb).2 m h'
    exact OpenE.holds (fun m hm' => .tail _ (hs m hm')) (h mr _ hA) hh' (fun p hp => he p (.tail _ hp))

/-! ### Whatever order -/
theorem mem_edges {o : Oper} {e : Edge} (he : e ∈ o.after) (hb : Region.binds .any e = true) : e.on ∈ edgesOf o :=
  List.mem_map.2 ⟨e, List.mem_filter.2 ⟨by simpa using he, hb⟩, rfl⟩
theorem of_edges {o : Oper} {j : Nat} (h : j ∈ edgesOf o) : ∃ e ∈ o.after, Region.binds .any e = true ∧ e.on = j := by
  obtain ⟨e, he, rfl⟩ := List.mem_map.1 h
  obtain ⟨h1, h2⟩ := List.mem_filter.1 he
  exact ⟨e, by simpa using h1, h2, rfl⟩

/-- How many have not come up. -/
def unlisted (listed : Array Bool) : Nat := listed.toList.countP (fun b => !b)
theorem unlisted_set {listed : Array Bool} {i : Nat} (h : listed.getD i true = false) : unlisted (listed.setIfInBounds i true) + 1 = unlisted listed := by
  obtain ⟨l⟩ := listed
  simp only [unlisted, List.setIfInBounds_toArray]
  have hi : l[i]? = some false := by
    simp only [Array.getD_eq_getD_getElem?, List.getElem?_toArray] at h
    cases hx : l[i]? with
    | none => rw [hx] at h; cases h
    | some b => rw [hx] at h; simp at h; rw [h]
  clear h
  induction l generalizing i with
  | nil => simp at hi
  | cons b l ih =>
    cases i with
    | zero => simp at hi; subst hi; simp
    | succ i =>
      simp at hi
      have := ih hi
      simp only [List.set_cons_succ, List.countP_cons]
      omega
theorem unlisted_zero {listed : Array Bool} (h : unlisted listed = 0) {i : Nat} (hi : i < listed.size) : listed.getD i true = true := by
  obtain ⟨l⟩ := listed
  simp only [unlisted, List.countP_eq_zero] at h
  simp at hi
  have := h l[i] (List.getElem_mem _)
  simp [hi] at this ⊢
  exact this

theorem wpOpIn_of {i : Nat} {o : Oper} {a : Act} {w : World} {R : Value → World → Prop} {Kn : Act → World → Prop} {Q : Exit → Act → World → Prop} {r : Option Nat} (ho : ops[i]? = some o)
    (h : (Region.wanted o (yielded ops a.tmps) = true ∧ Yields P o a.eval w R) ∨ (Region.wanted o (yielded ops a.tmps) = false ∧ R undef w)) (hn : ∀ v w', R v w' → Kn (a.put o.dst v) w') : wpOpIn (fd r) 0 P ops Q i Kn a w := by
  unfold wpOpIn
  simp only [ho]
  rcases h with ⟨hw, hy⟩ | ⟨hw, hy⟩
  · rw [if_pos hw]; exact hy.wpIn hn
  · rw [if_neg (by rw [hw]; simp)]; exact ⟨fun _ _ => trivial, hn _ _ hy⟩

theorem wpAnyIn_of_seq {r : Option Nat} {Q : Exit → Act → World → Prop} : ∀ (l : List Oper) (k : Nat) (listed : Array Bool) (a : Act) (w : World), (∀ j, l[j]? = ops[k + j]?) →
    Region.seqB .any ops l.length k listed = true → wpListIn (fd r) 0 P ops Q l a w → wpAnyIn (fd r) 0 P .any ops Q l.length listed a w
  | [], _, _, _, _, _, hB, h => ⟨by simpa [Region.seqB] using hB, h⟩
  | o :: l, k, listed, a, w, hl, hB, h => by
    have h0 : ops[k]? = some o := by simpa using (hl 0).symm
    simp only [List.length_cons, Region.seqB, Bool.and_eq_true, decide_eq_true_eq] at hB
    refine ⟨fun h1 => (by rw [hB.1] at h1; cases h1), fun i hi => ?_⟩
    rw [hB.1] at hi
    have hik : i = k := by simpa using hi
    subst hik
    have hw : wpOpIn (fd r) 0 P ops Q i (wpListIn (fd r) 0 P ops Q l) a w := by unfold wpOpIn; simp only [h0]; exact h
    exact wpOpIn_mono (fun a' w' h' => wpAnyIn_of_seq l (i + 1) _ a' w' (fun j => by have := hl (j + 1); simpa [Nat.add_assoc, Nat.add_comm 1 j] using this) hB.2 h') hw

/-- What holds while the first s operations come up. -/
structure ParInv (c : Cx P n) (ops : Array Oper) (s : Nat) (E : List (Nat × Asr)) (l : List (Nat × Value)) (Ms : List Mem) (μ : List Res) (listed : Array Bool) (a : Act) (w : World) : Prop where
  head : HeadInv .any ops s listed
  size : a.tmps.size = n
  defers : a.defers = marksOf μ ++ c.D
  mem : MemOk c Ms μ w
  outer : ∀ t v, look l t = some v → a.tmps.getD t undef = v
  ents : ∀ (i : Nat) (d : Nat) (A : Asr), E.reverse[i]? = some (d, A) → listed.getD i false = true → EntOK c Ms μ A (a.tmps.getD d undef) w

theorem getD_of_true {listed : Array Bool} {i : Nat} (h : listed.getD i false = true) : i < listed.size ∧ listed.getD i true = true := by
  rcases Nat.lt_or_ge i listed.size with h' | h'
  · simp [h'] at h ⊢; exact h
  · simp [Array.getElem?_eq_none h'] at h
theorem getD_false_of {listed : Array Bool} {i : Nat} (hi : i < listed.size) (h : listed.getD i false ≠ true) : listed.getD i true = false := by
  simp [hi] at h ⊢; exact h

/-- What the rest of the region owes, of the entries. -/
def Dfin (c : Cx P n) (ops : Array Oper) (l : List (Nat × Value)) (Ms : List Mem) (μ : List Res) (tail : List Oper) (K : Post) (env : List (Nat × Asr)) : Prop :=
  ∀ (a : Act) (w : World), Holds c l Ms μ a w → (∀ p ∈ env, EntOK c Ms μ p.2 (a.tmps.getD p.1 undef) w) → wpListIn (fd c.r) 0 P ops (post c K) tail a w

theorem W.par {id : Nat} {l0 : List Oper} (s : Nat) (hm : P.follows .mixedOrders = true) (hp : parB l0.toArray s = true) (ht : tailB l0.toArray s = true)
    (h : DList c l0.toArray l Ms μ (Dfin c l0.toArray l Ms μ (l0.drop s) K) (l0.take s) []) : W c (.region id l0.toArray true) K l Ms μ := fun a w hh => by
  obtain ⟨E, hfin, hlen, hob⟩ := DList.all h
  rw [List.append_nil] at hfin
  simp only [parB, Bool.and_eq_true, decide_eq_true_eq, List.all_eq_true] at hp
  obtain ⟨⟨⟨⟨hs, hdst⟩, hnd⟩, hedge⟩, hlook⟩ := hp
  simp only [tailB, Bool.and_eq_true, Bool.or_eq_true, decide_eq_true_eq] at ht
  obtain ⟨htail, hseq⟩ := ht
  have hs' : s ≤ l0.length := hs
  have hlen' : E.length = s := by rw [hlen, List.length_take]; omega
  have htake : ∀ (i : Nat), i < s → ∀ (o : Oper), l0[i]? = some o → (l0.take s)[i]? = some o := fun i hi o ho => by rw [List.getElem?_take, if_pos hi]; exact ho
  have hops : ∀ (i : Nat) (o : Oper), l0.toArray[i]? = some o → l0[i]? = some o := fun i o ho => by rw [List.getElem?_toArray] at ho; exact ho
  have hdist : ∀ (i j : Nat) (oi oj : Oper) (d : Nat), i < s → j < s → l0[i]? = some oi → l0[j]? = some oj → oi.dst = some d → oj.dst = some d → i = j := by
    intro i j oi oj d hi hj hoi hoj hdi hdj
    have h1 := hnd (oi, i) (List.mk_mem_zipIdx_iff_getElem?.2 (htake i hi oi hoi)) (oj, j) (List.mk_mem_zipIdx_iff_getElem?.2 (htake j hj oj hoj))
    simp only [Bool.or_eq_true, decide_eq_true_eq, bne_iff_ne] at h1
    rcases h1 with h1 | h1
    · exact h1
    · exact absurd (hdi.trans hdj.symm) h1
  have hwait : ∀ (i j : Nat) (oi oj : Oper) (d : Nat), i < s → j < s → l0[i]? = some oi → l0[j]? = some oj → oj.dst = some d → d ∈ oi.looksAt l0.toArray → j ∈ edgesOf oi := by
    intro i j oi oj d hi hj hoi hoj hdj hd
    have h1 := hlook oi (List.mem_of_getElem? (htake i hi oi hoi)) (oj, j) (List.mk_mem_zipIdx_iff_getElem?.2 (htake j hj oj hoj))
    simp only [hdj, Bool.or_eq_true, Bool.not_eq_true', List.contains_eq_mem, decide_eq_false_iff_not, decide_eq_true_eq] at h1
    rcases h1 with h1 | h1
    · exact absurd hd h1
    · exact h1
  have hback : ∀ (i : Nat) (oi : Oper), l0[i]? = some oi → ∀ e ∈ oi.after, Region.binds .any e = true → e.on < i := by
    intro i oi hoi e he hb
    have h1 := hedge (oi, i) (List.mk_mem_zipIdx_iff_getElem?.2 hoi) e.on (mem_edges he hb)
    simpa using h1
  refine wpIn_region_any hm ?_
  have hlistOf : ∀ (listed : Array Bool) (a : Act) (w : World), ParInv c l0.toArray s E l Ms μ listed a w → (∀ i, i < s → listed.getD i false = true) → listed = Array.replicate s true ++ Array.replicate (l0.toArray.size - s) false := by
    intro listed a w inv hall
    have hsz : listed.size = l0.length := by simpa using inv.head.size
    apply Array.ext
    · simp [hsz]; omega
    · intro i h1 h2
      rcases Nat.lt_or_ge i s with hi | hi
      · have := hall i hi
        simp [h1] at this
        rw [this, Array.getElem_append_left (by simpa using hi)]
        simp
      · have := inv.head.tail i hi (by simpa [hsz] using h1)
        simp [h1] at this
        rw [this, Array.getElem_append_right (by simpa using hi)]
        simp
  have fin : ∀ (listed : Array Bool) (a : Act) (w : World), ParInv c l0.toArray s E l Ms μ listed a w → (∀ i, i < s → listed.getD i false = true) → wpAnyIn (fd c.r) 0 P .any l0.toArray (post c K) (l0.toArray.size - s) listed a w := by
    intro listed a w inv hall
    have hh : Holds c l Ms μ a w := ⟨inv.size, inv.defers, inv.outer, inv.mem⟩
    have hk := hfin a w hh (fun p hp => by
      obtain ⟨i, hi, hpi⟩ := List.mem_iff_getElem.1 (List.mem_reverse.2 hp)
      exact inv.ents i p.1 p.2 (by rw [List.getElem?_eq_getElem hi, hpi]) (hall i (by simpa [hlen'] using hi)))
    have hlist := hlistOf listed a w inv hall
    have hd : (l0.drop s).length = l0.toArray.size - s := by simp
    rw [← hd]
    refine wpAnyIn_of_seq (l0.drop s) s listed a w (fun j => by rw [List.getElem?_drop, List.getElem?_toArray]) ?_ hk
    rw [hd, hlist]
    exact hseq
  have key : ∀ (fuel : Nat) (listed : Array Bool) (a : Act) (w : World), ParInv c l0.toArray s E l Ms μ listed a w → unlisted listed = fuel → wpAnyIn (fd c.r) 0 P .any l0.toArray (post c K) fuel listed a w := by
    intro fuel
    induction fuel with
    | zero =>
      intro listed a w inv hf
      have hsz : listed.size = l0.length := by simpa using inv.head.size
      have hall : ∀ i, i < listed.size → listed.getD i true = true := fun i hi => unlisted_zero hf hi
      have hse : s = l0.length := by
        rcases Nat.lt_or_ge s l0.length with h1 | h1
        · have h2 := inv.head.tail s (Nat.le_refl _) (by simpa using h1)
          rw [hall s (by omega)] at h2; cases h2
        · omega
      have := fin listed a w inv (fun i hi => by
        have h2 := hall i (by omega)
        have h3 : i < listed.size := by omega
        simp [h3] at h2 ⊢; exact h2)
      have h0 : l0.toArray.size - s = 0 := by simp; omega
      rw [h0] at this
      exact this
    | succ fuel ih =>
      intro listed a w inv hf
      have hsz : listed.size = l0.length := by simpa using inv.head.size
      by_cases hall : ∀ i, i < s → listed.getD i false = true
      · have h1 := fin listed a w inv hall
        have hcnt : fuel + 1 = l0.toArray.size - s := by
          rw [← hf, hlistOf listed a w inv hall]
          simp [unlisted, List.countP_append, List.countP_replicate]
        rw [hcnt]
        exact h1
      · obtain ⟨i0, hi0⟩ := Classical.not_forall.1 hall
        obtain ⟨hi0s, hi0f⟩ := Classical.not_imp.1 hi0
        have hun0 : listed.getD i0 true = false := getD_false_of (by omega) hi0f
        refine ⟨fun hnil => ?_, fun i hi => ?_⟩
        · exfalso
          -- the least that has not come up is ready
          have least : ∀ (j : Nat), j < l0.length → listed.getD j true = false → False := by
            intro j
            induction j using Nat.strongRecOn with
            | _ j ihj =>
              intro hj hjf
              have hoj : l0[j]? = some l0[j] := List.getElem?_eq_getElem hj
              have hr : j ∈ Region.ready .any l0.toArray listed := by
                refine mem_ready.2 ⟨hjf, l0[j], by rw [List.getElem?_toArray]; exact hoj, fun e he hb => ?_⟩
                have hlt := hback j _ hoj e he hb
                cases hx : listed.getD e.on false with
                | true => rfl
                | false => exact (ihj e.on hlt (by omega) (getD_in (by omega) hx)).elim
              rw [hnil] at hr; cases hr
          exact least i0 (by omega) hun0
        · have his : i < s := by
            rcases Nat.lt_or_ge i s with h1 | h1
            · exact h1
            · exfalso
              rcases htail with h2 | ⟨⟨h2, h3⟩, h4⟩
              · obtain ⟨_, o, ho, _⟩ := mem_ready.1 hi
                have := (Array.getElem?_eq_some_iff.1 ho).1
                omega
              · exact tail_waits h3 h4 h2 inv.head _ i0 rfl hi0s hun0 i h1 hi
          obtain ⟨hif, o, ho, hready⟩ := mem_ready.1 hi
          have ho' := hops i o ho
          obtain ⟨d, A, E', hE, hd, hdn, hld, hsub, hok⟩ := hob i o (htake i his o ho')
          have hlooks : ∀ j oj d', j < s → l0[j]? = some oj → oj.dst = some d' → d' ∈ o.looksAt l0.toArray → listed.getD j false = true := by
            intro j oj d' hj hoj hdj hd'
            obtain ⟨e, he, hb, rfl⟩ := of_edges (hwait i j o oj d' his hj ho' hoj hdj hd')
            exact hready e he hb
          have hside : ∀ p ∈ E', p.1 ∈ o.looksAt l0.toArray → EntOK c Ms μ p.2 (a.tmps.getD p.1 undef) w := fun p hp hpl => by
            have hpE : p ∈ E := by simpa using hsub p hp
            obtain ⟨j, hj, hpj⟩ := List.mem_iff_getElem.1 (List.mem_reverse.2 hpE)
            have hjs : j < s := by simpa [hlen'] using hj
            have hoj : l0[j]? = some l0[j] := List.getElem?_eq_getElem (by omega)
            obtain ⟨d', A', _, hE', hd', _⟩ := hob j _ (htake j hjs _ hoj)
            rw [List.getElem?_eq_getElem hj, hpj] at hE'
            cases hE'
            exact inv.ents j _ _ (by rw [List.getElem?_eq_getElem hj, hpj]) (hlooks j _ _ hjs hoj hd' hpl)
          refine wpOpIn_of (R := fun u w' => Ext w w' ∧ EntOK c Ms μ A u w') ho ?_ ?_
          · rcases hok a w inv.size inv.defers inv.mem (fun t _ v hv => inv.outer t v hv) hside with ⟨h1, h2⟩ | ⟨h1, h2⟩
            · exact .inl ⟨h1, h2⟩
            · exact .inr ⟨h1, Kp.refl _ w, h2⟩
          · rintro u w' ⟨hx, hu⟩
            have hil : i < listed.size := by omega
            refine ih _ _ _ ⟨inv.head.set hi his, by simp [Act.put, hd, inv.size], by simp [Act.put, hd, inv.defers], inv.mem.ext hx, fun t v hv => ?_, fun j d' A' hj hl => ?_⟩ (by have := unlisted_set hif; omega)
            · have hne : d ≠ t := fun e => by subst e; rw [hld] at hv; cases hv
              have := inv.outer t v hv
              simp only [Act.put, hd, Array.getD_eq_getD_getElem?, Array.getElem?_setIfInBounds_ne hne] at this ⊢
              exact this
            · by_cases hji : j = i
              · subst hji
                rw [hE] at hj
                cases hj
                have : (a.put o.dst u).tmps.getD d undef = u := by simp [Act.put, hd, inv.size, hdn]
                rw [this]; exact hu
              · have hlj : listed.getD j false = true := by rw [getD_set_ne false (Ne.symm hji)] at hl; exact hl
                have hjs : j < s := by
                  have := (List.getElem?_eq_some_iff.1 hj).1
                  simpa [hlen'] using this
                have hoj : l0[j]? = some l0[j] := List.getElem?_eq_getElem (by omega)
                obtain ⟨d2, A2, _, hE2, hd2, _⟩ := hob j _ (htake j hjs _ hoj)
                rw [hj] at hE2
                cases hE2
                have hne : d ≠ d' := fun e => hji (hdist j i _ o d hjs his hoj ho' (e ▸ hd2) hd)
                have h1 := (inv.ents j d' A' hj hlj).ext hx
                have : (a.put o.dst u).tmps.getD d' undef = a.tmps.getD d' undef := by
                  simp only [Act.put, hd, Array.getD_eq_getD_getElem?, Array.getElem?_setIfInBounds_ne hne]
                rw [this]; exact h1
  refine key _ _ a _ ⟨⟨by simp, fun j oj _ hl => (by rw [getD_replicate_false] at hl; cases hl), fun t _ ht => getD_in (by simpa using ht) (getD_replicate_false _ _)⟩, hh.size, hh.defers, hh.mem.ext (Ext.draw w), hh.slots, fun i d A _ hl => (by rw [getD_replicate_false] at hl; cases hl)⟩ (by simp [unlisted, List.countP_replicate])

/-! ### The rules -/
def DJ (c : Cx P n) (ops : Array Oper) (l0 : List (Nat × Value)) (Ms : List Mem) (μ : List Res) (tail : List Oper) (K : Post) (todo : List Oper) (L : List (Nat × Value)) (Γ : List (Nat × Asr)) : Prop :=
  ∀ env : List (Nat × Asr), (∀ p ∈ Γ, p ∈ env) → (∀ p ∈ env, p.1 < n) → (∀ t v, look L t = some v → look l t = some v ∨ (t, fun _ u => u = v) ∈ env) → (∀ t v, look l t = some v → t < n) → l0 = l → DList c ops l Ms μ (Dfin c ops l Ms μ tail K) todo env

def keysB (l : List (Nat × Value)) (n : Nat) : Bool := l.all fun p => Nat.blt p.1 n
theorem keysB_spec {l : List (Nat × Value)} (h : keysB l n = true) : ∀ t v, look l t = some v → t < n := by
  induction l with
  | nil => intro t v ht; cases ht
  | cons p l ih =>
    obtain ⟨i, u⟩ := p
    simp only [keysB, List.all_cons, Bool.and_eq_true] at h
    intro t v ht
    simp only [look] at ht
    split at ht
    · rename_i e; cases Nat.eq_of_beq_eq_true e; exact Nat.lt_of_blt h.1
    · exact ih h.2 t v ht

theorem W.draw {id : Nat} {ops0 : List Oper} (s : Nat) (hm : P.follows .mixedOrders = true) (hp : parB ops0.toArray s = true) (ht : tailB ops0.toArray s = true) (hk : keysB l n = true)
    (h : DJ (l := l) c ops0.toArray l Ms μ (ops0.drop s) K (ops0.take s) l []) : W c (.region id ops0.toArray true) K l Ms μ :=
  W.par s hm hp ht (h [] (fun _ h => h) (fun _ h => by cases h) (fun _ _ h => .inl h) (keysB_spec hk) rfl)

variable {o : Oper} {L : List (Nat × Value)} {Γ : List (Nat × Asr)} {todo tail : List Oper}

theorem MemOk.empty {w : World} (h : MemOk c Ms μ w) : MemOk c ((fun _ => none) :: Ms) μ w := by
  refine ⟨fun m hm => ?_, fun m hm => ?_, h.kept, h.res, h.nodup, fun b hb => ⟨(h.own b hb).1, fun m hm => ?_⟩⟩
  · rcases List.mem_cons.1 hm with rfl | hm
    · intro b o hb; cases hb
    · exact h.sub m hm
  · rcases List.mem_cons.1 hm with rfl | hm
    · intro b hb; exact absurd rfl hb
    · exact h.fresh m hm
  · rcases List.mem_cons.1 hm with rfl | hm
    · rfl
    · exact (h.own b hb).2 m hm
theorem MemOk.drop {w : World} {m1 m2 : Mem} (h : MemOk c (m1 :: m2 :: Ms) μ w) : MemOk c (m1 :: Ms) μ w := by
  have hs : ∀ m ∈ m1 :: Ms, m ∈ m1 :: m2 :: Ms := fun m hm => by
    rcases List.mem_cons.1 hm with rfl | hm
    · exact .head _
    · exact .tail _ (.tail _ hm)
  exact ⟨fun m hm => h.sub m (hs m hm), fun m hm => h.fresh m (hs m hm), h.kept, h.res, h.nodup, fun b hb => ⟨(h.own b hb).1, fun m hm => (h.own b hb).2 m (hs m hm)⟩⟩

/-- A frame that holds all that is known, and agrees at what an operation looks at. -/
theorem fill {a : Act} {w : World} (hsz : a.tmps.size = n) (hD : a.defers = marksOf μ ++ c.D) (hm : MemOk c Ms μ w) (hk : ∀ t v, look L t = some v → t < n) (S : List Nat) (hS : ∀ t ∈ S, ∀ v, look L t = some v → a.tmps.getD t undef = v) :
    ∃ a' : Act, Holds c L Ms μ a' w ∧ ∀ t ∈ S, a'.tmps.getD t undef = a.tmps.getD t undef := by
  refine ⟨{ tmps := Array.ofFn fun i : Fin n => (look L i).getD (a.tmps.getD i undef), defers := a.defers }, ⟨by simp, hD, fun t v ht => ?_, hm⟩, fun t ht => ?_⟩
  · have := hk t v ht
    simp [Array.getD_eq_getD_getElem?, this, ht]
  · rcases Nat.lt_or_ge t n with h | h
    · simp only [Array.getD_eq_getD_getElem?, Array.getElem?_ofFn, h, dif_pos, Option.getD_some]
      cases hl : look L t with
      | none => rfl
      | some v =>
        have := hS t ht v hl
        simp only [Array.getD_eq_getD_getElem?] at this
        exact this.symm
    · simp only [Array.getD_eq_getD_getElem?, Array.getElem?_ofFn]
      rw [dif_neg (by omega), Array.getElem?_eq_none (by omega)]
theorem wanted_congr {a a' : Act} (hsz : a.tmps.size = a'.tmps.size) (h : ∀ t ∈ o.looksAt ops, a'.tmps.getD t undef = a.tmps.getD t undef) : Region.wanted o (yielded ops a'.tmps) = Region.wanted o (yielded ops a.tmps) := by
  unfold Region.wanted
  cases hg : o.guard with
  | none => rfl
  | some gw =>
    obtain ⟨g, want⟩ := gw
    have hy : yielded ops a'.tmps g = yielded ops a.tmps g := by
      unfold yielded
      cases ht : (ops[g]?).bind (·.dst) with
      | none => rfl
      | some t =>
        have h1 := h t (by simp [Oper.looksAt, hg, ht])
        simp only [Option.bind_some]
        rcases Nat.lt_or_ge t a.tmps.size with hlt | hge
        · have hlt' : t < a'.tmps.size := hsz ▸ hlt
          simp only [Array.getD_eq_getD_getElem?, Array.getElem?_eq_getElem hlt, Array.getElem?_eq_getElem hlt', Option.getD_some] at h1
          rw [Array.getElem?_eq_getElem hlt, Array.getElem?_eq_getElem hlt', h1]
        · have hge' : a'.tmps.size ≤ t := hsz ▸ hge
          rw [Array.getElem?_eq_none hge, Array.getElem?_eq_none hge']
    simp only [hy]
theorem eval_congr {a a' : Act} (h : ∀ t ∈ o.looksAt ops, a'.tmps.getD t undef = a.tmps.getD t undef) : ∀ x ∈ o.op.operands, a'.eval x = a.eval x := fun x hx => by
  cases x with
  | tmp t => exact h t (List.mem_append_left _ (List.mem_filterMap.2 ⟨.tmp t, by simpa using hx, rfl⟩))
  | _ => rfl

/-- The entries of G, opened, at a frame that agrees. -/
theorem open_fill {k : List (Nat × Value) → List Mem → Prop} {a : Act} {w : World} (S : List Nat) : ∀ {G : List (Nat × Asr)} {L : List (Nat × Value)} {Ms' : List Mem}, OpenE k G L Ms' → (∀ m ∈ Ms, m ∈ Ms') →
    a.tmps.size = n → a.defers = marksOf μ ++ c.D → MemOk c Ms' μ w → (∀ t v, look L t = some v → t < n) → (∀ t ∈ S, ∀ v, look L t = some v → a.tmps.getD t undef = v) →
    (∀ p ∈ G, p.1 ∈ S ∧ p.1 < n ∧ EntOK c Ms μ p.2 (a.tmps.getD p.1 undef) w) →
    ∃ L' Ms2, k L' Ms2 ∧ (∀ m ∈ Ms, m ∈ Ms2) ∧ (∀ t v, look L t = some v → (∀ p ∈ G, p.1 ≠ t) → look L' t = some v) ∧ ∃ a' : Act, Holds c L' Ms2 μ a' w ∧ ∀ t ∈ S, a'.tmps.getD t undef = a.tmps.getD t undef
  | [], L, Ms', h, hs, hsz, hD, hm, hk, hS, _ => by
    obtain ⟨a', h1, h2⟩ := fill hsz hD hm hk S hS
    exact ⟨L, Ms', h, hs, fun t v ht _ => ht, a', h1, h2⟩
  | (t0, A) :: G, L, Ms', h, hs, hsz, hD, hm, hk, hS, he => by
    obtain ⟨h1, h2, mr, h3, h4⟩ := he (t0, A) (.head _)
    have hm' : MemOk c (mr :: Ms') μ w := by
      refine ⟨fun m h' => ?_, fun m h' => ?_, hm.kept, hm.res, hm.nodup, fun b hb => ⟨(hm.own b hb).1, fun m h' => ?_⟩⟩
      · rcases List.mem_cons.1 h' with rfl | h'
        · exact h3.sub _ (.head _)
        · exact hm.sub m h'
      · rcases List.mem_cons.1 h' with rfl | h'
        · exact h3.fresh _ (.head _)
        · exact hm.fresh m h'
      · rcases List.mem_cons.1 h' with rfl | h'
        · exact (h3.own b hb).2 _ (.head _)
        · exact (hm.own b hb).2 m h'
    obtain ⟨L', Ms2, k1, k2, k3, k4⟩ := open_fill S (h mr _ h4) (fun m hm => .tail _ (hs m hm)) hsz hD hm' (fun t v ht => by
        simp only [look] at ht
        split at ht
        · rename_i e; cases Nat.eq_of_beq_eq_true e; exact h2
        · exact hk t v ht) (fun t ht v hv => by
        simp only [look] at hv
        split at hv
        · rename_i e; cases Nat.eq_of_beq_eq_true e; cases hv; rfl
        · exact hS t ht v hv) (fun p hp => he p (.tail _ hp))
    refine ⟨L', Ms2, k1, k2, fun t v ht hp => k3 t v ?_ (fun p hp' => hp p (.tail _ hp')), k4⟩
    have : t0 ≠ t := hp (t0, A) (.head _)
    simp only [look]
    cases hb : Nat.beq t0 t with
    | true => exact absurd (Nat.eq_of_beq_eq_true hb) this
    | false => exact ht

/-- What is opened for an operation: entries that it looks at. -/
def GOk (ops : Array Oper) (o : Oper) (Γ : List (Nat × Asr)) : List (Nat × Asr) → Prop
  | [] => True
  | p :: G => p ∈ Γ ∧ (o.looksAt ops).contains p.1 = true ∧ GOk ops o Γ G
theorem GOk.spec : ∀ {G : List (Nat × Asr)}, GOk ops o Γ G → ∀ p ∈ G, p ∈ Γ ∧ p.1 ∈ o.looksAt ops
  | p :: G, h, q, hq => by
    rcases List.mem_cons.1 hq with rfl | hq
    · exact ⟨h.1, by simpa using h.2.1⟩
    · exact GOk.spec h.2.2 q hq

theorem DJ.val (G : List (Nat × Asr)) {v : Value} {d : Nat} (hv : OpenE (fun l Ms => OpVal c o l Ms μ v) G L Ms) (hw : want ops L o = some true) (hd : o.dst = some d) (hn : Nat.blt d n = true) (hl : look l d = none)
    (h : DJ (l := l) c ops l Ms μ tail K todo ((d, v) :: L) Γ) (hG : GOk ops o Γ G := by exact trivial) : DJ (l := l) c ops l Ms μ tail K (o :: todo) L Γ := fun env hΓ hen hL hk _ => by
  refine ⟨d, fun _ u => u = v, hd, Nat.lt_of_blt hn, hl, fun a w hsz hD hm hout hents => ?_, h _ (fun p hp => .tail _ (hΓ p hp)) (fun p hp => ?_) (fun t u ht => ?_) hk rfl⟩
  · have hslots : ∀ t ∈ o.looksAt ops, ∀ v, look L t = some v → a.tmps.getD t undef = v := fun t ht v hv => by
      rcases hL t v hv with h1 | h1
      · exact hout t ht v h1
      · obtain ⟨mr, _, h2⟩ := hents _ h1 ht; exact h2
    have hkL : ∀ t v, look L t = some v → t < n := fun t v hv => by
      rcases hL t v hv with h1 | h1
      · exact hk t v h1
      · exact hen _ h1
    obtain ⟨L', Ms2, k1, k2, k3, a', k4, k5⟩ := open_fill (o.looksAt ops) hv (fun _ h => h) hsz hD hm hkL hslots (fun p hp => ⟨(hG.spec p hp).2, hen p (hΓ p (hG.spec p hp).1), hents p (hΓ p (hG.spec p hp).1) (hG.spec p hp).2⟩)
    refine .inl ⟨?_, ((k1 a' w k4).congr (eval_congr k5)).mono fun u w' ⟨hu, hx⟩ => ⟨hx, _, (hm.ext hx).empty, hu⟩⟩
    obtain ⟨a2, h1, h2⟩ := fill hsz hD hm hkL (o.looksAt ops) hslots
    rw [← wanted_congr (hsz.trans h1.size.symm) h2]
    exact want_spec h1 hw
  · rcases List.mem_cons.1 hp with rfl | hp
    · exact Nat.lt_of_blt hn
    · exact hen p hp
  · simp only [look] at ht
    split at ht
    · rename_i e; cases Nat.eq_of_beq_eq_true e; cases ht; exact .inr (.head _)
    · exact (hL t u ht).imp id (.tail _)

theorem DJ.abs (G : List (Nat × Asr)) {A : Asr} {d : Nat} (hv : OpenE (fun l Ms => OpAbs c o l Ms μ A) G L Ms) (hw : want ops L o = some true) (hd : o.dst = some d) (hn : Nat.blt d n = true) (hl : look l d = none)
    (h : DJ (l := l) c ops l Ms μ tail K todo L ((d, A) :: Γ)) (_hLd : look L d = none := by rfl) (hG : GOk ops o Γ G := by exact trivial) : DJ (l := l) c ops l Ms μ tail K (o :: todo) L Γ := fun env hΓ hen hL hk _ => by
  refine ⟨d, A, hd, Nat.lt_of_blt hn, hl, fun a w hsz hD hm hout hents => ?_, h _ (fun p hp => ?_) (fun p hp => ?_) (fun t u ht => (hL t u ht).imp id (.tail _)) hk rfl⟩
  · have hslots : ∀ t ∈ o.looksAt ops, ∀ v, look L t = some v → a.tmps.getD t undef = v := fun t ht v hv => by
      rcases hL t v hv with h1 | h1
      · exact hout t ht v h1
      · obtain ⟨mr, _, h2⟩ := hents _ h1 ht; exact h2
    have hkL : ∀ t v, look L t = some v → t < n := fun t v hv => by
      rcases hL t v hv with h1 | h1
      · exact hk t v h1
      · exact hen _ h1
    obtain ⟨L', Ms2, k1, k2, k3, a', k4, k5⟩ := open_fill (o.looksAt ops) hv (fun _ h => h) hsz hD hm hkL hslots (fun p hp => ⟨(hG.spec p hp).2, hen p (hΓ p (hG.spec p hp).1), hents p (hΓ p (hG.spec p hp).1) (hG.spec p hp).2⟩)
    refine .inl ⟨?_, ((k1 a' w k4).congr (eval_congr k5)).mono fun u w' ⟨hx, mr, hs, hfr, hA⟩ => ⟨hx, mr, ?_, hA⟩⟩
    · obtain ⟨a2, h1, h2⟩ := fill hsz hD hm hkL (o.looksAt ops) hslots
      rw [← wanted_congr (hsz.trans h1.size.symm) h2]
      exact want_spec h1 hw
    · have h1 := k4.mem.add hx hs hfr
      have hs2 : ∀ m ∈ mr :: Ms, m ∈ mr :: Ms2 := fun m hm => by
        rcases List.mem_cons.1 hm with rfl | hm
        · exact .head _
        · exact .tail _ (k2 m hm)
      exact ⟨fun m hm => h1.sub m (hs2 m hm), fun m hm => h1.fresh m (hs2 m hm), h1.kept, h1.res, h1.nodup, fun b hb => ⟨(h1.own b hb).1, fun m hm => (h1.own b hb).2 m (hs2 m hm)⟩⟩
  · rcases List.mem_cons.1 hp with rfl | hp
    · exact .head _
    · exact .tail _ (hΓ p hp)
  · rcases List.mem_cons.1 hp with rfl | hp
    · exact Nat.lt_of_blt hn
    · exact hen p hp

theorem DJ.pass {d : Nat} (hw : want ops L o = some false) (hd : o.dst = some d) (hn : Nat.blt d n = true) (hl : look l d = none)
    (h : DJ (l := l) c ops l Ms μ tail K todo ((d, undef) :: L) Γ) : DJ (l := l) c ops l Ms μ tail K (o :: todo) L Γ := fun env hΓ hen hL hk _ => by
  refine ⟨d, fun _ u => u = undef, hd, Nat.lt_of_blt hn, hl, fun a w hsz hD hm hout hents => ?_, h _ (fun p hp => .tail _ (hΓ p hp)) (fun p hp => ?_) (fun t u ht => ?_) hk rfl⟩
  · have hslots : ∀ t ∈ o.looksAt ops, ∀ v, look L t = some v → a.tmps.getD t undef = v := fun t ht v hv => by
      rcases hL t v hv with h1 | h1
      · exact hout t ht v h1
      · obtain ⟨mr, _, h2⟩ := hents _ h1 ht; exact h2
    have hkL : ∀ t v, look L t = some v → t < n := fun t v hv => by
      rcases hL t v hv with h1 | h1
      · exact hk t v h1
      · exact hen _ h1
    obtain ⟨a2, h1, h2⟩ := fill hsz hD hm hkL (o.looksAt ops) hslots
    refine .inr ⟨?_, _, hm.empty, rfl⟩
    rw [← wanted_congr (hsz.trans h1.size.symm) h2]
    exact want_spec h1 hw
  · rcases List.mem_cons.1 hp with rfl | hp
    · exact Nat.lt_of_blt hn
    · exact hen p hp
  · simp only [look] at ht
    split at ht
    · rename_i e; cases Nat.eq_of_beq_eq_true e; cases ht; exact .inr (.head _)
    · exact (hL t u ht).imp id (.tail _)

theorem DJ.nil (h : OpenE (fun l' Ms' => WL c ops tail K l' Ms' μ) Γ L Ms) : DJ (l := l) c ops l Ms μ tail K [] L Γ := fun env hΓ hen hL hk _ a w hh hents => by
  have hh' : Holds c L Ms μ a w := ⟨hh.size, hh.defers, fun t v ht => by
    rcases hL t v ht with h1 | h1
    · exact hh.slots t v h1
    · obtain ⟨mr, _, h2⟩ := hents _ h1; exact h2, hh.mem⟩
  obtain ⟨l', Ms', hk', hh2⟩ := OpenE.holds (Ms0 := Ms) (fun _ h => h) h hh' (fun p hp => hents p (hΓ p hp))
  exact hk' a w hh2

/-- A test whose outcome is told. -/
theorem DJ.know {t : Nat} {b b' : Bool} (hb : look L t = some (.bool b)) (e : b = b') (h : DJ (l := l) c ops l Ms μ tail K todo ((t, .bool b') :: L) Γ) : DJ (l := l) c ops l Ms μ tail K todo L Γ := fun env hΓ hen hL hk e0 => by
  subst e
  refine h env hΓ hen (fun t' u ht => ?_) hk e0
  simp only [look] at ht
  split at ht
  · rename_i e; cases Nat.eq_of_beq_eq_true e; cases ht; exact hL _ _ hb
  · exact hL t' u ht
theorem WL.know {t : Nat} {b b' : Bool} {rest : List Oper} (hb : look l t = some (.bool b)) (e : b = b') (h : WL c ops rest K ((t, .bool b') :: l) Ms μ) : WL c ops rest K l Ms μ := fun a w hh => by
  subst e
  refine h a w ⟨hh.size, hh.defers, fun t' u ht => ?_, hh.mem⟩
  simp only [look] at ht
  split at ht
  · rename_i e; cases Nat.eq_of_beq_eq_true e; cases ht; exact hh.slots _ _ hb
  · exact hh.slots t' u ht
/-- The slot and the wanted Bool of a guard. -/
def guardOf (ops : Array Oper) (o : Oper) : Option Nat :=
  match o.guard with
  | some (j, _) => (ops[j]?).bind (·.dst)
  | none => none
/-- A guard that is not decided: both ways. -/
theorem DJ.split {t : Nat} {p : Prop} [Decidable p] (_hg : guardOf ops o = some t) (hb : look L t = some (.bool (decide p)))
    (h1 : p → DJ (l := l) c ops l Ms μ tail K (o :: todo) ((t, .bool true) :: L) Γ) (h2 : ¬ p → DJ (l := l) c ops l Ms μ tail K (o :: todo) ((t, .bool false) :: L) Γ) : DJ (l := l) c ops l Ms μ tail K (o :: todo) L Γ := by
  by_cases h : p
  · exact DJ.know hb (by simpa using h) (h1 h)
  · exact DJ.know hb (by simpa using h) (h2 h)
theorem DJ.splitN {t : Nat} {p : Prop} [Decidable p] (_hg : guardOf ops o = some t) (hb : look L t = some (.bool (!decide p)))
    (h1 : ¬ p → DJ (l := l) c ops l Ms μ tail K (o :: todo) ((t, .bool true) :: L) Γ) (h2 : p → DJ (l := l) c ops l Ms μ tail K (o :: todo) ((t, .bool false) :: L) Γ) : DJ (l := l) c ops l Ms μ tail K (o :: todo) L Γ := by
  by_cases h : p
  · exact DJ.know hb (by simpa using h) (h2 h)
  · exact DJ.know hb (by simpa using h) (h1 h)
theorem DJ.splitB {t : Nat} {b : Bool} (_hg : guardOf ops o = some t) (hb : look L t = some (.bool b))
    (h1 : b = true → DJ (l := l) c ops l Ms μ tail K (o :: todo) ((t, .bool true) :: L) Γ) (h2 : b = false → DJ (l := l) c ops l Ms μ tail K (o :: todo) ((t, .bool false) :: L) Γ) : DJ (l := l) c ops l Ms μ tail K (o :: todo) L Γ := by
  cases hbb : b
  · exact DJ.know hb hbb (h2 hbb)
  · exact DJ.know hb hbb (h1 hbb)
theorem WL.split {t : Nat} {p : Prop} [Decidable p] {rest : List Oper} (_hg : guardOf ops o = some t) (hb : look l t = some (.bool (decide p)))
    (h1 : p → WL c ops (o :: rest) K ((t, .bool true) :: l) Ms μ) (h2 : ¬ p → WL c ops (o :: rest) K ((t, .bool false) :: l) Ms μ) : WL c ops (o :: rest) K l Ms μ := by
  by_cases h : p
  · exact WL.know hb (by simpa using h) (h1 h)
  · exact WL.know hb (by simpa using h) (h2 h)
theorem WL.splitN {t : Nat} {p : Prop} [Decidable p] {rest : List Oper} (_hg : guardOf ops o = some t) (hb : look l t = some (.bool (!decide p)))
    (h1 : ¬ p → WL c ops (o :: rest) K ((t, .bool true) :: l) Ms μ) (h2 : p → WL c ops (o :: rest) K ((t, .bool false) :: l) Ms μ) : WL c ops (o :: rest) K l Ms μ := by
  by_cases h : p
  · exact WL.know hb (by simpa using h) (h2 h)
  · exact WL.know hb (by simpa using h) (h1 h)
theorem WL.splitB {t : Nat} {b : Bool} {rest : List Oper} (_hg : guardOf ops o = some t) (hb : look l t = some (.bool b))
    (h1 : b = true → WL c ops (o :: rest) K ((t, .bool true) :: l) Ms μ) (h2 : b = false → WL c ops (o :: rest) K ((t, .bool false) :: l) Ms μ) : WL c ops (o :: rest) K l Ms μ := by
  cases hbb : b
  · exact WL.know hb hbb (h2 hbb)
  · exact WL.know hb hbb (h1 hbb)

/-! ### Loops, the common kinds -/
/-- Memories and resources stay. -/
theorem W.loopC {σ : Type} {body : Code} (S : σ → List (Nat × Value)) (I : σ → Prop) (ms : σ → Nat) (s0 : σ) (hs : Has l (S s0)) (h0 : I s0)
    (round : ∀ s, I s → W c body (Kloop S (fun _ => Ms) (fun _ => μ) I ms s K) (S s) Ms μ) : W c (.loop body) K l Ms μ :=
  W.loop S (fun _ => Ms) (fun _ => μ) I ms s0 hs (fun _ h => h) (.refl _) h0 round
theorem Kloop.nextC {σ : Type} {S : σ → List (Nat × Value)} {I : σ → Prop} {ms : σ → Nat} {s : σ} {Ms' : List Mem} {μ' : List Res} {l' : List (Nat × Value)} (s' : σ) (h1 : I s') (h2 : ms s' < ms s) (h3 : Has l' (S s')) (h4 : ∀ m ∈ Ms, m ∈ Ms') (h5 : List.Sublist μ μ') (h6 : marksOf μ = marksOf μ' := by rfl) :
    Kloop S (fun _ => Ms) (fun _ => μ) I ms s K .normal l' Ms' μ' := Kloop.next s' h1 h2 h3 h4 h5 h6
/-- One resource turns. -/
theorem W.loopA {σ : Type} {body : Code} (S : σ → List (Nat × Value)) (r : σ → Res) (I : σ → Prop) (ms : σ → Nat) (s0 : σ) {r0 : Res} (hs : Has l (S s0)) (hr : r s0 = r0) (h0 : I s0)
    (round : ∀ s, I s → W c body (Kloop S (fun _ => Ms) (fun s => r s :: μ) I ms s K) (S s) Ms (r s :: μ)) : W c (.loop body) K l Ms (r0 :: μ) :=
  W.loop S (fun _ => Ms) (fun s => r s :: μ) I ms s0 hs (fun _ h => h) (by rw [hr]; exact .refl _) h0 round (by rw [hr])

/-! ### More arithmetic -/
variable {x y : Operand} {t ty : TypeId} {pos : String} {af : Array Edge} {gd : Option (Nat × Bool)} {dst : Option Tmp}
theorem OpVal.conv {src d : TypeId} {k k' ks : IntKind} {m : Int} [hs : TU P src (.int ks)] [hd : TU P d (.int k')] (hx : lk l x = some (.int k m)) (hw : k'.wrap m = m) : OpVal c ⟨dst, .convert src d x, ty, pos, af, gd⟩ l Ms μ (.int k' m) :=
  OpVal.of_runs (by simp) (by simp) fun a w hh => by
    simp [execOp, convert, hh.lk hx, run_underlying hs.u, run_underlying hd.u, Conv.intToInt, hw]
theorem wrap_u64 {m : Int} (h0 : 0 ≤ m) (h1 : m < 18446744073709551616) : IntKind.u64.wrap m = m := by simp [IntKind.wrap, IntKind.bits, IntKind.signed]; omega
theorem OpVal.rem {t' : TypeId} {a b : Int} (hx : lk l x = some (.int .i64 a)) (hy : lk l y = some (.int .i64 b)) (h0 : 0 ≤ a) (h1 : 0 < b) :
    OpVal c ⟨dst, .binOp .rem t x y t', ty, pos, af, gd⟩ l Ms μ (.int .i64 (a % b)) :=
  OpVal.of_runs (by simp) (by simp) fun a' w hh => by
    simp [execOp, hh.lk hx, hh.lk hy, eqGuard, binOp, Op.intDiv, show b ≠ 0 by omega, Int.tmod_eq_emod_of_nonneg h0]
theorem OpVal.quo {t' : TypeId} {a b : Int} (hx : lk l x = some (.int .i64 a)) (hy : lk l y = some (.int .i64 b)) (h0 : 0 ≤ a) (h1 : 0 < b) (h2 : a ≤ 9223372036854775807) :
    OpVal c ⟨dst, .binOp .quo t x y t', ty, pos, af, gd⟩ l Ms μ (.int .i64 (a / b)) :=
  OpVal.of_runs (by simp) (by simp) fun a' w hh => by
    have h3 : a / b ≤ a := Int.ediv_le_self b h0
    have h4 : 0 ≤ a / b := Int.ediv_nonneg h0 (by omega)
    simp [execOp, hh.lk hx, hh.lk hy, eqGuard, binOp, Op.intDiv, show b ≠ 0 by omega, Int.tdiv_eq_ediv_of_nonneg h0, i64_in (show -9223372036854775808 ≤ a / b by omega) (by omega)]
theorem OpVal.shl {t' : TypeId} {a : Int} {b : Nat} {k : IntKind} (hx : lk l x = some (.int .i64 a)) (hy : lk l y = some (.int k (b : Int))) (hb : b < 64) (h1 : -9223372036854775808 ≤ a * 2 ^ b) (h2 : a * 2 ^ b ≤ 9223372036854775807) :
    OpVal c ⟨dst, .binOp .shl t x y t', ty, pos, af, gd⟩ l Ms μ (.int .i64 (a * 2 ^ b)) :=
  OpVal.of_runs (by simp) (by simp) fun a' w hh => by
    have : min b IntKind.i64.bits = b := by simp [IntKind.bits]; omega
    have e : (Op.shift .shl .i64 a k (b : Int)) = pure (.int .i64 (a * 2 ^ b)) := by
      simp only [Op.shift, if_neg (show ¬ ((b : Int) < 0) by omega), Int.toNat_natCast, this, i64_in h1 h2]
    simp only [execOp, hh.lk hx, hh.lk hy, eqGuard, binOp, e]
    simp
theorem OpVal.shr {t' : TypeId} {a : Nat} {b : Nat} {k : IntKind} (hx : lk l x = some (.int .i64 (a : Int))) (hy : lk l y = some (.int k (b : Int))) (hb : b < 64) :
    OpVal c ⟨dst, .binOp .shr t x y t', ty, pos, af, gd⟩ l Ms μ (.int .i64 ((a / 2 ^ b : Nat) : Int)) :=
  OpVal.of_runs (by simp) (by simp) fun a' w hh => by
    have : min b IntKind.i64.bits = b := by simp [IntKind.bits]; omega
    have h2 : (0 : Int) ≤ 2 ^ b := Int.pow_nonneg (by decide)
    have e : (Op.shift .shr .i64 (a : Int) k (b : Int)) = pure (.int .i64 ((a / 2 ^ b : Nat) : Int)) := by
      simp only [Op.shift, if_neg (show ¬ ((b : Int) < 0) by omega), Int.toNat_natCast, this, Int.fdiv_eq_ediv_of_nonneg _ h2]
      congr 2
    simp only [execOp, hh.lk hx, hh.lk hy, eqGuard, binOp, e]
    simp
theorem bv_nat {a : Nat} (_ : a < 9223372036854775808) : (BitVec.ofInt 64 (a : Int)) = BitVec.ofNat 64 a := by
  apply BitVec.eq_of_toNat_eq; simp
theorem OpVal.bor {t' : TypeId} {a b : Nat} (hx : lk l x = some (.int .i64 (a : Int))) (hy : lk l y = some (.int .i64 (b : Int))) (ha : a < 9223372036854775808) (hb : b < 9223372036854775808) :
    OpVal c ⟨dst, .binOp .or t x y t', ty, pos, af, gd⟩ l Ms μ (.int .i64 ((a ||| b : Nat) : Int)) :=
  OpVal.of_runs (by simp) (by simp) fun a' w hh => by
    have hlt : a ||| b < 2 ^ 63 := Nat.or_lt_two_pow (by omega) (by omega)
    have e : ((BitVec.ofInt IntKind.i64.bits (a : Int) ||| BitVec.ofInt IntKind.i64.bits (b : Int)).toNat) = a ||| b := by
      show ((BitVec.ofInt 64 (a : Int) ||| BitVec.ofInt 64 (b : Int)).toNat) = _
      rw [bv_nat ha, bv_nat hb]
      simp
      rw [Nat.mod_eq_of_lt (by omega), Nat.mod_eq_of_lt (by omega)]
    simp only [execOp, hh.lk hx, hh.lk hy, eqGuard, binOp, Op.intBits, e]
    simp [i64_in (show -9223372036854775808 ≤ ((a ||| b : Nat) : Int) by omega) (by omega)]
theorem OpVal.band {t' : TypeId} {a b : Nat} (hx : lk l x = some (.int .i64 (a : Int))) (hy : lk l y = some (.int .i64 (b : Int))) (ha : a < 9223372036854775808) (hb : b < 9223372036854775808) :
    OpVal c ⟨dst, .binOp .and t x y t', ty, pos, af, gd⟩ l Ms μ (.int .i64 ((a &&& b : Nat) : Int)) :=
  OpVal.of_runs (by simp) (by simp) fun a' w hh => by
    have hlt : a &&& b < 2 ^ 63 := Nat.and_lt_two_pow _ (by omega)
    have e : ((BitVec.ofInt IntKind.i64.bits (a : Int) &&& BitVec.ofInt IntKind.i64.bits (b : Int)).toNat) = a &&& b := by
      show ((BitVec.ofInt 64 (a : Int) &&& BitVec.ofInt 64 (b : Int)).toNat) = _
      rw [bv_nat ha, bv_nat hb]
      simp
      rw [Nat.mod_eq_of_lt (by omega), Nat.mod_eq_of_lt (by omega)]
    simp only [execOp, hh.lk hx, hh.lk hy, eqGuard, binOp, Op.intBits, e]
    simp [i64_in (show -9223372036854775808 ≤ ((a &&& b : Nat) : Int) by omega) (by omega)]
theorem OpVal.bandNot {t' : TypeId} {a b : Nat} (hx : lk l x = some (.int .i64 (a : Int))) (hy : lk l y = some (.int .i64 (b : Int))) (ha : a < 9223372036854775808) (hb : b < 9223372036854775808) :
    OpVal c ⟨dst, .binOp .andNot t x y t', ty, pos, af, gd⟩ l Ms μ (.int .i64 ((a &&& (18446744073709551615 - b) : Nat) : Int)) :=
  OpVal.of_runs (by simp) (by simp) fun a' w hh => by
    have hlt : a &&& (18446744073709551615 - b) < 2 ^ 63 := Nat.lt_of_le_of_lt Nat.and_le_left (by omega)
    have e : ((BitVec.ofInt IntKind.i64.bits (a : Int) &&& ~~~ BitVec.ofInt IntKind.i64.bits (b : Int)).toNat) = a &&& (18446744073709551615 - b) := by
      show ((BitVec.ofInt 64 (a : Int) &&& ~~~ BitVec.ofInt 64 (b : Int)).toNat) = _
      rw [bv_nat ha, bv_nat hb]
      simp
      rw [Nat.mod_eq_of_lt (by omega), Nat.mod_eq_of_lt (by omega)]
    simp only [execOp, hh.lk hx, hh.lk hy, eqGuard, binOp, Op.intBits, e]
    simp [i64_in (show -9223372036854775808 ≤ ((a &&& (18446744073709551615 - b) : Nat) : Int) by omega) (by omega)]
theorem OpVal.max2 {t' : Array TypeId} {a b : Int} (hx : lk l x = some (.int .i64 a)) (hy : lk l y = some (.int .i64 b)) :
    OpVal c ⟨dst, .call ⟨.builtin .max, #[x, y], t'⟩, ty, pos, af, gd⟩ l Ms μ (.int .i64 (max a b)) :=
  OpVal.of_runs (by simp) (by simp) fun a' w hh => by
    simp only [execOp, resolve, invoke, builtin, Builtin.max_, List.map_toArray, List.map_cons, List.map_nil, hh.lk hx, hh.lk hy, Sem.run_bind, Sem.run_pure, Result.andThen_ok, List.foldlM_cons, List.foldlM_nil, Builtin.max2]
    have e : (if b > a then b else a) = max a b := by split <;> omega
    rw [e]
theorem OpVal.min2 {t' : Array TypeId} {a b : Int} (hx : lk l x = some (.int .i64 a)) (hy : lk l y = some (.int .i64 b)) :
    OpVal c ⟨dst, .call ⟨.builtin .min, #[x, y], t'⟩, ty, pos, af, gd⟩ l Ms μ (.int .i64 (min a b)) :=
  OpVal.of_runs (by simp) (by simp) fun a' w hh => by
    simp only [execOp, resolve, invoke, builtin, Builtin.min_, List.map_toArray, List.map_cons, List.map_nil, hh.lk hx, hh.lk hy, Sem.run_bind, Sem.run_pure, Result.andThen_ok, List.foldlM_cons, List.foldlM_nil, Builtin.min2]
    have e : (if b < a then b else a) = min a b := by split <;> omega
    rw [e]
end

open Go Go.RowKit

/-- One frame's places: the operation puts a value at its own. -/
theorem wpIn_eff {F : Fence} {nn : Nat} {P : Program} {o : Oper} {a : Act} {w : World} {K K' : Act → World → Prop} {Q Q' : Exit → Act → World → Prop}
    (hk : ∀ a' w' v, a'.tmps = (a.put o.dst v).tmps → K a' w' → K' a' w') (hq : ∀ e a w, Q e a w → e = .normal)
    (hh : o.wpIn F nn P a w K Q) : o.wpIn F nn P a w K' Q' := by
  unfold Oper.wpIn at *
  refine ⟨hh.1, ?_⟩
  have hh := hh.2
  have hpan : ∀ {X : Prop} (ch : _) (a : Act) (w : World), Q (.panic ch) a w → X := fun ch a w h => by have := hq _ _ _ h; cases this
  have hout : ∀ {X : Prop}, LetsOut Q → X := fun ⟨a, w, h⟩ => by have := hq _ _ _ h; cases this
  generalize (o.semAt F.round a.eval).run P w = r at *
  cases r with
  | ok x w' =>
    cases x <;> simp only [Oper.uponIn] at hh ⊢ <;>
      first
        | exact hk _ _ _ rfl hh
        | exact hk _ _ undef (by cases o.dst <;> rfl) hh
        | exact ⟨hh.1, CallsIn.mono hh.2 (fun e w'' he => by cases e <;> first | exact hk _ _ _ rfl he | exact hpan _ _ _ he | exact hout he)⟩
        | exact ⟨hh.1, RowsIn.mono hh.2 (fun _ _ he => hk _ _ _ rfl he)⟩
        | exact ⟨hh.1, RoundIn.mono hh.2 (fun e w'' he => by cases e <;> first | exact hk _ _ _ rfl he | exact hpan _ _ _ he | exact hout he)⟩
  | halt x w' => cases x <;> simp only [Oper.uponIn] at hh ⊢ <;> first | exact hpan _ _ _ hh | exact hh

section
variable {P : Program} {n : Nat} {c : Cx P n} {K : Post} {γ : Type} {l l0 : List (Nat × Value)} {l1 : γ → List (Nat × Value)} {Ms : List Mem} {μ μ0 : List Res} {μ1 : γ → List Res} {ops : Array Oper} {q : Nat}

/-- Of the operation that turns the state. -/
def EffOK (c : Cx P n) (ops : Array Oper) (l0 : List (Nat × Value)) (l1 : γ → List (Nat × Value)) (Ms : List Mem) (μ0 : List Res) (μ1 : γ → List Res) (env : List (Nat × Asr)) (o : Oper) : Prop :=
  ∀ (a : Act) (w : World), a.tmps.size = n → a.defers = marksOf μ0 ++ c.D → (∀ t v, look l0 t = some v → a.tmps.getD t undef = v) → MemOk c Ms μ0 w →
    (∀ p ∈ env, p.1 ∈ o.looksAt ops → EntOK c Ms μ0 p.2 (a.tmps.getD p.1 undef) w) → Region.wanted o (yielded ops a.tmps) = true ∧ ∀ X, MemOk c (X ++ Ms) μ0 w →
      o.wpIn (fd c.r) 0 P a w (fun a' w' => ∃ g, a'.tmps.size = n ∧ a'.defers = marksOf (μ1 g) ++ c.D ∧ (∀ t v, look (l1 g) t = some v → a'.tmps.getD t undef = v) ∧ MemOk c (X ++ Ms) (μ1 g) w') (fun e _ _ => e = .normal ∧ False)
def earlyB (ops : Array Oper) (q i : Nat) : Bool := match ops[q]? with
  | some oq => (edgesOf oq).contains i
  | none => false
def DList2 (c : Cx P n) (ops : Array Oper) (q : Nat) (l0 : List (Nat × Value)) (l1 : γ → List (Nat × Value)) (Ms : List Mem) (μ0 : List Res) (μ1 : γ → List Res) (fin : List (Nat × Asr) → Prop) : List Oper → Nat → List (Nat × Asr) → Prop
  | [], _, env => fin env
  | o :: todo, i, env => (i = q ∧ EffOK c ops l0 l1 Ms μ0 μ1 env o ∧ DList2 c ops q l0 l1 Ms μ0 μ1 fin todo (i + 1) ((n, fun _ _ => True) :: env)) ∨
    (i ≠ q ∧ ∃ d A, o.dst = some d ∧ d < n ∧ look l0 d = none ∧ (∀ g, look (l1 g) d = none) ∧ (q ∈ edgesOf o ∨ ObOK c ops l0 Ms μ0 env o A) ∧ (earlyB ops q i = true ∨ ∀ g, ObOK c ops (l1 g) Ms (μ1 g) env o A) ∧
      DList2 c ops q l0 l1 Ms μ0 μ1 fin todo (i + 1) ((d, A) :: env))
def Got2 (c : Cx P n) (ops : Array Oper) (q : Nat) (l0 : List (Nat × Value)) (l1 : γ → List (Nat × Value)) (Ms : List Mem) (μ0 : List Res) (μ1 : γ → List Res) (fin : List (Nat × Asr) → Prop) (todo : List Oper) (i0 : Nat) (env : List (Nat × Asr)) : Prop :=
    ∃ E : List (Nat × Asr), fin (E ++ env) ∧ E.length = todo.length ∧ ∀ (i : Nat) (o : Oper), todo[i]? = some o →
      (i0 + i = q ∧ E.reverse[i]? = some (n, fun _ _ => True) ∧ ∃ E', (∀ p ∈ E', p ∈ E ++ env) ∧ EffOK c ops l0 l1 Ms μ0 μ1 E' o) ∨
      (i0 + i ≠ q ∧ ∃ d A E', E.reverse[i]? = some (d, A) ∧ o.dst = some d ∧ d < n ∧ look l0 d = none ∧ (∀ g, look (l1 g) d = none) ∧ (∀ p ∈ E', p ∈ E ++ env) ∧ (q ∈ edgesOf o ∨ ObOK c ops l0 Ms μ0 E' o A) ∧ (earlyB ops q (i0 + i) = true ∨ ∀ g, ObOK c ops (l1 g) Ms (μ1 g) E' o A))
theorem Got2.cons {fin : List (Nat × Asr) → Prop} {o : Oper} {todo : List Oper} {i0 : Nat} {env : List (Nat × Asr)} {d : Nat} {A : Asr} (h : Got2 c ops q l0 l1 Ms μ0 μ1 fin todo (i0 + 1) ((d, A) :: env))
    (hd : (i0 = q ∧ (d, A) = (n, fun _ _ => True) ∧ EffOK c ops l0 l1 Ms μ0 μ1 env o) ∨ (i0 ≠ q ∧ o.dst = some d ∧ d < n ∧ look l0 d = none ∧ (∀ g, look (l1 g) d = none) ∧ (q ∈ edgesOf o ∨ ObOK c ops l0 Ms μ0 env o A) ∧ (earlyB ops q i0 = true ∨ ∀ g, ObOK c ops (l1 g) Ms (μ1 g) env o A))) :
    Got2 c ops q l0 l1 Ms μ0 μ1 fin (o :: todo) i0 env := by
  obtain ⟨E, h1, h2, h3⟩ := h
  refine ⟨E ++ [(d, A)], by simpa using h1, by simp [h2], fun i o' hi => ?_⟩
  cases i with
  | zero =>
    cases hi
    rcases hd with ⟨e, e2, he⟩ | ⟨e, k1, k2, k3, k4, k5, k6⟩
    · exact .inl ⟨e, by simp [e2], env, fun p hp => by simp [hp], he⟩
    · exact .inr ⟨e, d, A, env, by simp, k1, k2, k3, k4, fun p hp => by simp [hp], k5, k6⟩
  | succ i =>
    have e : i0 + (i + 1) = i0 + 1 + i := by omega
    rw [e]
    rcases h3 i o' (by simpa using hi) with ⟨k0, k1, E', k2, k3⟩ | ⟨k0, d', A', E', k1, k2, k3, k4, k5, k6, k7, k8⟩
    · exact .inl ⟨k0, by simpa using k1, E', fun p hp => by simpa using k2 p hp, k3⟩
    · exact .inr ⟨k0, d', A', E', by simpa using k1, k2, k3, k4, k5, fun p hp => by simpa using k6 p hp, k7, k8⟩
theorem DList2.all {fin : List (Nat × Asr) → Prop} : ∀ {todo : List Oper} {i0 : Nat} {env : List (Nat × Asr)}, DList2 c ops q l0 l1 Ms μ0 μ1 fin todo i0 env → Got2 c ops q l0 l1 Ms μ0 μ1 fin todo i0 env
  | [], i0, env, h => ⟨[], h, rfl, fun i o hi => by simp at hi⟩
  | o :: todo, i0, env, .inl ⟨e, he, h⟩ => (DList2.all h).cons (.inl ⟨e, rfl, he⟩)
  | o :: todo, i0, env, .inr ⟨e, d, A, k1, k2, k3, k4, k5, k6, h⟩ => (DList2.all h).cons (.inr ⟨e, k1, k2, k3, k4, k5, k6⟩)

/-- As parB; operation q may turn the state. -/
def parB2 (ops : Array Oper) (s q : Nat) : Bool :=
  let l := ops.toList
  decide (s ≤ l.length) && decide (q < s) &&
  (l.take s).zipIdx.all (fun p => decide (p.2 = q) || p.1.dst.isSome) &&
  (l.take s).zipIdx.all (fun p => (l.take s).zipIdx.all (fun r => decide (p.2 = r.2) || decide (r.2 = q) || (p.1.dst != r.1.dst))) &&
  l.zipIdx.all (fun p => (edgesOf p.1).all (fun e => decide (e < p.2))) &&
  (l.take s).all (fun o => (l.take s).zipIdx.all (fun r => match r.1.dst with
    | some d => decide (r.2 = q) || !(o.looksAt ops).contains d || (edgesOf o).contains r.2
    | none => true))

structure ParInv2 (c : Cx P n) (ops : Array Oper) (s q : Nat) (E : List (Nat × Asr)) (l0 l1 : List (Nat × Value)) (Ms : List Mem) (μ0 μ1 : List Res) (listed : Array Bool) (a : Act) (w : World) : Prop where
  head : HeadInv .any ops s listed
  size : a.tmps.size = n
  defers : a.defers = marksOf (if listed.getD q false then μ1 else μ0) ++ c.D
  mem : MemOk c Ms (if listed.getD q false then μ1 else μ0) w
  outer : ∀ t v, look (if listed.getD q false then l1 else l0) t = some v → a.tmps.getD t undef = v
  ents : ∀ (i : Nat) (d : Nat) (A : Asr), i ≠ q → E.reverse[i]? = some (d, A) → listed.getD i false = true → EntOK c Ms (if listed.getD q false then μ1 else μ0) A (a.tmps.getD d undef) w

theorem MemOk.union {w : World} {X Y Z : List Mem} (h1 : MemOk c X μ w) (h2 : MemOk c Y μ w) (hz : ∀ m ∈ Z, m ∈ X ∨ m ∈ Y) : MemOk c Z μ w :=
  ⟨fun m hm => (hz m hm).elim (h1.sub m) (h2.sub m), fun m hm => (hz m hm).elim (h1.fresh m) (h2.fresh m), h1.kept, h1.res, h1.nodup, fun b hb => ⟨(h1.own b hb).1, fun m hm => (hz m hm).elim ((h1.own b hb).2 m) ((h2.own b hb).2 m)⟩⟩
theorem collect {a : Act} {w : World} (hm : MemOk c Ms μ w) (E : List (Nat × Asr)) : ∃ X, MemOk c (X ++ Ms) μ w ∧ ∀ p ∈ E, EntOK c Ms μ p.2 (a.tmps.getD p.1 undef) w → ∃ mr ∈ X, p.2 mr (a.tmps.getD p.1 undef) := by
  induction E with
  | nil => exact ⟨[], hm, fun p hp => by cases hp⟩
  | cons p E ih =>
    obtain ⟨X, h1, h2⟩ := ih
    by_cases hp : EntOK c Ms μ p.2 (a.tmps.getD p.1 undef) w
    · obtain ⟨mr, k1, k2⟩ := hp
      refine ⟨mr :: X, h1.union k1 (fun m hm => ?_), fun r hr hre => ?_⟩
      · rcases List.mem_cons.1 hm with rfl | hm
        · exact .inr (.head _)
        · exact .inl hm
      · rcases List.mem_cons.1 hr with rfl | hr
        · exact ⟨mr, .head _, k2⟩
        · obtain ⟨m, hm, hA⟩ := h2 r hr hre
          exact ⟨m, .tail _ hm, hA⟩
    · refine ⟨X, h1, fun r hr hre => ?_⟩
      rcases List.mem_cons.1 hr with rfl | hr
      · exact absurd hre hp
      · exact h2 r hr hre

theorem W.par2 [Inhabited γ] {id : Nat} {ol : List Oper} (s q : Nat) (hm : P.follows .mixedOrders = true) (hp : parB2 ol.toArray s q = true) (ht : tailB ol.toArray s = true)
    (h : DList2 c ol.toArray q l0 l1 Ms μ0 μ1 (fun env => ∀ g, Dfin c ol.toArray (l1 g) Ms (μ1 g) (ol.drop s) K env) (ol.take s) 0 []) : W c (.region id ol.toArray true) K l0 Ms μ0 := fun a w hh => by
  obtain ⟨E, hfin, hlen, hob⟩ := DList2.all h
  rw [List.append_nil] at hfin
  simp only [Nat.zero_add, List.append_nil] at hob
  simp only [parB2, Bool.and_eq_true, decide_eq_true_eq, List.all_eq_true] at hp
  obtain ⟨⟨⟨⟨⟨hs, hqs⟩, hdst⟩, hnd⟩, hedge⟩, hlook⟩ := hp
  simp only [tailB, Bool.and_eq_true, Bool.or_eq_true, decide_eq_true_eq] at ht
  obtain ⟨htail, hseq⟩ := ht
  have hs' : s ≤ ol.length := hs
  have hlen' : E.length = s := by rw [hlen, List.length_take]; omega
  have htake : ∀ (i : Nat), i < s → ∀ (o : Oper), ol[i]? = some o → (ol.take s)[i]? = some o := fun i hi o ho => by rw [List.getElem?_take, if_pos hi]; exact ho
  have hops : ∀ (i : Nat) (o : Oper), ol.toArray[i]? = some o → ol[i]? = some o := fun i o ho => by rw [List.getElem?_toArray] at ho; exact ho
  have hdist : ∀ (i j : Nat) (oi oj : Oper) (d : Nat), i < s → j < s → j ≠ q → ol[i]? = some oi → ol[j]? = some oj → oi.dst = some d → oj.dst = some d → i = j := by
    intro i j oi oj d hi hj hjq hoi hoj hdi hdj
    have h1 := hnd (oi, i) (List.mk_mem_zipIdx_iff_getElem?.2 (htake i hi oi hoi)) (oj, j) (List.mk_mem_zipIdx_iff_getElem?.2 (htake j hj oj hoj))
    simp only [Bool.or_eq_true, decide_eq_true_eq, bne_iff_ne] at h1
    rcases h1 with (h1 | h1) | h1
    · exact h1
    · exact absurd h1 hjq
    · exact absurd (hdi.trans hdj.symm) h1
  have hwait : ∀ (i j : Nat) (oi oj : Oper) (d : Nat), i < s → j < s → j ≠ q → ol[i]? = some oi → ol[j]? = some oj → oj.dst = some d → d ∈ oi.looksAt ol.toArray → j ∈ edgesOf oi := by
    intro i j oi oj d hi hj hjq hoi hoj hdj hd
    have h1 := hlook oi (List.mem_of_getElem? (htake i hi oi hoi)) (oj, j) (List.mk_mem_zipIdx_iff_getElem?.2 (htake j hj oj hoj))
    simp only [hdj, Bool.or_eq_true, Bool.not_eq_true', List.contains_eq_mem, decide_eq_false_iff_not, decide_eq_true_eq] at h1
    rcases h1 with (h1 | h1) | h1
    · exact absurd h1 hjq
    · exact absurd hd h1
    · exact h1
  have hback : ∀ (i : Nat) (oi : Oper), ol[i]? = some oi → ∀ e ∈ oi.after, Region.binds .any e = true → e.on < i := by
    intro i oi hoi e he hb
    have h1 := hedge (oi, i) (List.mk_mem_zipIdx_iff_getElem?.2 hoi) e.on (mem_edges he hb)
    simpa using h1
  refine wpIn_region_any hm ?_
  have hlistOf : ∀ (listed : Array Bool) (a : Act) (w : World) (g : γ), ParInv2 c ol.toArray s q E l0 (l1 g) Ms μ0 (μ1 g) listed a w → (∀ i, i < s → listed.getD i false = true) → listed = Array.replicate s true ++ Array.replicate (ol.toArray.size - s) false := by
    intro listed a w g inv hall
    have hsz : listed.size = ol.length := by simpa using inv.head.size
    apply Array.ext
    · simp [hsz]; omega
    · intro i h1 h2
      rcases Nat.lt_or_ge i s with hi | hi
      · have := hall i hi
        simp [h1] at this
        rw [this, Array.getElem_append_left (by simpa using hi)]
        simp
      · have := inv.head.tail i hi (by simpa [hsz] using h1)
        simp [h1] at this
        rw [this, Array.getElem_append_right (by simpa using hi)]
        simp
  have fin : ∀ (listed : Array Bool) (a : Act) (w : World) (g : γ), ParInv2 c ol.toArray s q E l0 (l1 g) Ms μ0 (μ1 g) listed a w → (∀ i, i < s → listed.getD i false = true) → wpAnyIn (fd c.r) 0 P .any ol.toArray (post c K) (ol.toArray.size - s) listed a w := by
    intro listed a w g inv hall
    have hq1 := hall q hqs
    have hmem := inv.mem
    have hout := inv.outer
    have hents := inv.ents
    have hdef := inv.defers
    simp only [hq1, if_true] at hmem hout hents hdef
    have hh : Holds c (l1 g) Ms (μ1 g) a w := ⟨inv.size, hdef, hout, hmem⟩
    have hk := hfin g a w hh (fun p hp => by
      obtain ⟨i, hi, hpi⟩ := List.mem_iff_getElem.1 (List.mem_reverse.2 hp)
      by_cases hiq : i = q
      · subst hiq
        have hoi : ol[i]? = some (ol[i]'(by omega)) := List.getElem?_eq_getElem (by omega)
        rcases hob i _ (htake i hqs _ hoi) with ⟨_, h1, _⟩ | ⟨h0, _⟩
        · rw [List.getElem?_eq_getElem hi, hpi] at h1
          cases h1
          exact ⟨_, hmem.empty, trivial⟩
        · exact absurd rfl h0
      · exact hents i p.1 p.2 hiq (by rw [List.getElem?_eq_getElem hi, hpi]) (hall i (by simpa [hlen'] using hi)))
    have hlist := hlistOf listed a w g inv hall
    have hd : (ol.drop s).length = ol.toArray.size - s := by simp
    rw [← hd]
    refine wpAnyIn_of_seq (ol.drop s) s listed a w (fun j => by rw [List.getElem?_drop, List.getElem?_toArray]) ?_ hk
    rw [hd, hlist]
    exact hseq
  have key : ∀ (fuel : Nat) (listed : Array Bool) (a : Act) (w : World) (g : γ), ParInv2 c ol.toArray s q E l0 (l1 g) Ms μ0 (μ1 g) listed a w → unlisted listed = fuel → wpAnyIn (fd c.r) 0 P .any ol.toArray (post c K) fuel listed a w := by
    intro fuel
    induction fuel with
    | zero =>
      intro listed a w g inv hf
      have hsz : listed.size = ol.length := by simpa using inv.head.size
      have hall : ∀ i, i < listed.size → listed.getD i true = true := fun i hi => unlisted_zero hf hi
      have hse : s = ol.length := by
        rcases Nat.lt_or_ge s ol.length with h1 | h1
        · have h2 := inv.head.tail s (Nat.le_refl _) (by simpa using h1)
          rw [hall s (by omega)] at h2; cases h2
        · omega
      have := fin listed a w g inv (fun i hi => by
        have h2 := hall i (by omega)
        have h3 : i < listed.size := by omega
        simp [h3] at h2 ⊢; exact h2)
      have h0 : ol.toArray.size - s = 0 := by simp; omega
      rw [h0] at this
      exact this
    | succ fuel ih =>
      intro listed a w g inv hf
      have hsz : listed.size = ol.length := by simpa using inv.head.size
      by_cases hall : ∀ i, i < s → listed.getD i false = true
      · have h1 := fin listed a w g inv hall
        have hcnt : fuel + 1 = ol.toArray.size - s := by
          rw [← hf, hlistOf listed a w g inv hall]
          simp [unlisted, List.countP_append, List.countP_replicate]
        rw [hcnt]
        exact h1
      · obtain ⟨i0, hi0⟩ := Classical.not_forall.1 hall
        obtain ⟨hi0s, hi0f⟩ := Classical.not_imp.1 hi0
        have hun0 : listed.getD i0 true = false := getD_false_of (by omega) hi0f
        refine ⟨fun hnil => ?_, fun i hi => ?_⟩
        · exfalso
          have least : ∀ (j : Nat), j < ol.length → listed.getD j true = false → False := by
            intro j
            induction j using Nat.strongRecOn with
            | _ j ihj =>
              intro hj hjf
              have hoj : ol[j]? = some ol[j] := List.getElem?_eq_getElem hj
              have hr : j ∈ Region.ready .any ol.toArray listed := by
                refine mem_ready.2 ⟨hjf, ol[j], by rw [List.getElem?_toArray]; exact hoj, fun e he hb => ?_⟩
                have hlt := hback j _ hoj e he hb
                cases hx : listed.getD e.on false with
                | true => rfl
                | false => exact (ihj e.on hlt (by omega) (getD_in (by omega) hx)).elim
              rw [hnil] at hr; cases hr
          exact least i0 (by omega) hun0
        · have his : i < s := by
            rcases Nat.lt_or_ge i s with h1 | h1
            · exact h1
            · exfalso
              rcases htail with h2 | ⟨⟨h2, h3⟩, h4⟩
              · obtain ⟨_, o, ho, _⟩ := mem_ready.1 hi
                have := (Array.getElem?_eq_some_iff.1 ho).1
                omega
              · exact tail_waits h3 h4 h2 inv.head _ i0 rfl hi0s hun0 i h1 hi
          obtain ⟨hif, o, ho, hready⟩ := mem_ready.1 hi
          have ho' := hops i o ho
          have hil : i < listed.size := by omega
          have hlooks : ∀ j oj d', j < s → j ≠ q → ol[j]? = some oj → oj.dst = some d' → d' ∈ o.looksAt ol.toArray → listed.getD j false = true := by
            intro j oj d' hj hjq hoj hdj hd'
            obtain ⟨e, he, hb, rfl⟩ := of_edges (hwait i j o oj d' his hj hjq ho' hoj hdj hd')
            exact hready e he hb
          have hside : ∀ p ∈ E, p.1 ∈ o.looksAt ol.toArray → EntOK c Ms (if listed.getD q false then μ1 g else μ0) p.2 (a.tmps.getD p.1 undef) w := fun p hpE hpl => by
            obtain ⟨j, hj, hpj⟩ := List.mem_iff_getElem.1 (List.mem_reverse.2 hpE)
            have hjs : j < s := by simpa [hlen'] using hj
            have hoj : ol[j]? = some (ol[j]'(by omega)) := List.getElem?_eq_getElem (by omega)
            rcases hob j _ (htake j hjs _ hoj) with ⟨_, hE', _⟩ | ⟨hjq, d', A', _, hE', hd', _⟩
            · rw [List.getElem?_eq_getElem hj, hpj] at hE'
              cases hE'
              exact ⟨_, inv.mem.empty, trivial⟩
            · rw [List.getElem?_eq_getElem hj, hpj] at hE'
              cases hE'
              exact inv.ents j _ _ hjq (by rw [List.getElem?_eq_getElem hj, hpj]) (hlooks j _ _ hjs hjq hoj hd' hpl)
          rcases hob i o (htake i his o ho') with ⟨rfl, hE, E', hsub, heff⟩ | ⟨hiq, d, A, E', hE, hd, hdn, hld0, hld1, hsub, hok0, hok1⟩
          · -- the one that turns the state
            have hq0 : listed.getD i false = false := by
              cases hx : listed.getD i false with
              | false => rfl
              | true => have := (getD_of_true hx).2; rw [hif] at this; cases this
            have hmem := inv.mem
            have hout := inv.outer
            have hents := inv.ents
            have hdef := inv.defers
            simp only [hq0, Bool.false_eq_true, if_false] at hmem hout hside hents hdef
            obtain ⟨hw, hrun⟩ := heff a w inv.size hdef hout hmem (fun p hp hpl => hside p (hsub p hp) hpl)
            obtain ⟨X, hX, hXE⟩ := collect (a := a) hmem E
            unfold wpOpIn
            simp only [ho]
            rw [if_pos hw]
            refine wpIn_eff (fun a' w' v htm ⟨g', h1, h2, h3, h4⟩ => ?_) (fun _ _ _ h => h.1) (hrun X hX)
            have hl1 : (listed.setIfInBounds i true).getD i false = true := by simp [hil]
            have hsub1 : ∀ mr ∈ X, MemOk c (mr :: Ms) (μ1 g') w' := fun mr hmr => h4.union h4 (fun m hm => .inl (by
              rcases List.mem_cons.1 hm with rfl | hm
              · exact List.mem_append_left _ hmr
              · exact List.mem_append_right _ hm))
            refine ih _ _ _ g' ⟨inv.head.set hi his, h1, by rw [if_pos hl1]; exact h2, ?_, ?_, fun j d' A' hjq hj hl => ?_⟩ (by have := unlisted_set hif; omega)
            · rw [if_pos hl1]; exact h4.union h4 (fun m hm => .inl (List.mem_append_right _ hm))
            · rw [if_pos hl1]; exact h3
            · rw [if_pos hl1]
              have hlj : listed.getD j false = true := by rw [getD_set_ne false (Ne.symm hjq)] at hl; exact hl
              obtain ⟨mr, hmr, hA⟩ := hXE (d', A') (List.mem_reverse.1 (List.mem_of_getElem? hj)) (hents j d' A' hjq hj hlj)
              have hjs : j < s := by
                have := (List.getElem?_eq_some_iff.1 hj).1
                simpa [hlen'] using this
              have hoj : ol[j]? = some (ol[j]'(by omega)) := List.getElem?_eq_getElem (by omega)
              rcases hob j _ (htake j hjs _ hoj) with ⟨e, _⟩ | ⟨_, d2, A2, _, hE2, hd2, _⟩
              · exact absurd e hjq
              · rw [hj] at hE2
                cases hE2
                have : a'.tmps.getD d' undef = a.tmps.getD d' undef := by
                  rw [htm]
                  cases hdst' : o.dst with
                  | none => rfl
                  | some d =>
                    have hne : d ≠ d' := fun e => hjq (hdist i j o _ d' his hjs hjq ho' hoj (e ▸ hdst') hd2).symm
                    simp only [Act.put, Array.getD_eq_getD_getElem?, Array.getElem?_setIfInBounds_ne hne]
                rw [this]
                exact ⟨mr, hsub1 mr hmr, hA⟩
          · have hph : (if listed.getD q false then ObOK c ol.toArray (l1 g) Ms (μ1 g) E' o A else ObOK c ol.toArray l0 Ms μ0 E' o A) := by
              cases hx : listed.getD q false with
              | false =>
                simp only [Bool.false_eq_true, if_false]
                rcases hok0 with h1 | h1
                · obtain ⟨e, he, hb, rfl⟩ := of_edges h1
                  have := hready e he hb
                  rw [hx] at this; cases this
                · exact h1
              | true =>
                simp only [if_true]
                rcases hok1 with h1 | h1
                · exfalso
                  unfold earlyB at h1
                  split at h1
                  · rename_i oq hoq
                    obtain ⟨e, he, hb, rfl⟩ := of_edges (by simpa using h1)
                    have := inv.head.closed q oq hoq hx e he hb
                    have := (getD_of_true this).2
                    rw [hif] at this; cases this
                  · cases h1
                · exact h1 g
            have hmem := inv.mem
            have hout := inv.outer
            have hents := inv.ents
            have hqi : (listed.setIfInBounds i true).getD q false = listed.getD q false := by rw [getD_set_ne false hiq]
            refine wpOpIn_of (R := fun u w' => Ext w w' ∧ EntOK c Ms (if listed.getD q false then μ1 g else μ0) A u w') ho ?_ ?_
            · have hph' : ObOK c ol.toArray (if listed.getD q false then l1 g else l0) Ms (if listed.getD q false then μ1 g else μ0) E' o A := by
                cases hx : listed.getD q false <;> simpa [hx] using hph
              rcases hph' a w inv.size inv.defers hmem (fun t _ v hv => hout t v hv) (fun p hp hpl => hside p (hsub p hp) hpl) with ⟨h1, h2⟩ | ⟨h1, h2⟩
              · exact .inl ⟨h1, h2⟩
              · exact .inr ⟨h1, Kp.refl _ w, h2⟩
            · rintro u w' ⟨hx, hu⟩
              refine ih _ _ _ g ⟨inv.head.set hi his, by simp [Act.put, hd, inv.size], by rw [hqi]; simp only [Act.put, hd]; exact inv.defers, ?_, fun t v hv => ?_, fun j d' A' hjq hj hl => ?_⟩ (by have := unlisted_set hif; omega)
              · rw [hqi]; exact hmem.ext hx
              · rw [hqi] at hv
                have hne : d ≠ t := fun e => by
                  subst e
                  cases hx : listed.getD q false <;> simp [hx] at hv
                  · rw [hld0] at hv; cases hv
                  · rw [hld1 g] at hv; cases hv
                have := hout t v hv
                simp only [Act.put, hd, Array.getD_eq_getD_getElem?, Array.getElem?_setIfInBounds_ne hne] at this ⊢
                exact this
              · rw [hqi]
                by_cases hji : j = i
                · subst hji
                  rw [hE] at hj
                  cases hj
                  have : (a.put o.dst u).tmps.getD d undef = u := by simp [Act.put, hd, inv.size, hdn]
                  rw [this]; exact hu
                · have hlj : listed.getD j false = true := by rw [getD_set_ne false (Ne.symm hji)] at hl; exact hl
                  have hjs : j < s := by
                    have := (List.getElem?_eq_some_iff.1 hj).1
                    simpa [hlen'] using this
                  have hoj : ol[j]? = some (ol[j]'(by omega)) := List.getElem?_eq_getElem (by omega)
                  rcases hob j _ (htake j hjs _ hoj) with ⟨e, _⟩ | ⟨_, d2, A2, _, hE2, hd2, _⟩
                  · exact absurd e hjq
                  · rw [hj] at hE2
                    cases hE2
                    have hne : d ≠ d' := fun e => hji (hdist j i _ o d hjs his hiq hoj ho' (e ▸ hd2) hd)
                    have h1 := (hents j d' A' hjq hj hlj).ext hx
                    have : (a.put o.dst u).tmps.getD d' undef = a.tmps.getD d' undef := by
                      simp only [Act.put, hd, Array.getD_eq_getD_getElem?, Array.getElem?_setIfInBounds_ne hne]
                    rw [this]; exact h1
  have hrep : (Array.replicate ol.toArray.size false).getD q false = false := getD_replicate_false _ _
  refine key _ _ a _ default ⟨⟨by simp, fun j oj _ hl => (by rw [getD_replicate_false] at hl; cases hl), fun t _ ht => getD_in (by simpa using ht) (getD_replicate_false _ _)⟩, hh.size, by rw [hrep]; exact hh.defers, by rw [hrep]; exact hh.mem.ext (Ext.draw w), by rw [hrep]; exact hh.slots, fun i d A _ _ hl => (by rw [getD_replicate_false] at hl; cases hl)⟩ (by simp [unlisted, List.countP_replicate])

/-! ### The rules -/
theorem look_append {E l : List (Nat × Value)} {t : Nat} {v : Value} (h : look (E ++ l) t = some v) : look E t = some v ∨ look l t = some v := by
  induction E with
  | nil => exact .inr h
  | cons p E ih =>
    obtain ⟨i, u⟩ := p
    simp only [List.cons_append, look] at h ⊢
    split at h
    · exact .inl h
    · exact ih h

theorem ObOK.ofOpen {A : Asr} {o : Oper} (G : List (Nat × Asr)) {L : List (Nat × Value)} {env : List (Nat × Asr)}
    (hv : OpenE (fun l' Ms' => ∀ a' w, Holds c l' Ms' μ a' w → Yields P o a'.eval w fun u w' => Ext w w' ∧ ∃ mr, MemOk c (mr :: Ms') μ w' ∧ A mr u) G L Ms) (hw : want ops L o = some true)
    (hG : ∀ p ∈ G, p ∈ env ∧ p.1 ∈ o.looksAt ops ∧ p.1 < n) (hL : ∀ t v, look L t = some v → t < n ∧ (look l t = some v ∨ (t, fun _ u => u = v) ∈ env)) : ObOK c ops l Ms μ env o A := by
  intro a w hsz hD hm hout hents
  have hslots : ∀ t ∈ o.looksAt ops, ∀ v, look L t = some v → a.tmps.getD t undef = v := fun t ht v hv => by
    rcases (hL t v hv).2 with h1 | h1
    · exact hout t ht v h1
    · obtain ⟨mr, _, h2⟩ := hents _ h1 ht; exact h2
  have hkL : ∀ t v, look L t = some v → t < n := fun t v hv => (hL t v hv).1
  obtain ⟨L', Ms2, k1, k2, k3, a', k4, k5⟩ := open_fill (o.looksAt ops) hv (fun _ h => h) hsz hD hm hkL hslots (fun p hp => ⟨(hG p hp).2.1, (hG p hp).2.2, hents p (hG p hp).1 (hG p hp).2.1⟩)
  refine .inl ⟨?_, ((k1 a' w k4).congr (eval_congr k5)).mono fun u w' ⟨hx, mr, h1, hA⟩ => ⟨hx, mr, h1.union h1 (fun m hm => .inl ?_), hA⟩⟩
  · obtain ⟨a2, h1, h2⟩ := fill hsz hD hm hkL (o.looksAt ops) hslots
    rw [← wanted_congr (hsz.trans h1.size.symm) h2]
    exact want_spec h1 hw
  · rcases List.mem_cons.1 hm with rfl | hm
    · exact .head _
    · exact .tail _ (k2 m hm)
theorem ObOK.passOf {o : Oper} {L : List (Nat × Value)} {env : List (Nat × Asr)} (hw : want ops L o = some false)
    (hL : ∀ t v, look L t = some v → t < n ∧ (look l t = some v ∨ (t, fun _ u => u = v) ∈ env)) : ObOK c ops l Ms μ env o (fun _ u => u = undef) := by
  intro a w hsz hD hm hout hents
  have hslots : ∀ t ∈ o.looksAt ops, ∀ v, look L t = some v → a.tmps.getD t undef = v := fun t ht v hv => by
    rcases (hL t v hv).2 with h1 | h1
    · exact hout t ht v h1
    · obtain ⟨mr, _, h2⟩ := hents _ h1 ht; exact h2
  obtain ⟨a2, h1, h2⟩ := fill hsz hD hm (fun t v hv => (hL t v hv).1) (o.looksAt ops) hslots
  refine .inr ⟨?_, _, hm.empty, rfl⟩
  rw [← wanted_congr (hsz.trans h1.size.symm) h2]
  exact want_spec h1 hw
theorem OpenE.imp {k k' : List (Nat × Value) → List Mem → Prop} (h : ∀ l Ms, k l Ms → k' l Ms) : ∀ {G : List (Nat × Asr)} {l : List (Nat × Value)} {Ms : List Mem}, OpenE k G l Ms → OpenE k' G l Ms
  | [], _, _, hk => h _ _ hk
  | _ :: _, _, _, hk => fun mr u hA => OpenE.imp h (hk mr u hA)

def DJ2 (c : Cx P n) (ops : Array Oper) (q : Nat) (l0 : List (Nat × Value)) (l1 : γ → List (Nat × Value)) (Ms : List Mem) (μ0 : List Res) (μ1 : γ → List Res) (tail : List Oper) (K : Post) (todo : List Oper) (i : Nat) (E : List (Nat × Value)) (Γ : List (Nat × Asr)) : Prop :=
  ∀ env : List (Nat × Asr), (∀ p ∈ Γ, p ∈ env ∧ p.1 < n) → (∀ t v, look E t = some v → (t, fun _ u => u = v) ∈ env ∧ t < n) → keysB l0 n = true → (∀ g, keysB (l1 g) n = true) →
    DList2 c ops q l0 l1 Ms μ0 μ1 (fun env => ∀ g, Dfin c ops (l1 g) Ms (μ1 g) tail K env) todo i env
theorem W.draw2 [Inhabited γ] {id : Nat} {ol : List Oper} (s q : Nat) (l1 : γ → List (Nat × Value)) (μ1 : γ → List Res) (hm : P.follows .mixedOrders = true) (hp : parB2 ol.toArray s q = true) (ht : tailB ol.toArray s = true) (hk0 : keysB l0 n = true) (hk1 : ∀ g, keysB (l1 g) n = true)
    (h : DJ2 c ol.toArray q l0 l1 Ms μ0 μ1 (ol.drop s) K (ol.take s) 0 [] []) : W c (.region id ol.toArray true) K l0 Ms μ0 :=
  W.par2 s q hm hp ht (h [] (fun _ h => by cases h) (fun _ _ h => by cases h) hk0 hk1)

/-- The slots stay. -/
theorem W.draw2s {id : Nat} {ol : List Oper} (s q : Nat) (μ1 : List Res) (hm : P.follows .mixedOrders = true) (hp : parB2 ol.toArray s q = true) (ht : tailB ol.toArray s = true) (hk0 : keysB l0 n = true)
    (h : DJ2 (γ := Unit) c ol.toArray q l0 (fun _ => l0) Ms μ0 (fun _ => μ1) (ol.drop s) K (ol.take s) 0 [] []) : W c (.region id ol.toArray true) K l0 Ms μ0 := W.draw2 s q _ _ hm hp ht hk0 (fun _ => hk0) h
/-- One slot is set; what is not known beforehand is a ghost. -/
theorem W.draw2g [Inhabited γ] {id : Nat} {ol : List Oper} (s q : Nat) (t : Nat) (f : γ → Value) (μ1 : γ → List Res) (hm : P.follows .mixedOrders = true) (hp : parB2 ol.toArray s q = true) (ht : tailB ol.toArray s = true) (hk0 : keysB l0 n = true) (hk1 : Nat.blt t n = true)
    (h : DJ2 c ol.toArray q l0 (fun g => (t, f g) :: l0) Ms μ0 μ1 (ol.drop s) K (ol.take s) 0 [] []) : W c (.region id ol.toArray true) K l0 Ms μ0 := W.draw2 s q _ _ hm hp ht hk0 (fun _ => by unfold keysB at *; simp [hk1, hk0]) h

variable {o : Oper} {E : List (Nat × Value)} {Γ : List (Nat × Asr)} {todo tail : List Oper} {i : Nat}
theorem DJ2.step {A : Asr} {d : Nat} (hiq : Nat.beq i q = false) (hd : o.dst = some d) (hn : Nat.blt d n = true) (hl0 : look l0 d = none) (hl1 : ∀ g, look (l1 g) d = none)
    (hob : ∀ env, (∀ p ∈ Γ, p ∈ env ∧ p.1 < n) → (∀ t v, look E t = some v → (t, fun _ u => u = v) ∈ env ∧ t < n) → keysB l0 n = true → (∀ g, keysB (l1 g) n = true) →
      (q ∈ edgesOf o ∨ ObOK c ops l0 Ms μ0 env o A) ∧ (earlyB ops q i = true ∨ ∀ g, ObOK c ops (l1 g) Ms (μ1 g) env o A))
    {E' : List (Nat × Value)} {Γ' : List (Nat × Asr)} (hE : ∀ t v, look E' t = some v → look E t = some v ∨ (t, A) = (d, fun _ u => u = v)) (hΓ : ∀ p ∈ Γ', p ∈ Γ ∨ p = (d, A))
    (h : DJ2 c ops q l0 l1 Ms μ0 μ1 tail K todo (i + 1) E' Γ') : DJ2 c ops q l0 l1 Ms μ0 μ1 tail K (o :: todo) i E Γ := fun env hΓe hEe hk0 hk1 => by
  have hob' := hob env hΓe hEe hk0 hk1
  refine .inr ⟨fun e => by subst e; simp at hiq, d, A, hd, Nat.lt_of_blt hn, hl0, hl1, hob'.1, hob'.2, h _ (fun p hp => ?_) (fun t v ht => ?_) hk0 hk1⟩
  · rcases hΓ p hp with h1 | rfl
    · exact ⟨.tail _ (hΓe p h1).1, (hΓe p h1).2⟩
    · exact ⟨.head _, Nat.lt_of_blt hn⟩
  · rcases hE t v ht with h1 | h1
    · exact ⟨.tail _ (hEe t v h1).1, (hEe t v h1).2⟩
    · cases h1; exact ⟨.head _, Nat.lt_of_blt hn⟩
theorem known {env : List (Nat × Asr)} (hk : keysB l n = true) (hEe : ∀ t v, look E t = some v → (t, fun _ u => u = v) ∈ env ∧ t < n) : ∀ t v, look (E ++ l) t = some v → t < n ∧ (look l t = some v ∨ (t, fun _ u => u = v) ∈ env) := fun t v ht => by
  rcases look_append ht with h | h
  · exact ⟨(hEe t v h).2, .inr (hEe t v h).1⟩
  · exact ⟨keysB_spec hk t v h, .inl h⟩
theorem DJ2.val (G : List (Nat × Asr)) {v : Value} {d : Nat} (hv0 : (edgesOf o).contains q = true ∨ OpenE (fun l Ms => OpVal c o l Ms μ0 v) G (E ++ l0) Ms) (hv1 : earlyB ops q i = true ∨ ∀ g, OpenE (fun l Ms => OpVal c o l Ms (μ1 g) v) G (E ++ l1 g) Ms)
    (hw0 : want ops (E ++ l0) o = some true) (hw1 : ∀ g, want ops (E ++ l1 g) o = some true) (hd : o.dst = some d) (hn : Nat.blt d n = true) (hl0 : look l0 d = none) (hl1 : ∀ g, look (l1 g) d = none) (hiq : Nat.beq i q = false)
    (h : DJ2 c ops q l0 l1 Ms μ0 μ1 tail K todo (i + 1) ((d, v) :: E) Γ) (hG : GOk ops o Γ G := by exact trivial) : DJ2 c ops q l0 l1 Ms μ0 μ1 tail K (o :: todo) i E Γ := by
  have lift : ∀ {μ : List Res} {l : List (Nat × Value)}, OpenE (fun l Ms => OpVal c o l Ms μ v) G (E ++ l) Ms → OpenE (fun l' Ms' => ∀ a' w, Holds c l' Ms' μ a' w → Yields P o a'.eval w fun u w' => Ext w w' ∧ ∃ mr, MemOk c (mr :: Ms') μ w' ∧ u = v) G (E ++ l) Ms :=
    fun h => OpenE.imp (fun l' Ms' hk a' w hh => (hk a' w hh).mono fun u w' ⟨hu, hx⟩ => ⟨hx, _, (hh.mem.ext hx).empty, hu⟩) h
  refine DJ2.step (A := fun _ u => u = v) hiq hd hn hl0 hl1 (fun env hΓe hEe hk0 hk1 => ⟨?_, ?_⟩) (fun t u ht => ?_) (fun p hp => .inl hp) h
  · exact hv0.imp (fun h => by simpa using h) fun h1 => ObOK.ofOpen G (lift h1) hw0 (fun p hp => ⟨(hΓe p (hG.spec p hp).1).1, (hG.spec p hp).2, (hΓe p (hG.spec p hp).1).2⟩) (known hk0 hEe)
  · exact hv1.imp id fun h1 g => ObOK.ofOpen G (lift (h1 g)) (hw1 g) (fun p hp => ⟨(hΓe p (hG.spec p hp).1).1, (hG.spec p hp).2, (hΓe p (hG.spec p hp).1).2⟩) (known (hk1 g) hEe)
  · simp only [look] at ht
    split at ht
    · rename_i e; cases Nat.eq_of_beq_eq_true e; cases ht; exact .inr rfl
    · exact .inl ht
theorem DJ2.abs (G : List (Nat × Asr)) {A : Asr} {d : Nat} (hv0 : (edgesOf o).contains q = true ∨ OpenE (fun l Ms => OpAbs c o l Ms μ0 A) G (E ++ l0) Ms) (hv1 : earlyB ops q i = true ∨ ∀ g, OpenE (fun l Ms => OpAbs c o l Ms (μ1 g) A) G (E ++ l1 g) Ms)
    (hw0 : want ops (E ++ l0) o = some true) (hw1 : ∀ g, want ops (E ++ l1 g) o = some true) (hd : o.dst = some d) (hn : Nat.blt d n = true) (hl0 : look l0 d = none) (hl1 : ∀ g, look (l1 g) d = none) (hiq : Nat.beq i q = false)
    (h : DJ2 c ops q l0 l1 Ms μ0 μ1 tail K todo (i + 1) E ((d, A) :: Γ)) (hG : GOk ops o Γ G := by exact trivial) : DJ2 c ops q l0 l1 Ms μ0 μ1 tail K (o :: todo) i E Γ := by
  have lift : ∀ {μ : List Res} {l : List (Nat × Value)}, OpenE (fun l Ms => OpAbs c o l Ms μ A) G (E ++ l) Ms → OpenE (fun l' Ms' => ∀ a' w, Holds c l' Ms' μ a' w → Yields P o a'.eval w fun u w' => Ext w w' ∧ ∃ mr, MemOk c (mr :: Ms') μ w' ∧ A mr u) G (E ++ l) Ms :=
    fun h => OpenE.imp (fun l' Ms' hk a' w hh => (hk a' w hh).mono fun u w' ⟨hx, mr, hs, hfr, hA⟩ => ⟨hx, mr, hh.mem.add hx hs hfr, hA⟩) h
  refine DJ2.step (A := A) hiq hd hn hl0 hl1 (fun env hΓe hEe hk0 hk1 => ⟨?_, ?_⟩) (fun t u ht => .inl ht) (fun p hp => ?_) h
  · exact hv0.imp (fun h => by simpa using h) fun h1 => ObOK.ofOpen G (lift h1) hw0 (fun p hp => ⟨(hΓe p (hG.spec p hp).1).1, (hG.spec p hp).2, (hΓe p (hG.spec p hp).1).2⟩) (known hk0 hEe)
  · exact hv1.imp id fun h1 g => ObOK.ofOpen G (lift (h1 g)) (hw1 g) (fun p hp => ⟨(hΓe p (hG.spec p hp).1).1, (hG.spec p hp).2, (hΓe p (hG.spec p hp).1).2⟩) (known (hk1 g) hEe)
  · rcases List.mem_cons.1 hp with rfl | hp
    · exact .inr rfl
    · exact .inl hp
theorem DJ2.pass {d : Nat} (hw0 : want ops (E ++ l0) o = some false) (hw1 : ∀ g, want ops (E ++ l1 g) o = some false) (hd : o.dst = some d) (hn : Nat.blt d n = true) (hl0 : look l0 d = none) (hl1 : ∀ g, look (l1 g) d = none) (hiq : Nat.beq i q = false)
    (h : DJ2 c ops q l0 l1 Ms μ0 μ1 tail K todo (i + 1) ((d, undef) :: E) Γ) : DJ2 c ops q l0 l1 Ms μ0 μ1 tail K (o :: todo) i E Γ := by
  refine DJ2.step (A := fun _ u => u = undef) hiq hd hn hl0 hl1 (fun env hΓe hEe hk0 hk1 => ⟨.inr (ObOK.passOf hw0 (known hk0 hEe)), .inr (fun g => ObOK.passOf (hw1 g) (known (hk1 g) hEe))⟩) (fun t u ht => ?_) (fun p hp => .inl hp) h
  simp only [look] at ht
  split at ht
  · rename_i e; cases Nat.eq_of_beq_eq_true e; cases ht; exact .inr rfl
  · exact .inl ht

/-- The state behind the turn. -/
def Keff (l1 : List (Nat × Value)) (X : List Mem) (μ1 : List Res) : Post := fun e l Ms μ => e = .normal ∧ Has l l1 ∧ (∀ m ∈ X, m ∈ Ms) ∧ List.Sublist μ1 μ ∧ marksOf μ1 = marksOf μ
theorem Keff.intro {l1 : List (Nat × Value)} {μ1 : List Res} {X : List Mem} (h1 : Has l l1) (h2 : ∀ m ∈ X, m ∈ Ms) (h3 : List.Sublist μ1 μ) (h4 : marksOf μ1 = marksOf μ := by rfl) : Keff l1 X μ1 .normal l Ms μ := ⟨rfl, h1, h2, h3, h4⟩
/-- The state behind the turn, one of some. -/
def KeffG (l1 : γ → List (Nat × Value)) (X : List Mem) (μ1 : γ → List Res) : Post := fun e l Ms μ => ∃ g, Keff (l1 g) X (μ1 g) e l Ms μ
theorem look_key : ∀ {E : List (Nat × Value)} {t : Nat} {v : Value}, look E t = some v → ∃ p ∈ E, p.1 = t
  | (i, u) :: E, t, v, h => by
    simp only [look] at h
    split at h
    · rename_i e; exact ⟨_, .head _, Nat.eq_of_beq_eq_true e⟩
    · obtain ⟨p, hp, e⟩ := look_key h
      exact ⟨p, .tail _ hp, e⟩
theorem DJ2.eff (E' : List (Nat × Value)) (hE' : Has E E') (hlk : E'.all (fun p => (o.looksAt ops).contains p.1) = true) (hiq : Nat.beq i q = true) (hw : want ops (E' ++ l0) o = some true)
    (he : ∀ Ms', (∀ m ∈ Ms, m ∈ Ms') → WL c ops [o] (KeffG l1 Ms' μ1) (E' ++ l0) Ms' μ0)
    (h : DJ2 c ops q l0 l1 Ms μ0 μ1 tail K todo (i + 1) E Γ) : DJ2 c ops q l0 l1 Ms μ0 μ1 tail K (o :: todo) i E Γ := fun env hΓe hEe hk0 hk1 => by
  refine .inl ⟨Nat.eq_of_beq_eq_true hiq, fun a w hsz hD hout hm hents => ?_, h _ (fun p hp => ⟨.tail _ (hΓe p hp).1, (hΓe p hp).2⟩) (fun t v ht => ⟨.tail _ (hEe t v ht).1, (hEe t v ht).2⟩) hk0 hk1⟩
  have hslots : ∀ t v, look (E' ++ l0) t = some v → a.tmps.getD t undef = v := fun t v ht => by
    rcases look_append ht with h1 | h1
    · obtain ⟨p, hp, rfl⟩ := look_key h1
      obtain ⟨mr, _, h2⟩ := hents _ (hEe _ v (hE'.look _ _ h1)).1 (by have := List.all_eq_true.1 hlk p hp; simpa using this)
      exact h2
    · exact hout t v h1
  have hh : ∀ X, MemOk c (X ++ Ms) μ0 w → Holds c (E' ++ l0) (X ++ Ms) μ0 a w := fun X hX => ⟨hsz, hD, hslots, hX⟩
  have hwant : Region.wanted o (yielded ops a.tmps) = true := want_spec (hh [] hm) hw
  refine ⟨hwant, fun X hX => ?_⟩
  have := he (X ++ Ms) (fun m hm => List.mem_append_right _ hm) a w (hh X hX)
  unfold wpListIn at this
  rw [if_pos hwant] at this
  refine wpIn_eff (fun a' w' v htm h1 => ?_) (fun e a w ⟨l, Ms, μ, ⟨_, h1⟩, _⟩ => h1.1) this
  obtain ⟨l', Ms', μ', ⟨g, _, h2, h3, h4, hmk⟩, h5⟩ := h1
  have h6 := h5.weaken h2 h3 h4 hmk
  exact ⟨g, h6.size, h6.defers, h6.slots, h6.mem⟩
/-- With what is not known opened. -/
theorem DJ2.effG (E' : List (Nat × Value)) (hE' : Has E E') (hlk : E'.all (fun p => (o.looksAt ops).contains p.1) = true) (hiq : Nat.beq i q = true) (hw : want ops (E' ++ l0) o = some true)
    (G : List (Nat × Asr)) (hG : GOk ops o Γ G)
    (he : ∀ Ms', (∀ m ∈ Ms, m ∈ Ms') → OpenE (fun l' Ms2 => WL c ops [o] (KeffG l1 Ms' μ1) l' Ms2 μ0) G (E' ++ l0) Ms')
    (h : DJ2 c ops q l0 l1 Ms μ0 μ1 tail K todo (i + 1) E Γ) : DJ2 c ops q l0 l1 Ms μ0 μ1 tail K (o :: todo) i E Γ := fun env hΓe hEe hk0 hk1 => by
  refine .inl ⟨Nat.eq_of_beq_eq_true hiq, fun a w hsz hD hout hm hents => ?_, h _ (fun p hp => ⟨.tail _ (hΓe p hp).1, (hΓe p hp).2⟩) (fun t v ht => ⟨.tail _ (hEe t v ht).1, (hEe t v ht).2⟩) hk0 hk1⟩
  have hslots : ∀ t v, look (E' ++ l0) t = some v → a.tmps.getD t undef = v := fun t v ht => by
    rcases look_append ht with h1 | h1
    · obtain ⟨p, hp, rfl⟩ := look_key h1
      obtain ⟨mr, _, h2⟩ := hents _ (hEe _ v (hE'.look _ _ h1)).1 (by have := List.all_eq_true.1 hlk p hp; simpa using this)
      exact h2
    · exact hout t v h1
  have hh : ∀ X, MemOk c (X ++ Ms) μ0 w → Holds c (E' ++ l0) (X ++ Ms) μ0 a w := fun X hX => ⟨hsz, hD, hslots, hX⟩
  have hwant : Region.wanted o (yielded ops a.tmps) = true := want_spec (hh [] hm) hw
  refine ⟨hwant, fun X hX => ?_⟩
  obtain ⟨l2, Ms2, hk2, hh2⟩ := OpenE.holds (Ms0 := Ms) (fun m hm => List.mem_append_right _ hm) (he (X ++ Ms) (fun m hm => List.mem_append_right _ hm)) (hh X hX) (fun p hp => hents p (hΓe p (hG.spec p hp).1).1 (hG.spec p hp).2)
  have := hk2 a w hh2
  unfold wpListIn at this
  rw [if_pos hwant] at this
  refine wpIn_eff (fun a' w' v htm h1 => ?_) (fun e a w ⟨l, Ms, μ, ⟨_, h1⟩, _⟩ => h1.1) this
  obtain ⟨l', Ms', μ', ⟨g, _, h2, h3, h4, hmk⟩, h5⟩ := h1
  have h6 := h5.weaken h2 h3 h4 hmk
  exact ⟨g, h6.size, h6.defers, h6.slots, h6.mem⟩
theorem DJ2.nil (h : ∀ g, OpenE (fun l' Ms' => WL c ops tail K l' Ms' (μ1 g)) Γ (E ++ l1 g) Ms) : DJ2 c ops q l0 l1 Ms μ0 μ1 tail K [] i E Γ := fun env hΓe hEe hk0 hk1 g a w hh hents => by
  have hh' : Holds c (E ++ l1 g) Ms (μ1 g) a w := ⟨hh.size, hh.defers, fun t v ht => by
    rcases look_append ht with h1 | h1
    · obtain ⟨mr, _, h2⟩ := hents _ (hEe t v h1).1; exact h2
    · exact hh.slots t v h1, hh.mem⟩
  obtain ⟨l', Ms', hk', hh2⟩ := OpenE.holds (Ms0 := Ms) (fun _ h => h) (h g) hh' (fun p hp => hents p (hΓe p hp).1)
  exact hk' a w hh2
end

open Go Go.RowKit

section
variable {P : Program} {n : Nat} {c : Cx P n} {K : Post} {l : List (Nat × Value)} {Ms : List Mem} {μ : List Res}
variable {dst : Option Tmp} {x y : Operand} {t ty : TypeId} {pos : String} {af : Array Edge} {gd : Option (Nat × Bool)} {ops : Array Oper} {rest : List Oper}

theorem WL.make {e : TypeId} {k bytes : Nat} {z : Value} [hu : TU P t (.slice e)] [hi : TI P e k bytes z] {d N : Nat} {kl kc : IntKind}
    (hx : lk l x = some (.int kl (N : Int))) (hy : lk l y = some (.int kc (N : Int))) (hb : bytes * N ≤ 281474976710656) (hN : N ≤ maxLen)
    (hw : want ops l ⟨dst, .makeSlice t x y, ty, pos, af, gd⟩ = some true) (hd : dst = some d) (hn : Nat.blt d n = true)
    (h : ∀ b, WL c ops rest K ((d, .slice (some ⟨b, 0, none⟩) N N) :: l) Ms (.row e k (.slice (some ⟨b, 0, none⟩) N N) N (madeCells z.cells (N * k)).toList :: μ)) : WL c ops (⟨dst, .makeSlice t x y, ty, pos, af, gd⟩ :: rest) K l Ms μ :=
  WL.step hw fun a w hh => by
    obtain ⟨i, hi1, hi2, hi3, hi4⟩ := hi.i
    subst hi2
    refine ⟨fun _ _ => trivial, ?_⟩
    have hb' : (i.bytes : Int) * (N : Int) ≤ 281474976710656 := by
      have h : ((i.bytes * N : Nat) : Int) ≤ 281474976710656 := by rw [hi3]; omega
      rwa [Int.natCast_mul] at h
    have hr := run_make (P := P) w t e i z hu.u hi1 hi4 kl kc N N (by omega) (Int.le_refl _) hb' (by unfold maxLen at hN; omega)
    simp only [Int.toNat_natCast] at hr
    rw [Oper.semAt_eq _ _ _ (by simp)]
    have hr' : (execOp a.eval ⟨dst, .makeSlice t x y, ty, pos, af, gd⟩).run P w = .ok (.value (.slice (some ⟨w.heap.size, 0, none⟩) N N)) (w.alloc (.cells (madeCells z.cells (N * i.size)) e)) := by
      simp [execOp, hh.lk hx, hh.lk hy, hr]
    rw [hr']
    subst hd
    have hrow := World.ownsRow_lit (base := 0) (e := e) (size := i.size) w (madeCells z.cells (N * i.size)) N (Nat.zero_le _) hN (size_madeCells _ _)
    have hm := hh.mem.new (madeCells z.cells (N * i.size)) e
    have hm' : MemOk c Ms (.row e i.size (.slice (some ⟨w.heap.size, 0, none⟩) N N) N (madeCells z.cells (N * i.size)).toList :: μ) (w.alloc (.cells (madeCells z.cells (N * i.size)) e)) := by
      refine ⟨hm.sub, hm.fresh, hm.kept, fun r hr => ?_, hm.nodup, hm.own⟩
      rcases List.mem_cons.1 hr with rfl | hr
      · simpa [Res.ok] using hrow
      · exact hm.res r (.tail _ hr)
    exact h w.heap.size _ _ ((Holds.mk hh.size (by exact hh.defers) hh.slots hm').put (Nat.lt_of_blt hn) _)

theorem row_form {w : World} {T : TypeId} {k N : Nat} {v : Value} {xs : List Value} (h : w.ownsRow 0 T k v N xs) : ∃ a cap, v = .slice a N cap ∧ (0 < N → ∃ b, a = some ⟨b, 0, none⟩) := by
  rcases h.2 with ⟨rfl, rfl⟩ | ⟨g, cap, cur, rfl, _⟩
  · exact ⟨none, 0, rfl, fun h => absurd h (Nat.lt_irrefl _)⟩
  · exact ⟨_, cap, rfl, fun _ => ⟨g, rfl⟩⟩
theorem row_in {k N i j : Nat} (hi : i < N) (hj : j < k) : i * k + j < N * k :=
  calc i * k + j < i * k + k := by omega
    _ = (i + 1) * k := by rw [Nat.add_mul, Nat.one_mul]
    _ ≤ N * k := Nat.mul_le_mul_right _ hi
theorem row_cell {w : World} {T : TypeId} {k N b cap : Nat} {xs : List Value} (h : w.ownsRow 0 T k (.slice (some ⟨b, 0, none⟩) N cap) N xs) {j : Nat} (hj : j < N * k) : w.cell? ⟨b, j, none⟩ = xs[j]? :=
  h.cellAt j hj

theorem OpVal.lenR {e : TypeId} [hu : TU P t (.slice e)] {T : TypeId} {k N : Nat} {v : Value} {xs : List Value} (hx : lk l x = some v) (hr : Res.row T k v N xs ∈ μ) :
    OpVal c ⟨dst, .call ⟨.builtin .len, #[x], #[t]⟩, ty, pos, af, gd⟩ l Ms μ (.int .i64 (N : Int)) :=
  OpVal.of_runs (by simp) (by simp) fun a w hh => by
    obtain ⟨a0, cap, rfl, _⟩ := row_form (hh.mem.res _ hr)
    simp [execOp, resolve, invoke, builtin, Builtin.len_, hh.lk hx, run_underlying hu.u, goInt]
theorem OpVal.indexAddrR {e : TypeId} {k bytes : Nat} {z : Value} [hu : TU P t (.slice e)] [hi : TI P e k bytes z] {T : TypeId} {v : Value} {N : Nat} {xs : List Value} {i : Nat}
    (hx : lk l x = some v) (hy : lk l y = some (.int .i64 (i : Int))) (hr : Res.row T k v N xs ∈ μ) (hlt : i < N) :
    OpVal c ⟨dst, .indexAddr t x y, ty, pos, af, gd⟩ l Ms μ (EP v k i 0) :=
  OpVal.of_runs (by simp) (by simp) fun a w hh => by
    obtain ⟨a0, cap, rfl, h0⟩ := row_form (hh.mem.res _ hr)
    obtain ⟨b, rfl⟩ := h0 (by omega)
    simp [execOp, Instr.indexAt, hh.lk hx, hh.lk hy, asIntOf, run_underlying hu.u, hlt, hi.sizeOf, addr_add, EP]
theorem OpVal.fieldAddrR {j off' : Nat} [hf : TF P t j off'] {T : TypeId} {v : Value} {k i off N : Nat} {xs : List Value} (hx : lk l x = some (EP v k i off)) (hr : Res.row T k v N xs ∈ μ) (hlt : i < N) :
    OpVal c ⟨dst, .fieldAddr t x j, ty, pos, af, gd⟩ l Ms μ (EP v k i (off + off')) := fun a w hh => by
  obtain ⟨a0, cap, rfl, h0⟩ := row_form (hh.mem.res _ hr)
  obtain ⟨b, rfl⟩ := h0 (by omega)
  exact OpVal.fieldAddrE hx (by simp [EP, undef]) a w hh
theorem OpVal.loadR [hu : TL P t false] {T : TypeId} {k : Nat} {v : Value} {N : Nat} {xs : List Value} {i off : Nat} {u : Value} (hx : lk l x = some (EP v k i off)) (hr : Res.row T k v N xs ∈ μ) (hlt : i < N) (ho : off < k) (hv : xs[i * k + off]? = some u) :
    OpVal c ⟨dst, .load t x, ty, pos, af, gd⟩ l Ms μ u :=
  OpVal.of_runs (by simp) (by simp) fun a w hh => by
    have hok := hh.mem.res _ hr
    obtain ⟨a0, cap, rfl, h0⟩ := row_form hok
    obtain ⟨b, rfl⟩ := h0 (by omega)
    have hcell : w.cell? ⟨b, i * k + off, none⟩ = some u := (row_cell hok (row_in hlt ho)).trans hv
    simp [execOp, Instr.loadAt, loadVar, hh.lk hx, EP, Instr.sureAddr, hu.l, hcell]
/-- A store into a place of a row of one's own. -/
theorem WL.storeR {size bytes : Nat} {z : Value} [hi : TI P t size bytes z] {T : TypeId} {k : Nat} {v : Value} {N i off : Nat} {xs : List Value} {u : Value} {μ' : List Res} (hx : lk l x = some (EP v k i off))
    (hr : Repl (.row T k v N xs) (.row T k v N (xs.take (i * k + off) ++ (u.cells.toList ++ xs.drop (i * k + off + size)))) μ μ') (hy : lk l y = some u)
    (hw : want ops l ⟨none, .store t x y, ty, pos, af, gd⟩ = some true) (hs : u.cells.size = size) (hlt : i < N) (hfit : off + size ≤ k) (h1 : ∀ c ∈ u.cells.toList, c.oneCell' = true)
    (h : WL c ops rest K l Ms μ') : WL c ops (⟨none, .store t x y, ty, pos, af, gd⟩ :: rest) K l Ms μ :=
  WL.step hw fun a w hh => by
    refine ⟨fun _ _ => trivial, ?_⟩
    rw [Oper.semAt_eq _ _ _ (by simp)]
    have hok : w.ownsRow 0 T k v N xs := hh.mem.res _ hr.mem
    obtain ⟨hlen, hv⟩ := hok
    rcases hv with ⟨rfl, rfl⟩ | ⟨g, cap, cur, rfl, hb, hg, hnc, hcm, hcs, htake⟩
    · omega
    have hulen : u.cells.toList.length = size := by simpa using hs
    have hin : i * k + off + size ≤ N * k := calc i * k + off + size ≤ i * k + k := by omega
      _ = (i + 1) * k := by rw [Nat.add_mul, Nat.one_mul]
      _ ≤ N * k := Nat.mul_le_mul_right _ hlt
    have hNc : N * k ≤ cap * k := Nat.mul_le_mul_right _ hnc
    have hst := run_storeCells_at P g (0 + i * k + off) T u.cells.toList 0 cur w hg (by rw [hulen, hcs]; omega) h1
    simp only [Nat.add_zero, Nat.zero_add, hulen, List.append_assoc] at hst
    have hr' : (execOp a.eval ⟨none, .store t x y, ty, pos, af, gd⟩).run P w = .ok .skip (w.setRow g (cur.toList.take (i * k + off) ++ (u.cells.toList ++ cur.toList.drop (i * k + off + size))).toArray) := by
      simp only [execOp, Instr.storeAt, storeVar, hh.lk hx, EP, hh.lk hy, Instr.sureAddr, Sem.run_bind, Sem.run_pure, Result.andThen_ok, hi.sizeOf, hs, ne_eq, not_true, if_false, Nat.zero_add, hst]
    rw [hr']
    have hrow : (w.setRow g (cur.toList.take (i * k + off) ++ (u.cells.toList ++ cur.toList.drop (i * k + off + size))).toArray).ownsRow 0 T k (.slice (some ⟨g, 0, none⟩) N cap) N (xs.take (i * k + off) ++ (u.cells.toList ++ xs.drop (i * k + off + size))) := by
      refine ⟨?_, .inr ⟨g, cap, _, rfl, hb, setRow_heap w g cur _ T _ hg, hnc, hcm, ?_, ?_⟩⟩
      · simp only [List.length_append, List.length_take, List.length_drop, hlen, hulen]; omega
      · simp only [List.size_toArray, List.length_append, List.length_take, List.length_drop, Array.length_toList, hulen, hcs]; omega
      · rw [← htake]
        simp only [List.take_append, List.length_take, Array.length_toList, hulen, List.take_take, hcs, List.drop_take]
        congr 1
        · congr 1; omega
        · congr 1
          · rw [List.take_of_length_le (by rw [hulen]; omega)]
          · congr 1; omega
    exact h _ _ (Holds.mk hh.size (by rw [hr.marks rfl rfl]; exact hh.defers) hh.slots (hh.mem.turn hr hrow
      ⟨rfl, rfl, rfl, by simp, fun b' _ hb' => setRow_other w g b' _ (fun e => hb' (by rw [e]; rfl))⟩ (fun b' hb' => .inl hb')))

/-- All memories in one. -/
theorem MemOk.join {w : World} (h : MemOk c Ms μ w) : MemOk c (MAll Ms :: Ms) μ w := by
  refine ⟨fun m hm => ?_, fun m hm => ?_, h.kept, h.res, h.nodup, fun b hb => ⟨(h.own b hb).1, fun m hm => ?_⟩⟩
  · rcases List.mem_cons.1 hm with rfl | hm
    · exact MAll.sub h.sub
    · exact h.sub m hm
  · rcases List.mem_cons.1 hm with rfl | hm
    · intro b hb
      obtain ⟨m, hm, hb'⟩ := MAll.has hb
      exact h.fresh m hm b hb'
    · exact h.fresh m hm
  · rcases List.mem_cons.1 hm with rfl | hm
    · cases hx : MAll Ms b with
      | none => rfl
      | some o =>
        obtain ⟨m, hm, hb'⟩ := MAll.has (by rw [hx]; simp : MAll Ms b ≠ none)
        exact absurd ((h.own b hb).2 m hm) hb'
    · exact (h.own b hb).2 m hm
theorem W.join {code : Code} (h : ∀ m, (∀ m' ∈ Ms, MLe m' m) → W c code K l (m :: Ms) μ) : W c code K l Ms μ := fun a w hh =>
  h (MAll Ms) (fun _ hm => MAll.le hh.mem.sub hm) a w ⟨hh.size, hh.defers, hh.slots, hh.mem.join⟩
theorem WL.join (h : ∀ m, (∀ m' ∈ Ms, MLe m' m) → WL c ops rest K l (m :: Ms) μ) : WL c ops rest K l Ms μ := fun a w hh =>
  h (MAll Ms) (fun _ hm => MAll.le hh.mem.sub hm) a w ⟨hh.size, hh.defers, hh.slots, hh.mem.join⟩

/-! ### Rows of one-cell elements -/
abbrev vr (T : TypeId) (v : Value) (xs : List Value) : Res := .row T 1 v xs.length xs
theorem W.freezeV {code : Code} {T : TypeId} {v : Value} {xs : List Value} {μ' : List Res} (hp : Pick (vr T v xs) μ μ') (hF : ∀ b, c.F b → b ∈ feet μ') (h1 : ∀ u ∈ xs, u.oneCell' = true)
    (h : ∀ mr, IsArr mr 1 v xs.length (fun i _ => xs.getD i undef) → W c code K l (mr :: Ms) μ') : W c code K l Ms μ :=
  W.freezeRow hp hF h1 fun mr hmr => h mr (hmr.congr fun i j hi hj => by
    have : j = 0 := by omega
    subst this; simp)
theorem WL.app1 {e : TypeId} {bytes : Nat} {z : Value} [hu : TU P t (.slice e)] [hi : TI P e 1 bytes z] {d : Nat} {v v2 : Value} {xs : List Value} {u : Value} {m : Mem} {μ' : Value → List Res}
    (hx : lk l x = some v) (hr : ∀ v', Repl (vr e v xs) (vr e v' (xs ++ [u])) μ (μ' v')) (hy : lk l y = some v2) (hs : IsCells m 1 v2 1 [u]) (hm : m ∈ Ms) (hz : z.cells.size = 1)
    (hb : xs.length < 1000000000000) (hby : bytes ≤ 100)
    (hw : want ops l ⟨dst, .call ⟨.builtin .append, #[x, y], #[t, t]⟩, ty, pos, af, gd⟩ = some true) (hd : dst = some d) (hn : Nat.blt d n = true)
    (h : ∀ a' cap', WL c ops rest K ((d, .slice a' (xs.length + 1) cap') :: l) Ms (μ' (.slice a' (xs.length + 1) cap'))) : WL c ops (⟨dst, .call ⟨.builtin .append, #[x, y], #[t, t]⟩, ty, pos, af, gd⟩ :: rest) K l Ms μ :=
  WL.append hx (fun v' => by simpa [vr] using hr v') hy hs hm hz (by omega) (by unfold maxLen; omega) (by
    have : (xs.length + 1) * bytes ≤ (xs.length + 1) * 100 := Nat.mul_le_mul_left _ hby
    omega) hw hd hn h

/-! ### Rows of numbers -/
abbrev vi (x : Int) : Value := .int .i64 x
def IsInts (m : Mem) (v : Value) (xs : List Int) : Prop := IsArr m 1 v xs.length (fun i _ => .int .i64 (xs.getD i 0))
theorem IsInts.le {m m' : Mem} {v : Value} {xs : List Int} (h : IsInts m v xs) (hm : MLe m m') : IsInts m' v xs := IsArr.le h hm
theorem IsInts.bd {m : Mem} {v : Value} {xs : List Int} (h : IsInts m v xs) : xs.length ≤ 9223372036854775807 := by have := IsArr.len h; unfold maxLen at this; omega
theorem IsInts.nil (m : Mem) : IsInts m (.slice none 0 0) [] := IsArr.nil m 1 _
abbrev ir (T : TypeId) (v : Value) (xs : List Int) : Res := .row T 1 v xs.length (xs.map vi)
theorem ints_of_cells {m : Mem} {v : Value} {xs : List Int} (h : IsArr m 1 v xs.length (fun i j => (xs.map vi).getD (i * 1 + j) undef)) : IsInts m v xs :=
  IsArr.congr h fun i j hi hj => by
    have : j = 0 := by omega
    subst this
    simp [List.getD_eq_getElem?_getD, List.getElem?_eq_getElem hi]
theorem W.freezeInts {code : Code} {T : TypeId} {v : Value} {xs : List Int} {μ' : List Res} (hp : Pick (ir T v xs) μ μ') (hF : ∀ b, c.F b → b ∈ feet μ')
    (h : ∀ mr, IsInts mr v xs → W c code K l (mr :: Ms) μ') : W c code K l Ms μ :=
  W.freezeRow hp hF (by simp [Value.oneCell']) fun mr hmr => h mr (ints_of_cells hmr)
theorem WL.appInt {e : TypeId} [hu : TU P t (.slice e)] [hi : TI P e 1 8 (.int .i64 0)] {d : Nat} {v v2 : Value} {xs : List Int} {k : Int} {m : Mem} {μ' : Value → List Res}
    (hx : lk l x = some v) (hr : ∀ v', Repl (ir e v xs) (ir e v' (xs ++ [k])) μ (μ' v')) (hy : lk l y = some v2) (hs : IsCells m 1 v2 1 [vi k]) (hm : m ∈ Ms)
    (hb : xs.length < 10000000000000)
    (hw : want ops l ⟨dst, .call ⟨.builtin .append, #[x, y], #[t, t]⟩, ty, pos, af, gd⟩ = some true) (hd : dst = some d) (hn : Nat.blt d n = true)
    (h : ∀ a' cap', WL c ops rest K ((d, .slice a' (xs.length + 1) cap') :: l) Ms (μ' (.slice a' (xs.length + 1) cap'))) : WL c ops (⟨dst, .call ⟨.builtin .append, #[x, y], #[t, t]⟩, ty, pos, af, gd⟩ :: rest) K l Ms μ :=
  WL.append hx (fun v' => by simpa [ir] using hr v') hy hs hm rfl (by omega) (by unfold maxLen; omega) (by omega) hw hd hn h
/-- Lists of numbers in places. -/
def AllInts (m : Mem) (vs : List Value) (xss : List (List Int)) : Prop := vs.length = xss.length ∧ ∀ i, i < xss.length → IsInts m (vs.getD i undef) (xss.getD i [])
theorem AllInts.le {m m' : Mem} {vs : List Value} {xss : List (List Int)} (h : AllInts m vs xss) (hm : MLe m m') : AllInts m' vs xss := ⟨h.1, fun i hi => (h.2 i hi).le hm⟩
theorem AllInts.nil (m : Mem) : AllInts m [] [] := ⟨rfl, fun _ h => absurd h (Nat.not_lt_zero _)⟩
theorem AllInts.push {m : Mem} {vs : List Value} {xss : List (List Int)} {v : Value} {xs : List Int} (h : AllInts m vs xss) (hx : IsInts m v xs) : AllInts m (vs ++ [v]) (xss ++ [xs]) := by
  refine ⟨by simp [h.1], fun i hi => ?_⟩
  rw [List.getD_eq_getElem?_getD, List.getD_eq_getElem?_getD, List.getElem?_append, List.getElem?_append, h.1]
  by_cases hlt : i < xss.length
  · rw [if_pos hlt, if_pos hlt, ← List.getD_eq_getElem?_getD, ← List.getD_eq_getElem?_getD]
    exact h.2 i hlt
  · have : i = xss.length := by simp at hi; omega
    subst this
    simpa using hx
theorem AllInts.one {m : Mem} {vs : List Value} {xss : List (List Int)} (h : AllInts m vs xss) : ∀ u ∈ vs, u.oneCell' = true := fun u hu => by
  obtain ⟨i, hi, rfl⟩ := List.mem_iff_getElem.1 hu
  have := IsArr.one (h.2 i (by rw [← h.1]; exact hi))
  rwa [List.getD_eq_getElem?_getD, List.getElem?_eq_getElem hi] at this
def IsLists (m : Mem) (v : Value) (xss : List (List Int)) : Prop := ∃ vs, AllInts m vs xss ∧ IsArr m 1 v xss.length (fun i _ => vs.getD i undef)
theorem IsLists.le {m m' : Mem} {v : Value} {xss : List (List Int)} (h : IsLists m v xss) (hm : MLe m m') : IsLists m' v xss := let ⟨vs, h1, h2⟩ := h; ⟨vs, h1.le hm, h2.le hm⟩
theorem IsLists.bd {m : Mem} {v : Value} {xss : List (List Int)} (h : IsLists m v xss) : xss.length ≤ 9223372036854775807 := by obtain ⟨_, _, h⟩ := h; have := IsArr.len h; unfold maxLen at this; omega
theorem OpAbs.litI {e : TypeId} [hu : TU P t (.slice e)] [hi : TI P e 1 8 (.int .i64 0)] {k : Int} (hx : lk l x = some (.int .i64 k)) :
    OpAbs c ⟨dst, .buildSlice t 1 #[(0, x)], ty, pos, af, gd⟩ l Ms μ (fun m v => IsCells m 1 v 1 [vi k]) := fun a w hh =>
  (OpAbs.lit (dst := dst) (ty := ty) (pos := pos) (af := af) (gd := gd) (c := c) (Ms := Ms) (μ := μ) (parts := #[(0, x)]) (vs := [.int .i64 k]) [.int .i64 k] (by simp [lks, hx]) (Nat.le_of_ble_eq_true rfl) rfl rfl (by simp [Value.cells]) (by omega) (by simp [Value.cells]) (by simp [Value.oneCell']) a w hh).mono
    fun u w' ⟨h1, mr, h2, h3, h4, _⟩ => ⟨h1, mr, h2, h3, h4⟩
/-- The state behind a part, given. -/
theorem W.to {x : Code} (S : List (Nat × Value)) (Ms' : List Mem) (μ' : List Res) (h1 : W c x (Keff S Ms' μ') l Ms μ) (h2 : K .normal S Ms' μ') : W c x K l Ms μ := fun a w hh =>
  wpIn_mono (h1 a w hh) fun e a' w' ⟨l', Ms2, μ2, ⟨he, k1, k2, k3, k4⟩, hh'⟩ => by
    subst he
    exact ⟨S, Ms', μ', h2, hh'.weaken k1 k2 k3 k4⟩
theorem W.toS {x : Code} (S : List (Nat × Value)) (h1 : W c x (Keff S Ms μ) l Ms μ) (h2 : K .normal S Ms μ) : W c x K l Ms μ := W.to S Ms μ h1 h2
theorem _root_.Go.Eng.IsArr.ones {m : Mem} {k : Nat} {v : Value} {N : Nat} {f : Nat → Nat → Value} (h : IsArr m k v N f) {i : Nat} (hi : i < N) : ∀ u ∈ (List.range k).map (f i), u.oneCell' = true := fun u hu => by
  obtain ⟨j, hj, rfl⟩ := List.mem_map.1 hu
  obtain ⟨_, _, _, _, _, h3, _⟩ := h
  exact h3 i j hi (List.mem_range.1 hj)
/-! ### Abstract values -/
theorem OpAbs.ofVal {o : Oper} {v : Value} {A : Mem → Value → Prop} {m : Mem} (h : OpVal c o l Ms μ v) (hm : m ∈ Ms) (hA : A m v) : OpAbs c o l Ms μ A := fun a w hh =>
  (h a w hh).mono fun _ _ ⟨hu, hx⟩ => ⟨hx, m, (hh.mem.ext hx).sub m hm, fun _ hb => .inl ⟨m, hm, hb⟩, hu ▸ hA⟩
theorem OpAbs.mono {o : Oper} {A B : Mem → Value → Prop} (h : OpAbs c o l Ms μ A) (hAB : ∀ m v, A m v → B m v) : OpAbs c o l Ms μ B := fun a w hh =>
  (h a w hh).mono fun _ _ ⟨hx, mr, h1, h2, h3⟩ => ⟨hx, mr, h1, h2, hAB _ _ h3⟩
/-- With what is known beside it. -/
theorem OpAbs.join {o : Oper} {A : Mem → Value → Prop} {m : Mem} (h : OpAbs c o l Ms μ A) (hm : m ∈ Ms) : OpAbs c o l Ms μ (fun m' v => ∃ m1, MLe m1 m' ∧ MLe m m' ∧ A m1 v) := fun a w hh =>
  (h a w hh).mono fun u w' ⟨hx, mr, h1, h2, h3⟩ => by
    have hs : ∀ x ∈ [mr, m], Sub x w' := fun x hx' => by
      rcases List.mem_cons.1 hx' with rfl | hx'
      · exact h1
      · rcases List.mem_cons.1 hx' with rfl | hx'
        · exact (hh.mem.ext hx).sub _ hm
        · cases hx'
    refine ⟨hx, MAll [mr, m], MAll.sub hs, fun b hb => ?_, mr, MAll.le hs (.head _), MAll.le hs (.tail _ (.head _)), h3⟩
    obtain ⟨x, hx', hb'⟩ := MAll.has hb
    rcases List.mem_cons.1 hx' with rfl | hx'
    · exact h2 b hb'
    · rcases List.mem_cons.1 hx' with rfl | hx'
      · exact .inl ⟨_, hm, hb'⟩
      · cases hx'

/-! ### Rows of elements -/
abbrev flatv (vs : List Value) : List Value := vs.flatMap fun v => v.cells.toList
abbrev kr (T : TypeId) (k : Nat) (v : Value) (vs : List Value) : Res := .row T k v vs.length (flatv vs)
theorem flat_at {k : Nat} (hk : 0 < k) {vs : List Value} (hvs : ∀ u ∈ vs, u.cells.size = k) {i j : Nat} (hi : i < vs.length) (hj : j < k) : (flatv vs).getD (i * k + j) undef = (vs.getD i undef).cells.getD j undef := by
  have h1 := Great.flat_get hk vs hvs (i * k + j)
  have e1 : (i * k + j) / k = i := by rw [Nat.mul_comm, Nat.mul_add_div hk, Nat.div_eq_of_lt hj, Nat.add_zero]
  have e2 : (i * k + j) % k = j := by rw [Nat.mul_comm, Nat.mul_add_mod, Nat.mod_eq_of_lt hj]
  rw [e1, e2] at h1
  rw [List.getD_eq_getElem?_getD, h1, List.getD_eq_getElem?_getD, List.getElem?_eq_getElem hi]
  simp
theorem W.freezeK {code : Code} {T : TypeId} {k : Nat} {v : Value} {vs : List Value} {μ' : List Res} (hp : Pick (kr T k v vs) μ μ') (hF : ∀ b, c.F b → b ∈ feet μ') (hk : 0 < k) (hvs : ∀ u ∈ vs, u.cells.size = k) (h1 : ∀ u ∈ vs, ∀ x ∈ u.cells.toList, x.oneCell' = true)
    (h : ∀ mr, IsArr mr k v vs.length (fun i j => (vs.getD i undef).cells.getD j undef) → W c code K l (mr :: Ms) μ') : W c code K l Ms μ :=
  W.freezeRow hp hF (fun u hu => by obtain ⟨x, hx, hu'⟩ := List.mem_flatMap.1 hu; exact h1 x hx u hu') fun mr hmr => h mr (hmr.congr fun i j hi hj => flat_at hk hvs hi hj)
theorem WL.appK {e : TypeId} {k bytes : Nat} {z : Value} [hu : TU P t (.slice e)] [hi : TI P e k bytes z] {d : Nat} {v v2 : Value} {vs : List Value} (u : Value) {ys : List Value} {m : Mem} {μ' : Value → List Res}
    (hx : lk l x = some v) (hr : ∀ v', Repl (kr e k v vs) (kr e k v' (vs ++ [u])) μ (μ' v')) (hy : lk l y = some v2) (hs : IsCells m k v2 1 ys) (hm : m ∈ Ms) (hys : u.cells.toList = ys) (hz : z.cells.size = k) (hkp : 0 < k)
    (hb : vs.length < 1000000000000) (hby : bytes ≤ 100)
    (hw : want ops l ⟨dst, .call ⟨.builtin .append, #[x, y], #[t, t]⟩, ty, pos, af, gd⟩ = some true) (hd : dst = some d) (hn : Nat.blt d n = true)
    (h : ∀ a' cap', WL c ops rest K ((d, .slice a' (vs.length + 1) cap') :: l) Ms (μ' (.slice a' (vs.length + 1) cap'))) : WL c ops (⟨dst, .call ⟨.builtin .append, #[x, y], #[t, t]⟩, ty, pos, af, gd⟩ :: rest) K l Ms μ :=
  WL.append hx (fun v' => by have := hr v'; simp only [kr, flatv, List.flatMap_append, List.flatMap_cons, List.flatMap_nil, List.append_nil, List.length_append, List.length_cons, List.length_nil, hys] at this; simpa using this) hy hs hm hz hkp (by unfold maxLen; omega) (by
    have : (vs.length + 1) * bytes ≤ (vs.length + 1) * 100 := Nat.mul_le_mul_left _ hby
    omega) hw hd hn h
theorem IsInts.toCells {m : Mem} {v : Value} {xs : List Int} (h : IsInts m v xs) : IsCells m 1 v xs.length (xs.map vi) := ⟨by simp, h.congr fun i j hi hj => by
  have : j = 0 := by omega
  subst this
  simp [List.getD_eq_getElem?_getD, List.getElem?_eq_getElem hi]⟩
theorem WL.appInts {e : TypeId} [hu : TU P t (.slice e)] [hi : TI P e 1 8 (.int .i64 0)] {d : Nat} {v v2 : Value} {xs ys : List Int} {m : Mem} {μ' : Value → List Res}
    (hx : lk l x = some v) (hr : ∀ v', Repl (ir e v xs) (ir e v' (xs ++ ys)) μ (μ' v')) (hy : lk l y = some v2) (hs : IsInts m v2 ys) (hm : m ∈ Ms)
    (hb : xs.length + ys.length < 10000000000000)
    (hw : want ops l ⟨dst, .call ⟨.builtin .append, #[x, y], #[t, t]⟩, ty, pos, af, gd⟩ = some true) (hd : dst = some d) (hn : Nat.blt d n = true)
    (h : ∀ a' cap', WL c ops rest K ((d, .slice a' (xs.length + ys.length) cap') :: l) Ms (μ' (.slice a' (xs.length + ys.length) cap'))) : WL c ops (⟨dst, .call ⟨.builtin .append, #[x, y], #[t, t]⟩, ty, pos, af, gd⟩ :: rest) K l Ms μ :=
  WL.append hx (fun v' => by simpa [ir] using hr v') hy hs.toCells hm rfl (by omega) (by unfold maxLen; omega) (by omega) hw hd hn h
theorem sub_eq {μ μ' : List Res} (h : μ = μ') : List.Sublist μ μ' := h ▸ .refl _
end

open Go Go.RowKit

/-- A variable in persistent memory. -/
def IsBox (m : Mem) (b : Nat) (cs : Array Value) (T : TypeId) : Prop := m b = some (.cells cs T (0, 0))
theorem IsBox.le {m m' : Mem} {b : Nat} {cs : Array Value} {T : TypeId} (h : IsBox m b cs T) (hm : MLe m m') : IsBox m' b cs T := hm b _ h

section
variable {P : Program} {n : Nat} {c : Cx P n} {K : Post} {l : List (Nat × Value)} {Ms : List Mem} {μ : List Res}
variable {dst : Option Tmp} {x y : Operand} {t ty : TypeId} {pos : String} {af : Array Edge} {gd : Option (Nat × Bool)} {ops : Array Oper} {rest : List Oper}

theorem freeze_box {a : Act} {w : World} {b : Nat} {cs : Array Value} {T : TypeId} {μ' : List Res} (hp : Pick (.blk b cs T) μ μ') (hF : ∀ b, c.F b → b ∈ feet μ') (hh : Holds c l Ms μ a w) :
    ∃ mr, IsBox mr b cs T ∧ Holds c l (mr :: Ms) μ' a w := by
  have hok : w.heap[b]? = some (.cells cs T (0, 0)) := hh.mem.res _ hp.mem
  exact ⟨_, by simp only [IsBox, Res.foot, if_true]; exact hok, hh.size, by rw [hp.marks rfl]; exact hh.defers, hh.slots, hh.mem.freeze hp hF⟩
theorem W.freezeBox {code : Code} {b : Nat} {cs : Array Value} {T : TypeId} {μ' : List Res} (hp : Pick (.blk b cs T) μ μ') (hF : ∀ b, c.F b → b ∈ feet μ')
    (h : ∀ mr, IsBox mr b cs T → W c code K l (mr :: Ms) μ') : W c code K l Ms μ := fun a w hh => by
  obtain ⟨mr, h1, h2⟩ := freeze_box hp hF hh
  exact h mr h1 a w h2
theorem WL.freezeBox {b : Nat} {cs : Array Value} {T : TypeId} {μ' : List Res} (hp : Pick (.blk b cs T) μ μ') (hF : ∀ b, c.F b → b ∈ feet μ')
    (h : ∀ mr, IsBox mr b cs T → WL c ops rest K l (mr :: Ms) μ') : WL c ops rest K l Ms μ := fun a w hh => by
  obtain ⟨mr, h1, h2⟩ := freeze_box hp hF hh
  exact h mr h1 a w h2

theorem OpVal.loadP [hu : TL P t false] {m : Mem} {b off : Nat} {cs : Array Value} {T : TypeId} {v : Value} (hx : lk l x = some (.pointer (some ⟨b, off, none⟩))) (hb : IsBox m b cs T) (hm : m ∈ Ms) (hv : cs[off]? = some v) :
    OpVal c ⟨dst, .load t x, ty, pos, af, gd⟩ l Ms μ v :=
  OpVal.of_runs (by simp) (by simp) fun a w hh => by
    have hcell : w.cell? ⟨b, off, none⟩ = some v := by simp [World.cell?, hh.mem.sub m hm b _ hb, hv]
    simp [execOp, Instr.loadAt, loadVar, hh.lk hx, Instr.sureAddr, hu.l, hcell]
theorem OpVal.loadPA [hu : TL P t true] {bytes : Nat} {z : Value} {k : Nat} [hi : TI P t k bytes z] {m : Mem} {b off : Nat} {cs : Array Value} {T : TypeId} {vs : List Value} (hx : lk l x = some (.pointer (some ⟨b, off, none⟩))) (hb : IsBox m b cs T) (hm : m ∈ Ms)
    (hv : (cs.toList.drop off).take k = vs) (hk : vs.length = k) :
    OpVal c ⟨dst, .load t x, ty, pos, af, gd⟩ l Ms μ (.agg vs.toArray) :=
  OpVal.of_runs (by simp) (by simp) fun a w hh => by
    subst hk
    have hl := run_loadCells_list (P := P) w ⟨b, off, none⟩ vs (fun j u hu => by
      rw [addr_add _ rfl]
      have : cs[off + j]? = some u := by
        rw [← hv, List.getElem?_take] at hu
        split at hu
        · simpa using hu
        · cases hu
      simp [World.cell?, hh.mem.sub m hm b _ hb, this])
    simp only [execOp, Instr.loadAt, loadVar, hh.lk hx, Instr.sureAddr, Sem.run_bind, Sem.run_pure, Result.andThen_ok, hu.l, hi.sizeOf, if_true, hl]
theorem OpVal.loadPW [hu : TL P t true] {bytes : Nat} {z : Value} {k : Nat} [hi : TI P t k bytes z] {m : Mem} {b : Nat} {cs : Array Value} {T : TypeId} (hx : lk l x = some (.pointer (some ⟨b, 0, none⟩))) (hb : IsBox m b cs T) (hm : m ∈ Ms) (hk : cs.size = k) :
    OpVal c ⟨dst, .load t x, ty, pos, af, gd⟩ l Ms μ (.agg cs) :=
  (OpVal.loadPA hx hb hm (vs := cs.toList) (by subst hk; rw [List.drop_zero]; exact List.take_of_length_le (by simp)) (by simpa using hk)).cast (by simp)
/-- An aggregate within an element of a slice. -/
theorem OpVal.loadES [hu : TL P t true] {bytes : Nat} {z : Value} {s : Nat} [hi : TI P t s bytes z] {m : Mem} {k : Nat} {v : Value} {N : Nat} {f : Nat → Nat → Value} {i off : Nat} (hx : lk l x = some (EP v k i off)) (h : IsArr m k v N f) (hm : m ∈ Ms) (hlt : i < N) (ho : off + s ≤ k) :
    OpVal c ⟨dst, .load t x, ty, pos, af, gd⟩ l Ms μ (.agg ((List.range s).map fun j => f i (off + j)).toArray) := by
  obtain ⟨a, cap, rfl, _, _, _, h4⟩ := h
  obtain ⟨b, o, rfl, hc⟩ := h4 (by omega)
  exact OpVal.of_runs (by simp) (by simp) fun a w hh => by
    have hl := run_loadCells (P := P) w ⟨b, o + i * k + off, none⟩ s (fun j => f i (off + j)) (fun j hj => by
      rw [addr_add _ rfl]
      have := cellM_sub (hh.mem.sub m hm) (hc i (off + j) hlt (by omega))
      rwa [← Nat.add_assoc] at this)
    simp only [execOp, Instr.loadAt, loadVar, hh.lk hx, EP, Instr.sureAddr, Sem.run_bind, Sem.run_pure, Result.andThen_ok, hu.l, hi.sizeOf, if_true, hl]
/-- A store over a whole variable. -/
theorem WL.storeAll {k bytes : Nat} {z : Value} [hi : TI P t k bytes z] {b : Nat} {cs vs : Array Value} {T : TypeId} {μ' : List Res} (hx : lk l x = some (.pointer (some ⟨b, 0, none⟩))) (hr : Repl (.blk b cs T) (.blk b vs T) μ μ') (hy : lk l y = some (.agg vs))
    (hw : want ops l ⟨none, .store t x y, ty, pos, af, gd⟩ = some true) (hs : vs.size = k) (hc : cs.size = k) (h1 : ∀ u ∈ vs.toList, u.oneCell' = true)
    (h : WL c ops rest K l Ms μ') : WL c ops (⟨none, .store t x y, ty, pos, af, gd⟩ :: rest) K l Ms μ :=
  WL.store (v := .agg vs) vs.toList hx (by simpa using hr) hy hw hs (by omega) h1 (by
    show List.take 0 cs.toList ++ (vs.toList ++ List.drop (0 + k) cs.toList) = vs.toList
    rw [List.take_zero, List.drop_of_length_le (by simp [hc])]; simp) h
end

open Go Go.RowKit

/-- Memory as a contract takes it. -/
structure Pre (Ms : List Mem) (μ : List Res) (w : World) : Prop where
  sub : ∀ m ∈ Ms, Sub m w
  res : ∀ r ∈ μ, r.ok w
  nodup : (feet μ).Nodup
  own : ∀ b ∈ feet μ, ∀ m ∈ Ms, m b = none
/-- What a call turns. -/
structure Tr (Ms : List Mem) (μ : List Res) (Ms' : List Mem) (μ' : List Res) (w w' : World) : Prop where
  kp : Kp (fun b => b ∈ feet μ) w w'
  sub : ∀ m ∈ Ms', Sub m w'
  res : ∀ r ∈ μ', r.ok w'
  nodup : (feet μ').Nodup
  feet : ∀ b ∈ Eng.feet μ', b ∈ Eng.feet μ ∨ w.heap.size ≤ b
  fresh : ∀ m ∈ Ms', ∀ b, m b ≠ none → (∃ m0 ∈ Ms, m0 b ≠ none) ∨ w.heap.size ≤ b
  own : ∀ b ∈ Eng.feet μ', ∀ m ∈ Ms', m b = none
  marks : marksOf μ' = []
/-- The resources, in two parts. -/
inductive Split : List Res → List Res → List Res → Prop
  | nil : Split [] [] []
  | l (x : Res) {μ a b : List Res} : Split μ a b → Split (x :: μ) (x :: a) b
  | r (x : Res) {μ a b : List Res} : Split μ a b → Split (x :: μ) a (x :: b)
theorem Split.all : ∀ (μ : List Res), Split μ μ []
  | [] => .nil
  | x :: μ => .l x (Split.all μ)
theorem Split.none : ∀ (μ : List Res), Split μ [] μ
  | [] => .nil
  | x :: μ => .r x (Split.none μ)
theorem Split.mem {μ a b : List Res} (h : Split μ a b) : ∀ r ∈ μ, r ∈ a ∨ r ∈ b := by
  induction h with
  | nil => intro r hr; cases hr
  | l x _ ih =>
    intro r hr
    rcases List.mem_cons.1 hr with rfl | hr
    · exact .inl (.head _)
    · exact (ih r hr).imp (.tail _) id
  | r x _ ih =>
    intro r hr
    rcases List.mem_cons.1 hr with rfl | hr
    · exact .inr (.head _)
    · exact (ih r hr).imp id (.tail _)
theorem Split.left {μ a b : List Res} (h : Split μ a b) : List.Sublist a μ := by
  induction h with
  | nil => exact .refl _
  | l x _ ih => exact ih.cons_cons x
  | r x _ ih => exact ih.cons x
theorem Split.right {μ a b : List Res} (h : Split μ a b) : List.Sublist b μ := by
  induction h with
  | nil => exact .refl _
  | l x _ ih => exact ih.cons x
  | r x _ ih => exact ih.cons_cons x
theorem Split.marks {μ a b : List Res} (h : Split μ a b) (ha : marksOf a = []) : marksOf b = marksOf μ := by
  induction h with
  | nil => rfl
  | l x _ ih =>
    simp only [marksOf, List.filterMap_cons] at ha ih ⊢
    cases hx : markOf x with
    | none => rw [hx] at ha; simpa using ih ha
    | some d => rw [hx] at ha; cases ha
  | r x _ ih =>
    simp only [marksOf, List.filterMap_cons] at ha ih ⊢
    cases markOf x <;> simp [ih ha]
theorem Split.apart {μ a b : List Res} (h : Split μ a b) (hn : (feet μ).Nodup) : ∀ x ∈ feet a, x ∉ feet b := by
  induction h with
  | nil => intro x hx; cases hx
  | @l y μ a b hs ih =>
    cases hy : y.foot with
    | none =>
      simp only [feet, List.filterMap_cons, hy] at hn ⊢
      exact ih hn
    | some f =>
      simp only [feet, List.filterMap_cons, hy] at hn ⊢
      obtain ⟨h1, h2⟩ := List.nodup_cons.1 hn
      intro x hx
      rcases List.mem_cons.1 hx with rfl | hx
      · exact fun hb => h1 ((feet_sublist hs.right).mem hb)
      · exact ih h2 x hx
  | @r y μ a b hs ih =>
    cases hy : y.foot with
    | none =>
      simp only [feet, List.filterMap_cons, hy] at hn ⊢
      exact ih hn
    | some f =>
      simp only [feet, List.filterMap_cons, hy] at hn ⊢
      obtain ⟨h1, h2⟩ := List.nodup_cons.1 hn
      intro x hx hb
      rcases List.mem_cons.1 hb with rfl | hb
      · exact h1 ((feet_sublist hs.left).mem hx)
      · exact ih h2 x hx hb

section
variable {P : Program} {n : Nat} {c : Cx P n} {K : Post} {l : List (Nat × Value)} {Ms : List Mem} {μ : List Res}
variable {dst : Option Tmp} {x y : Operand} {t ty : TypeId} {pos : String} {af : Array Edge} {gd : Option (Nat × Bool)} {ops : Array Oper} {rest : List Oper}

theorem MemOk.pre {w : World} {M0 : List Mem} {a b : List Res} (h : MemOk c Ms μ w) (hs : Split μ a b) (hM : ∀ m ∈ M0, m ∈ Ms) : Pre M0 a w :=
  ⟨fun m hm => h.sub m (hM m hm), fun r hr => h.res r (hs.left.mem hr), (feet_sublist hs.left).nodup h.nodup, fun b hb m hm => (h.own b ((feet_sublist hs.left).mem hb)).2 m (hM m hm)⟩
theorem MemOk.tr {w w' : World} {M0 M1 : List Mem} {a b a1 : List Res} (h : MemOk c Ms μ w) (hs : Split μ a b) (hM : ∀ m ∈ M0, m ∈ Ms) (ht : Tr M0 a M1 a1 w w') : MemOk c (M1 ++ Ms) (b ++ a1) w' := by
  have hlt : ∀ x ∈ feet μ, x < w.heap.size := fun x hx => by
    obtain ⟨r, hr, hf⟩ := List.mem_filterMap.1 hx
    exact Res.foot_lt (h.res r hr) hf
  have hfe : ∀ x, x ∈ feet (b ++ a1) ↔ x ∈ feet b ∨ x ∈ feet a1 := fun x => by simp only [feet, List.filterMap_append, List.mem_append]
  have hold : ∀ m ∈ Ms, ∀ x, m x ≠ none → x < w.heap.size ∧ x ∉ feet a := fun m hm x hx => ⟨(h.sub m hm).lt hx, fun hxa => hx ((h.own x ((feet_sublist hs.left).mem hxa)).2 m hm)⟩
  refine ⟨fun m hm => ?_, fun m hm x hx => ?_, ⟨ht.kp.os.trans h.kept.os, ht.kp.tape.trans h.kept.tape, ht.kp.output.trans h.kept.output, Nat.le_trans h.kept.size ht.kp.size, fun x hx hF => ?_⟩, fun r hr => ?_, ?_, fun x hx => ⟨?_, fun m hm => ?_⟩⟩
  · rcases List.mem_append.1 hm with hm | hm
    · exact ht.sub m hm
    · intro x o hx
      obtain ⟨h1, h2⟩ := hold m hm x (by rw [hx]; simp)
      exact (ht.kp.block x h1 h2).trans (h.sub m hm x o hx)
  · rcases List.mem_append.1 hm with hm | hm
    · rcases ht.fresh m hm x hx with ⟨m0, hm0, hx0⟩ | h1
      · exact h.fresh m0 (hM m0 hm0) x hx0
      · exact .inr (Nat.le_trans h.kept.size h1)
    · exact h.fresh m hm x hx
  · refine (ht.kp.block x (Nat.lt_of_lt_of_le hx h.kept.size) (fun hxa => ?_)).trans (h.kept.block x hx hF)
    rcases (h.own x ((feet_sublist hs.left).mem hxa)).1 with h1 | h1
    · exact hF h1
    · omega
  · rcases List.mem_append.1 hr with hr | hr
    · have hok := h.res r (hs.right.mem hr)
      exact Res.ok_of_same hok fun x hx => ht.kp.block x (Res.foot_lt hok hx) fun hxa => hs.apart h.nodup x hxa (List.mem_filterMap.2 ⟨r, hr, hx⟩)
    · exact ht.res r hr
  · show (feet (b ++ a1)).Nodup
    simp only [feet, List.filterMap_append]
    refine List.nodup_append.2 ⟨(feet_sublist hs.right).nodup h.nodup, ht.nodup, fun x hx y hy e => ?_⟩
    subst e
    rcases ht.feet x hy with h1 | h1
    · exact hs.apart h.nodup x h1 hx
    · have := hlt x ((feet_sublist hs.right).mem hx); omega
  · rcases (hfe x).1 hx with hx | hx
    · exact (h.own x ((feet_sublist hs.right).mem hx)).1
    · rcases ht.feet x hx with h1 | h1
      · exact (h.own x ((feet_sublist hs.left).mem h1)).1
      · exact .inr (Nat.le_trans h.kept.size h1)
  · rcases (hfe x).1 hx with hx | hx
    · rcases List.mem_append.1 hm with hm | hm
      · cases hmx : m x with
        | none => rfl
        | some o =>
          exfalso
          rcases ht.fresh m hm x (by rw [hmx]; simp) with ⟨m0, hm0, hx0⟩ | h1
          · exact hx0 ((h.own x ((feet_sublist hs.right).mem hx)).2 m0 (hM m0 hm0))
          · have := hlt x ((feet_sublist hs.right).mem hx); omega
      · exact (h.own x ((feet_sublist hs.right).mem hx)).2 m hm
    · rcases List.mem_append.1 hm with hm | hm
      · exact ht.own x hx m hm
      · cases hmx : m x with
        | none => rfl
        | some o =>
          exfalso
          obtain ⟨h1, h2⟩ := hold m hm x (by rw [hmx]; simp)
          rcases ht.feet x hx with h3 | h3
          · exact h2 h3
          · omega

/-- Of a call, whatever the world: from these memories and resources it goes to others. -/
def FnM (P : Program) (f : FuncId) (args : Array Value) (Ms : List Mem) (μ : List Res) (Q : Value → List Mem → List Res → Prop) : Prop :=
  ∀ w, Pre Ms μ w → Calls P f args w fun e w' => ∃ v Ms' μ', e = .returned v ∧ Q v Ms' μ' ∧ Tr Ms μ Ms' μ' w w'
/-- What a function's body must end in. -/
def KretM (P : Program) (res : Array ResultVar) (Q : Value → List Mem → List Res → Prop) : Post := fun e l Ms μ =>
  (e = .ret ∨ e = .normal) ∧ ∃ vs Ms' μ', ResVs P l μ res.toList vs ∧ Q (tup vs) Ms' μ' ∧ (∀ m ∈ Ms', m ∈ Ms) ∧ List.Sublist μ' μ ∧ ∀ r ∈ μ', markOf r = none
theorem marks_none {μ : List Res} (h : ∀ r ∈ μ, markOf r = none) : marksOf μ = [] := List.filterMap_eq_nil_iff.2 h
theorem FnM.of_W {f : FuncId} {fn : Func} {code : Code} {args : Array Value} {Q : Value → List Mem → List Res → Prop} (hf : P.funcs[f]? = some fn) (hb : fn.body = some code) (hn : fn.ntmps = n) (ha : args.size ≤ n) (hmk : marksOf μ = [])
    (hW : ∀ c : Cx P n, c.r = none → c.D = [] → (∀ b, c.F b → b ∈ feet μ) → W c code (KretM P fn.results Q) (argSlots 0 args.toList) Ms μ) : FnM P f args Ms μ Q := fun w hw => by
  refine callsIn_wide.1 (callsIn_of_wp_marks (n := 0) hf hb trivial ?_)
  let c : Cx P n := ⟨none, [], w, fun b => b ∈ feet μ, fun b => ∃ m0 ∈ Ms, m0 b ≠ none⟩
  have hh : Holds c (argSlots 0 args.toList) Ms μ { tmps := args ++ Array.replicate (fn.ntmps - args.size) undef, defers := [] } w := by
    refine ⟨by simp [hn]; omega, by rw [hmk]; rfl, fun t v ht => ?_, ⟨hw.sub, fun m hm b hb => .inl ⟨m, hm, hb⟩, Kp.refl _ w, hw.res, hw.nodup, fun b hb => ⟨.inl hb, fun m hm => hw.own b hb m hm⟩⟩⟩
    obtain ⟨_, h2⟩ := argSlots_look _ _ _ _ ht
    have h3 : args[t]? = some v := by simpa using h2
    have hlt := (Array.getElem?_eq_some_iff.1 h3).1
    rw [Array.getD_eq_getD_getElem?, Array.getElem?_append_left hlt, h3]
    rfl
  refine wpIn_mono (hW c rfl rfl (fun _ h => h) _ w hh) fun e a' w' ⟨l', Ms', μ', hk, hh'⟩ => ?_
  obtain ⟨he, vs, M1, μ1, hres, hQ, hM1, hμ1, hmk1⟩ := hk
  have hD : a'.defers = marksOf μ' := by rw [hh'.defers]; exact List.append_nil _
  have hfin : LeavesInM Fence.wide 0 P fn a'.tmps (fun e w' => ∃ v Ms' μ', e = .returned v ∧ Q v Ms' μ' ∧ Tr Ms μ Ms' μ' w w') a'.defers .returning w' := by
    rw [hD]
    refine leave_marks _ rfl hh'.size hh'.slots hh'.mem hres fun μ2 w2 hm2 hst => ⟨_, M1, μ1, rfl, hQ, hm2.kept, fun m hm => hm2.sub m (hM1 m hm), fun r hr => hm2.res r (hst r (hμ1.mem hr) (hmk1 r hr)), (feet_sublist hμ1).nodup hh'.mem.nodup, fun b hb => ?_, fun m hm b hb => hm2.fresh m (hM1 m hm) b hb, fun b hb m hm => (hh'.mem.own b ((feet_sublist hμ1).mem hb)).2 m (hM1 m hm), marks_none hmk1⟩
    exact (hh'.mem.own b ((feet_sublist hμ1).mem hb)).1
  rcases he with rfl | rfl <;> exact hfin

theorem WL.callM {f : FuncId} [TC P f] {xs : Array Operand} {ats : Array TypeId} {first caps : Array Value} {vs : List Value} {d : Nat} {M0 : List Mem} {a b : List Res} {Q : Value → List Mem → List Res → Prop}
    (hf : lk l x = some (.func (.func f) first caps)) (hxs : lks l xs.toList = some vs) (hM : ∀ m ∈ M0, m ∈ Ms) (hs : Split μ a b) (hma : marksOf a = []) (hC : FnM P f (first ++ vs.toArray ++ caps) M0 a Q)
    (hw : want ops l ⟨dst, .call ⟨.value x, xs, ats⟩, ty, pos, af, gd⟩ = some true) (hd : dst = some d) (hn : Nat.blt d n = true)
    (h : ∀ v M1 a1, Q v M1 a1 → WL c ops rest K ((d, v) :: l) (M1 ++ Ms) (b ++ a1)) : WL c ops (⟨dst, .call ⟨.value x, xs, ats⟩, ty, pos, af, gd⟩ :: rest) K l Ms μ :=
  WL.step hw fun a' w hh => (Yields.call (R := fun v w' => ∃ M1 a1, Q v M1 a1 ∧ Tr M0 a M1 a1 w w') hh hf hxs ((hC w (hh.mem.pre hs hM)).mono fun _ _ ⟨v, M1, a1, he, hQ, ht⟩ => ⟨v, he, M1, a1, hQ, ht⟩)).wpIn fun v w' ⟨M1, a1, hQ, ht⟩ => by
    subst hd
    refine h v M1 a1 hQ _ _ (Holds.put ⟨hh.size, ?_, hh.slots, hh.mem.tr hs hM ht⟩ (Nat.lt_of_blt hn) v)
    rw [hh.defers, ← hs.marks hma]
    simp only [marksOf, List.filterMap_append]
    rw [show List.filterMap markOf a1 = [] from ht.marks, List.append_nil]

/-- Of a call of yield. -/
def YieldM (P : Program) (l0 : Nat) (args : Array Value) (Ms : List Mem) (μ : List Res) (Q : Value → List Mem → List Res → Prop) : Prop :=
  ∀ w, Pre Ms μ w → ∃ f tmps assign body, (Instr.yield l0 args).run P w = .ok (.round l0 f tmps assign body) w ∧
    RoundIn (fd none) 0 P l0 f tmps assign body w fun e w' => ∃ v Ms' μ', e = .returned v ∧ Q v Ms' μ' ∧ Tr Ms μ Ms' μ' w w'
theorem WL.yieldM {l0 : Nat} {xs : Array Operand} {ats : Array TypeId} {vs : List Value} {d : Nat} {M0 : List Mem} {a b : List Res} {Q : Value → List Mem → List Res → Prop}
    (hf : lk l x = some (.func (.yield l0) #[] #[])) (hxs : lks l xs.toList = some vs) (hM : ∀ m ∈ M0, m ∈ Ms) (hs : Split μ a b) (hma : marksOf a = []) (hC : YieldM P l0 vs.toArray M0 a Q)
    (hw : want ops l ⟨dst, .call ⟨.value x, xs, ats⟩, ty, pos, af, gd⟩ = some true) (hd : dst = some d) (hn : Nat.blt d n = true)
    (h : ∀ v M1 a1, Q v M1 a1 → WL c ops rest K ((d, v) :: l) (M1 ++ Ms) (b ++ a1)) : WL c ops (⟨dst, .call ⟨.value x, xs, ats⟩, ty, pos, af, gd⟩ :: rest) K l Ms μ :=
  WL.step hw fun a' w hh => by
    obtain ⟨f, tmps, assign, body, hy, hround⟩ := hC w (hh.mem.pre hs hM)
    refine ⟨fun _ _ => trivial, ?_⟩
    rw [Oper.semAt_eq _ _ _ (by simp)]
    have e : xs.map a'.eval = vs.toArray := by
      apply Array.ext'
      rw [Array.toList_map, hh.lks hxs]
    have hr : (execOp a'.eval ⟨dst, .call ⟨.value x, xs, ats⟩, ty, pos, af, gd⟩).run P w = .ok (.round l0 f tmps assign body) w := by
      simp only [execOp, resolve, hh.lk hf, Deferred.ofValue, Sem.run_bind, Sem.run_pure, Result.andThen_ok, invoke, e]
      simpa using hy
    rw [hr]
    refine ⟨(fun h => by cases h), ?_⟩
    refine RoundIn.mono (F := fd c.r) (show RoundIn (fd c.r) (0 - 1) P l0 f tmps assign body w _ from hround) fun e w' ⟨v, M1, a1, he, hQ, ht⟩ => ?_
    subst he hd
    refine h v M1 a1 hQ _ _ (Holds.put ⟨hh.size, ?_, hh.slots, hh.mem.tr hs hM ht⟩ (Nat.lt_of_blt hn) v)
    rw [hh.defers, ← hs.marks hma]
    simp only [marksOf, List.filterMap_append]
    rw [show List.filterMap markOf a1 = [] from ht.marks, List.append_nil]
end

open Go Go.RowKit

/-- Of an iterator of N items: whatever a call of yield turns. -/
def IterM (P : Program) (gf : FuncId) (caps : Array Value) (M0 : List Mem) (N : Nat) (item : Nat → Value) : Prop :=
  ∀ (l0 : Nat) (St : Nat → List Mem → List Res → Prop) (Sp : List Mem → List Res → Prop), (∀ k Ms μ, St k Ms μ → marksOf μ = []) → (∀ Ms μ, Sp Ms μ → marksOf μ = []) →
    (∀ k, k < N → ∀ Ms μ, St k Ms μ → YieldM P l0 #[item k] Ms μ fun v Ms' μ' => (v = .bool true ∧ St (k + 1) Ms' μ') ∨ (v = .bool false ∧ Sp Ms' μ')) →
    ∀ Ms μ, St 0 Ms μ → FnM P gf (#[.func (.yield l0) #[] #[]] ++ caps) (M0 ++ Ms) μ fun _ Ms' μ' => St N Ms' μ' ∨ Sp Ms' μ'

theorem none_of_marks {μ : List Res} (h : marksOf μ = []) : ∀ r ∈ μ, markOf r = none := List.filterMap_eq_nil_iff.1 h
section
variable {P : Program} {n : Nat} {c : Cx P n} {K : Post} {l : List (Nat × Value)} {Ms : List Mem} {μ : List Res}

/-- What a round's body must end in. -/
def Kround (St : List Mem → List Res → Prop) (Xt : Exit → List Mem → List Res → Prop) : Post := fun e _ Ms μ =>
  ∃ Ms' μ', (match e with
    | .normal => St Ms' μ'
    | .ret => Xt .ret Ms' μ'
    | .exit id => Xt (.exit id) Ms' μ'
    | _ => False) ∧ (∀ m ∈ Ms', m ∈ Ms) ∧ List.Sublist μ' μ ∧ ∀ r ∈ μ', markOf r = none
/-- What the assignment ahead of it must end in: the body follows. -/
def Kassign (P : Program) (n : Nat) (l0 : Nat) (body : Code) (K : Post) : Post := fun e l Ms μ => e = .normal ∧ ∀ c : Cx P n, c.r = some l0 → c.D = [] → marksOf μ = [] ∧ W c body K l Ms μ
/-- The parameters' slots. -/
def parSlots : List Nat → List Value → List (Nat × Value) → List (Nat × Value)
  | p :: ps, v :: vs, l => parSlots ps vs ((p, v) :: l)
  | _, _, l => l
theorem parSlots_ok : ∀ (ps : List Nat) (vs : List Value) (l : List (Nat × Value)) (tmps : Array Value), tmps.size = n → (∀ p ∈ ps, p < n) → (∀ t v, look l t = some v → tmps.getD t undef = v) →
    ((ps.zip vs).foldl (fun t (p, v) => t.setIfInBounds p v) tmps).size = n ∧ ∀ t v, look (parSlots ps vs l) t = some v → ((ps.zip vs).foldl (fun t (p, v) => t.setIfInBounds p v) tmps).getD t undef = v
  | [], _, l, tmps, hs, _, h => ⟨hs, h⟩
  | _ :: _, [], l, tmps, hs, _, h => ⟨hs, h⟩
  | p :: ps, v :: vs, l, tmps, hs, hp, h => by
    refine parSlots_ok ps vs ((p, v) :: l) (tmps.setIfInBounds p v) (by simpa using hs) (fun q hq => hp q (.tail _ hq)) fun t u ht => ?_
    simp only [look] at ht
    have hpn := hp p (.head _)
    split at ht
    · rename_i e
      cases Nat.eq_of_beq_eq_true e
      cases ht
      simp [hs, hpn]
    · rename_i e
      have hne : p ≠ t := fun h => by subst h; simp at e
      have := h t u ht
      simp only [Array.getD_eq_getD_getElem?, Array.getElem?_setIfInBounds_ne hne] at this ⊢
      exact this

theorem YieldM.of_W {l0 : Nat} {rec : Loop} {args : Array Value} {St : List Mem → List Res → Prop} {Xt : Exit → List Mem → List Res → Prop} (hready : rec.state = .ready) (hsz : rec.tmps.size = n) (hsl : ∀ t v, look l t = some v → rec.tmps.getD t undef = v)
    (hps : args.size = rec.params.size) (hpn : ∀ p ∈ rec.params.toList, p < n) (hpend : rec.pending = none) (hmk : marksOf μ = [])
    (hW : ∀ c : Cx P n, c.r = some l0 → c.D = [] → W c rec.assign (Kassign P n l0 rec.body (Kround St Xt)) (parSlots rec.params.toList args.toList l) Ms μ) :
    YieldM P l0 args Ms (.obj l0 (.loop rec) :: μ) fun v Ms' μ' => (v = .bool true ∧ ∃ μ0, μ' = .obj l0 (.loop rec) :: μ0 ∧ St Ms' μ0) ∨
      (v = .bool false ∧ ∃ e j μ0, μ' = .obj l0 (.loop { rec with state := .done, pending := some j }) :: μ0 ∧ Xt e Ms' μ0 ∧ ((e = .ret ∧ j = .ret) ∨ ∃ id, e = .exit id ∧ j = .exit id)) := by
  intro w hw
  have hL : w.heap[l0]? = some (.loop rec) := hw.res _ (.head _)
  have hlt : l0 < w.heap.size := (Array.getElem?_eq_some_iff.1 hL).1
  have hnd := hw.nodup
  simp only [feet, List.filterMap_cons, Res.foot] at hnd
  obtain ⟨hl0, hnd'⟩ := List.nodup_cons.1 hnd
  have hfeet : ∀ b, b ∈ feet μ → b ∈ feet (.obj l0 (.loop rec) :: μ) := fun b hb => by simp only [feet, List.filterMap_cons, Res.foot]; exact .tail _ hb
  have hl0f : l0 ∈ feet (.obj l0 (.loop rec) :: μ) := by simp only [feet, List.filterMap_cons, Res.foot]; exact .head _
  have hMl0 : ∀ m ∈ Ms, m l0 = none := fun m hm => hw.own l0 hl0f m hm
  refine ⟨_, _, _, _, run_yield hL hps, ?_⟩
  refine roundIn_of_wpIn trivial ?_
  let c1 : Cx P n := ⟨some l0, [], w, fun b => b ∈ feet μ, fun b => ∃ m0 ∈ Ms, m0 b ≠ none⟩
  have hpar := parSlots_ok (n := n) rec.params.toList args.toList l rec.tmps hsz hpn hsl
  have htm : (rec.params.zip args).foldl (fun tmps (t, a) => tmps.setIfInBounds t a) rec.tmps = (rec.params.toList.zip args.toList).foldl (fun t (p, v) => t.setIfInBounds p v) rec.tmps := by
    rw [← Array.foldl_toList, Array.toList_zip]
  rw [htm]
  have hh1 : Holds c1 (parSlots rec.params.toList args.toList l) Ms μ { tmps := (rec.params.toList.zip args.toList).foldl (fun t (p, v) => t.setIfInBounds p v) rec.tmps, defers := [] } w :=
    ⟨hpar.1, by rw [hmk]; rfl, hpar.2, ⟨hw.sub, fun m hm b hb => .inl ⟨m, hm, hb⟩, Kp.refl _ w, fun r hr => hw.res r (.tail _ hr), hnd', fun b hb => ⟨.inl hb, fun m hm => hw.own b (hfeet b hb) m hm⟩⟩⟩
  refine wpIn_mono (hW c1 rfl rfl _ w hh1) ?_
  rintro e a1 w1 ⟨l1, Ms1, μ1, ⟨rfl, hbody⟩, hh1'⟩
  have hL1 : w1.heap[l0]? = some (.loop rec) := (hh1'.mem.kept.block l0 hlt hl0).trans hL
  refine ⟨_, run_beginRound hL1 hready, ?_⟩
  have hlt1 : l0 < w1.heap.size := (Array.getElem?_eq_some_iff.1 hL1).1
  have hl01 : l0 ∉ feet μ1 := fun hx => by
    rcases (hh1'.mem.own l0 hx).1 with h1 | h1
    · exact hl0 h1
    · exact absurd hlt (by show ¬ l0 < w.heap.size; have : c1.w0 = w := rfl; rw [this] at h1; omega)
  have hM1 : ∀ m ∈ Ms1, m l0 = none := fun m hm => by
    cases hx : m l0 with
    | none => rfl
    | some o =>
      rcases hh1'.mem.fresh m hm l0 (by rw [hx]; simp) with ⟨m0, hm0, h1⟩ | h1
      · exact absurd (hMl0 m0 hm0) h1
      · have : c1.w0 = w := rfl
        rw [this] at h1; omega
  let w2 := w1.putObj l0 (.loop { rec with state := .busy })
  have hL2 : w2.heap[l0]? = some (.loop { rec with state := .busy }) := World.putObj_heap_same hlt1
  have hsub2 : ∀ m ∈ Ms1, Sub m w2 := fun m hm b o hb => by
    have hne : b ≠ l0 := fun e => by subst e; rw [hM1 m hm] at hb; cases hb
    exact (World.putObj_heap_other hne).trans (hh1'.mem.sub m hm b o hb)
  have hres2 : ∀ r ∈ μ1, r.ok w2 := fun r hr => Res.ok_of_same (hh1'.mem.res r hr) fun b hb => World.putObj_heap_other fun e => hl01 (e ▸ List.mem_filterMap.2 ⟨r, hr, hb⟩)
  let c2 : Cx P n := ⟨some l0, [], w2, fun b => b ∈ feet μ1, fun b => ∃ m0 ∈ Ms1, m0 b ≠ none⟩
  obtain ⟨hmk1, hW2⟩ := hbody c2 rfl rfl
  have hh2 : Holds c2 l1 Ms1 μ1 a1 w2 :=
    ⟨hh1'.size, hh1'.defers, hh1'.slots, ⟨hsub2, fun m hm b hb => .inl ⟨m, hm, hb⟩, Kp.refl _ w2, hres2, hh1'.mem.nodup, fun b hb => ⟨.inl hb, fun m hm => (hh1'.mem.own b hb).2 m hm⟩⟩⟩
  refine wpIn_mono (hW2 a1 w2 hh2) ?_
  rintro e a3 w3 ⟨l3, Ms3, μ3, ⟨Ms4, μ4, hq, hM4, hμ4, hmk4⟩, hh3⟩
  have hlt2 : l0 < w2.heap.size := (Array.getElem?_eq_some_iff.1 hL2).1
  have hL3 : w3.heap[l0]? = some (.loop { rec with state := .busy }) := (hh3.mem.kept.block l0 hlt2 hl01).trans hL2
  have hlt3 : l0 < w3.heap.size := (Array.getElem?_eq_some_iff.1 hL3).1
  have hl03 : l0 ∉ feet μ3 := fun hx => by
    rcases (hh3.mem.own l0 hx).1 with h1 | h1
    · exact hl01 h1
    · have : c2.w0 = w2 := rfl
      rw [this] at h1; omega
  have hM3 : ∀ m ∈ Ms3, m l0 = none := fun m hm => by
    cases hx : m l0 with
    | none => rfl
    | some o =>
      rcases hh3.mem.fresh m hm l0 (by rw [hx]; simp) with ⟨m0, hm0, h1⟩ | h1
      · exact absurd (hM1 m0 hm0) h1
      · have : c2.w0 = w2 := rfl
        rw [this] at h1; omega
  have hs12 : w1.heap.size = w2.heap.size := World.putObj_size.symm
  have hs01 : w.heap.size ≤ w1.heap.size := hh1'.mem.kept.size
  have hs23 : w2.heap.size ≤ w3.heap.size := hh3.mem.kept.size
  have fin : ∀ o : Obj, Tr Ms (.obj l0 (.loop rec) :: μ) Ms4 (.obj l0 o :: μ4) w (w3.putObj l0 o) ∨ markOf (.obj l0 o) ≠ none := fun o => by
    by_cases hmo : markOf (.obj l0 o) = none
    · refine .inl ⟨⟨?_, ?_, ?_, ?_, fun b hb hF => ?_⟩, fun m hm => ?_, fun r hr => ?_, ?_, fun b hb => ?_, fun m hm b hb => ?_, fun b hb m hm => ?_, ?_⟩
      · exact hh3.mem.kept.os.trans hh1'.mem.kept.os
      · exact hh3.mem.kept.tape.trans hh1'.mem.kept.tape
      · exact hh3.mem.kept.output.trans hh1'.mem.kept.output
      · rw [World.putObj_size]; omega
      · have hbl : b ≠ l0 := fun e => hF (e ▸ hl0f)
        have hbμ : b ∉ feet μ := fun h => hF (hfeet b h)
        have hb1 : b ∉ feet μ1 := fun hx => by
          rcases (hh1'.mem.own b hx).1 with h1 | h1
          · exact hbμ h1
          · have : c1.w0 = w := rfl
            rw [this] at h1; omega
        rw [World.putObj_heap_other hbl]
        refine (hh3.mem.kept.block b (by show b < w2.heap.size; omega) hb1).trans ?_
        show w2.heap[b]? = _
        rw [World.putObj_heap_other hbl]
        exact hh1'.mem.kept.block b hb hbμ
      · intro b o' hb
        have hne : b ≠ l0 := fun e => by subst e; rw [hM3 m (hM4 m hm)] at hb; cases hb
        exact (World.putObj_heap_other hne).trans (hh3.mem.sub m (hM4 m hm) b o' hb)
      · rcases List.mem_cons.1 hr with rfl | hr
        · exact World.putObj_heap_same hlt3
        · have hr3 := hμ4.mem hr
          exact Res.ok_of_same (hh3.mem.res r hr3) fun b hb => World.putObj_heap_other fun e => hl03 (e ▸ List.mem_filterMap.2 ⟨r, hr3, hb⟩)
      · simp only [feet, List.filterMap_cons, Res.foot]
        exact List.nodup_cons.2 ⟨fun h => hl03 ((feet_sublist hμ4).mem h), (feet_sublist hμ4).nodup hh3.mem.nodup⟩
      · simp only [feet, List.filterMap_cons, Res.foot] at hb
        rcases List.mem_cons.1 hb with rfl | hb
        · exact .inl hl0f
        · rcases (hh3.mem.own b ((feet_sublist hμ4).mem hb)).1 with h1 | h1
          · rcases (hh1'.mem.own b h1).1 with h2 | h2
            · exact .inl (hfeet b h2)
            · exact .inr h2
          · have : c2.w0 = w2 := rfl
            rw [this] at h1; exact .inr (by omega)
      · rcases hh3.mem.fresh m (hM4 m hm) b hb with ⟨m1, hm1, h1⟩ | h1
        · rcases hh1'.mem.fresh m1 hm1 b h1 with ⟨m0, hm0, h2⟩ | h2
          · exact .inl ⟨m0, hm0, h2⟩
          · exact .inr h2
        · have : c2.w0 = w2 := rfl
          rw [this] at h1; exact .inr (by omega)
      · simp only [feet, List.filterMap_cons, Res.foot] at hb
        rcases List.mem_cons.1 hb with rfl | hb
        · exact hM3 m (hM4 m hm)
        · exact (hh3.mem.own b ((feet_sublist hμ4).mem hb)).2 m (hM4 m hm)
      · exact marks_none fun r hr => by
          rcases List.mem_cons.1 hr with rfl | hr
          · exact hmo
          · exact hmk4 r hr
    · exact .inr hmo
  have hrec : ({ ({ rec with state := .busy } : Loop) with state := .ready, pending := none } : Loop) = rec := by
    cases rec; simp only at hready hpend; subst hready hpend; rfl
  cases e with
  | normal =>
    refine ⟨_, _, run_endRound none hL3, _, Ms4, _, rfl, .inl ⟨rfl, μ4, rfl, hq⟩, ?_⟩
    have := fin (.loop rec)
    simp only [Option.isNone_none, if_true, hrec]
    rcases this with h | h
    · exact h
    · exact absurd rfl h
  | ret =>
    refine ⟨_, _, run_endRound (some .ret) hL3, _, Ms4, _, rfl, .inr ⟨rfl, .ret, .ret, μ4, rfl, hq, .inl ⟨rfl, rfl⟩⟩, ?_⟩
    rcases fin (.loop { rec with state := .done, pending := some .ret }) with h | h
    · exact h
    · exact absurd rfl h
  | exit id =>
    refine ⟨_, _, run_endRound (some (.exit id)) hL3, _, Ms4, _, rfl, .inr ⟨rfl, .exit id, .exit id, μ4, rfl, hq, .inr ⟨id, rfl, rfl⟩⟩, ?_⟩
    rcases fin (.loop { rec with state := .done, pending := some (.exit id) }) with h | h
    · exact h
    · exact absurd rfl h
  | goto t => exact hq.elim
  | panic ch => exact hq.elim
  | outgrown => exact hq.elim

theorem MemOk.newO {w : World} (h : MemOk c Ms μ w) (o : Obj) : MemOk c Ms (.obj w.heap.size o :: μ) (w.alloc o) := by
  have h' := h.ext (Ext.alloc w o)
  have hlt : ∀ b ∈ feet μ, b < w.heap.size := fun b hb => by
    obtain ⟨r, hr, hf⟩ := List.mem_filterMap.1 hb
    exact Res.foot_lt (h.res r hr) hf
  refine ⟨h'.sub, h'.fresh, h'.kept, ?_, ?_, ?_⟩
  · intro r hr
    rcases List.mem_cons.1 hr with rfl | hr
    · exact heap_alloc_new w _
    · exact h'.res r hr
  · simp only [feet, List.filterMap_cons, Res.foot]
    exact List.nodup_cons.2 ⟨fun hm => absurd (hlt _ hm) (Nat.lt_irrefl _), h.nodup⟩
  · intro b hb
    simp only [feet, List.filterMap_cons, Res.foot] at hb
    rcases List.mem_cons.1 hb with rfl | hb
    · refine ⟨.inr h.kept.size, fun m hm => ?_⟩
      cases hx : m w.heap.size with
      | none => rfl
      | some o => exact absurd ((h.sub m hm).lt (by rw [hx]; simp)) (Nat.lt_irrefl _)
    · exact h'.own b hb
theorem _root_.Go.Eng.Holds.drop {μ' : List Res} {a : Act} {w : World} (hh : Holds c l Ms μ a w) (hμ : List.Sublist μ' μ) (hd : marksOf μ' = marksOf μ) : Holds c l Ms μ' a w :=
  ⟨hh.size, by rw [hd]; exact hh.defers, hh.slots, ⟨hh.mem.sub, hh.mem.fresh, hh.mem.kept, fun r hr => hh.mem.res r (hμ.mem hr), (feet_sublist hμ).nodup hh.mem.nodup, fun b hb => hh.mem.own b ((feet_sublist hμ).mem hb)⟩⟩
theorem Repl.at (r r' : Res) (μ2 : List Res) : ∀ (μ1 : List Res), Repl r r' (μ1 ++ r :: μ2) (μ1 ++ r' :: μ2)
  | [] => .head _
  | x :: μ1 => .tail x (Repl.at r r' μ2 μ1)
theorem endLoop_to {D L : Nat} {b μ0 : List Res} {M' : List Mem} {rec : Loop} {a : Act} {w3 : World} {e : Exit} (hne : rec.state ≠ .busy) (hm : MemOk c (M' ++ Ms) ((.obj D (.deferred (some [])) :: b) ++ .obj L (.loop rec) :: μ0) w3)
    (hsz : a.tmps.size = n) (hD : a.defers = { target := .collected D, args := #[] } :: (marksOf b ++ c.D)) (hmk0 : marksOf μ0 = []) (hsl : ∀ t v, look l t = some v → a.tmps.getD t undef = v)
    (hK : K e l (M' ++ Ms) (.obj D (.deferred (some [])) :: (b ++ μ0))) :
    ∃ w4, (Instr.endLoop L).run P w3 = .ok rec.pending w4 ∧ post c K e a w4 := by
  have hL : w3.heap[L]? = some (.loop rec) := hm.res _ (List.mem_append_right _ (.head _))
  refine ⟨_, run_endLoop hL hne, l, _, _, hK, ?_⟩
  have hrep := Repl.at (.obj L (.loop rec)) (.obj L (.loop { rec with state := .exhausted })) μ0 (.obj D (.deferred (some [])) :: b)
  have hm2 := hm.turn (w' := w3.putObj L (.loop { rec with state := .exhausted })) hrep (World.putObj_heap_same (Array.getElem?_eq_some_iff.1 hL).1) ⟨rfl, rfl, rfl, by simp, fun b' _ hb' => World.putObj_heap_other (fun e => hb' (by rw [e]; rfl))⟩ (fun b' hb' => .inl hb')
  have hmk : ∀ μx, marksOf (.obj D (.deferred (some [])) :: (b ++ μx)) = { target := .collected D, args := #[] } :: (marksOf b ++ marksOf μx) := fun μx => by
    simp only [marksOf, List.filterMap_cons, List.filterMap_append, markOf]
  have hh : Holds c l (M' ++ Ms) ((.obj D (.deferred (some [])) :: b) ++ .obj L (.loop { rec with state := .exhausted }) :: μ0) a (w3.putObj L (.loop { rec with state := .exhausted })) := by
    refine ⟨hsz, ?_, hsl, hm2⟩
    rw [List.cons_append, hmk, hD]
    have : marksOf (.obj L (.loop { rec with state := .exhausted }) :: μ0) = [] := by rw [← hmk0]; rfl
    rw [this]; simp
  refine hh.drop (List.Sublist.cons_cons _ (List.Sublist.append_left (List.Sublist.cons _ (List.Sublist.refl _)) b)) ?_
  exact (hmk μ0).trans (hmk (.obj L (.loop { rec with state := .exhausted }) :: μ0)).symm
theorem W.rangeFunc {g : Operand} {ps : Array Tmp} {assign body : Code} {gf : FuncId} [hc : TC P gf] {caps : Array Value} {M0 M1 : List Mem} {N : Nat} {item : Nat → Value} {a b : List Res}
    (hr : c.r = none) (hg : lk l g = some (.func (.func gf) #[] caps)) (hit : IterM P gf caps M0 N item) (hM0 : ∀ m ∈ M0, m ∈ Ms) (hs : Split μ a b) (hma : marksOf a = [])
    (St : Nat → List Mem → List Res → Prop) (Xt : Exit → List Mem → List Res → Prop) (h0 : St 0 M1 a) (hM1 : ∀ m ∈ M1, m ∈ Ms) (hStm : ∀ k Ms μ, St k Ms μ → marksOf μ = []) (hXtm : ∀ e Ms μ, Xt e Ms μ → marksOf μ = [])
    (hps : ps.size = 1) (hpn : ∀ p ∈ ps.toList, p < n)
    (hround : ∀ k, k < N → ∀ l0 Ms' μ', St k Ms' μ' → ∀ c' : Cx P n, c'.r = some l0 → c'.D = [] → W c' assign (Kassign P n l0 body (Kround (St (k + 1)) Xt)) (parSlots ps.toList [item k] l) Ms' μ')
    (hdone : ∀ D Ms' μ', St N Ms' μ' → K .normal l (Ms' ++ Ms) (.obj D (.deferred (some [])) :: (b ++ μ')))
    (hret : ∀ D Ms' μ', Xt .ret Ms' μ' → K .ret l (Ms' ++ Ms) (.obj D (.deferred (some [])) :: (b ++ μ')))
    (hexit : ∀ D id Ms' μ', Xt (.exit id) Ms' μ' → K (.exit id) l (Ms' ++ Ms) (.obj D (.deferred (some [])) :: (b ++ μ'))) :
    W c (.rangeFunc g ps assign body) K l Ms μ := fun act w hh => by
  refine wpIn_rangeFunc fun fn _ => ?_
  let rec0 : Loop := { state := .ready, pending := none, fn, tmps := act.tmps, params := ps, assign, body, defers := w.heap.size }
  let W1 := (w.alloc (.deferred (some []))).alloc (.loop rec0)
  have hm1 : MemOk c Ms (.obj (w.heap.size + 1) (.loop rec0) :: .obj w.heap.size (.deferred (some [])) :: μ) W1 := by
    have := (hh.mem.newO (.deferred (some []))).newO (.loop rec0)
    rwa [World.size_alloc] at this
  have hs' : Split (.obj (w.heap.size + 1) (.loop rec0) :: .obj w.heap.size (.deferred (some [])) :: μ) (.obj (w.heap.size + 1) (.loop rec0) :: a) (.obj w.heap.size (.deferred (some [])) :: b) := .l _ (.r _ hs)
  refine ⟨w.heap.size + 1, [{ target := .collected w.heap.size, args := #[] }], W1, { target := .fn (.func gf) caps, args := #[.func (.yield (w.heap.size + 1)) #[] #[]] }, W1, gf,
    #[.func (.yield (w.heap.size + 1)) #[] #[]] ++ caps, W1, ?_, ?_, ?_, ?_, fun _ => ?_, ?_⟩
  · show (Instr.enterLoop fn act.tmps ps assign body c.r).run P w = _
    rw [hr]; exact run_enterLoop_outer _ _ _ _ _
  · simp only [resolve, hh.lk hg, Deferred.ofValue]
    simp [go_sem]
  · intro f' _; trivial
  · simp [invoke, hc.c]
  · rename_i h; cases h
  · have hfn := hit (w.heap.size + 1) (fun k Ms' μ' => ∃ μ0, μ' = .obj (w.heap.size + 1) (.loop rec0) :: μ0 ∧ St k Ms' μ0)
      (fun Ms' μ' => ∃ e j μ0, μ' = .obj (w.heap.size + 1) (.loop { rec0 with state := .done, pending := some j }) :: μ0 ∧ Xt e Ms' μ0 ∧ ((e = .ret ∧ j = .ret) ∨ ∃ id, e = .exit id ∧ j = .exit id))
      (by rintro k Ms' μ' ⟨μ0, rfl, h⟩; exact hStm k Ms' μ0 h)
      (by rintro Ms' μ' ⟨e, j, μ0, rfl, h, _⟩; exact hXtm e Ms' μ0 h)
      (by
        rintro k hk Ms' μ' ⟨μ0, rfl, h⟩
        exact YieldM.of_W (n := n) (l := l) rfl hh.size hh.slots (by simp [rec0, hps]) hpn rfl (hStm k _ _ h) (fun c' h1 h2 => hround k hk _ _ _ h c' h1 h2))
      M1 (.obj (w.heap.size + 1) (.loop rec0) :: a) ⟨a, rfl, h0⟩
    have hM01 : ∀ m ∈ M0 ++ M1, m ∈ Ms := fun m hm => (List.mem_append.1 hm).elim (hM0 m) (hM1 m)
    have hcall := hfn W1 (hm1.pre hs' hM01)
    rw [hr]
    refine callsIn_wide.2 (hcall.mono ?_)
    rintro e w3 ⟨v, Ms', μ', rfl, hQ, ht⟩
    have hm3 := hm1.tr hs' hM01 ht
    have hDf : act.defers = marksOf b ++ c.D := by rw [hh.defers, hs.marks hma]
    rcases hQ with ⟨μ0, rfl, h⟩ | ⟨e, j, μ0, rfl, h, hj⟩
    · obtain ⟨w4, h1, h2⟩ := endLoop_to (a := { act with defers := [{ target := .collected w.heap.size, args := #[] }] ++ act.defers }) (l := l) (K := K) (e := .normal) (by simp [rec0]) hm3 hh.size (by rw [hDf]; rfl) (hStm _ _ _ h) hh.slots (hdone _ _ _ h)
      exact ⟨_, w4, h1, h2⟩
    · rcases hj with ⟨rfl, rfl⟩ | ⟨id, rfl, rfl⟩
      · obtain ⟨w4, h1, h2⟩ := endLoop_to (a := { act with defers := [{ target := .collected w.heap.size, args := #[] }] ++ act.defers }) (l := l) (K := K) (e := .ret) (by simp) hm3 hh.size (by rw [hDf]; rfl) (hXtm _ _ _ h) hh.slots (hret _ _ _ h)
        exact ⟨_, w4, h1, wpIn_ret h2⟩
      · obtain ⟨w4, h1, h2⟩ := endLoop_to (a := { act with defers := [{ target := .collected w.heap.size, args := #[] }] ++ act.defers }) (l := l) (K := K) (e := .exit id) (by simp) hm3 hh.size (by rw [hDf]; rfl) (hXtm _ _ _ h) hh.slots (hexit _ _ _ _ h)
        exact ⟨_, w4, h1, wpIn_exit h2⟩
end

open Go Go.RowKit

/-- A scalar type: the equality of its values. -/
class TS (P : Program) (e : TypeId) {α : Type} [DecidableEq α] (enc : α → Value) : Prop where
  flat : ∀ w, (isAgg e).run P w = .ok false w
  eq : ∀ (d : Nat) (w : World) (a b : α), (Op.equalIn (d + 1) e (enc a) (enc b)).run P w = .ok (decide (a = b)) w
  check : ∀ (em : Bool) (d : Nat) (w : World) (a : α), (Instr.checkKey em (d + 1) e (enc a)).run P w = .ok () w
abbrev vb (b : Bool) : Value := .bool b
instance TS.int {P : Program} {e : TypeId} [h : TU P e (.int .i64)] : TS P e vi := by
  refine ⟨TU.flat h rfl, fun d w a b => ?_, fun em d w a => ?_⟩
  · rw [run_equalIn_int w d e .i64 .i64 a b h.u]
    by_cases e : a = b <;> simp [e]
  · simp [Instr.checkKey, run_underlying h.u]
instance TS.bool {P : Program} {e : TypeId} [h : TU P e .bool] : TS P e vb := by
  refine ⟨TU.flat h rfl, fun d w a b => ?_, fun em d w a => ?_⟩
  · rw [run_equalIn_bool' w d e a b h.u]
    cases a <;> cases b <;> rfl
  · simp [Instr.checkKey, run_underlying h.u]

/-- A type of n scalars. -/
class TQ (P : Program) (t : TypeId) (n : Nat) {α : Type} [DecidableEq α] (enc : α → Value) : Prop where
  eq : ∀ (d : Nat) (w : World) (xs ys : List α), xs.length = n → ys.length = n → (Op.equalIn (d + 2) t (.agg (xs.map enc).toArray) (.agg (ys.map enc).toArray)).run P w = .ok (decide (xs = ys)) w
  guard : P.eqGuardType P.depth t = false
/-- The same as a type of keys. -/
class TK (P : Program) (t : TypeId) (n : Nat) {α : Type} [DecidableEq α] (enc : α → Value) : Prop extends TQ P t n enc where
  struct : ∃ fs, P.underlying t = some (.struct fs)
  check : ∀ (em : Bool) (d : Nat) (w : World) (xs : List α), xs.length = n → (Instr.checkKey em (d + 2) t (.agg (xs.map enc).toArray)).run P w = .ok () w

theorem part_flat {P : Program} {e : TypeId} {w : World} (hf : (isAgg e).run P w = .ok false w) {cs : Array Value} {off : Nat} {v : Value} (h : cs[off]? = some v) : (part e cs off).run P w = .ok v w := by
  simp only [part, Sem.run_bind, hf, Result.andThen_ok, Bool.false_eq_true, if_false, h, Sem.run_pure]

section
variable {P : Program} {α : Type} {enc : α → Value}
theorem drop_eq_iff {xs ys : List α} {k : Nat} (h1 : k < xs.length) (h2 : k < ys.length) : xs.drop k = ys.drop k ↔ xs[k] = ys[k] ∧ xs.drop (k + 1) = ys.drop (k + 1) := by
  rw [List.drop_eq_getElem_cons h1, List.drop_eq_getElem_cons h2, List.cons.injEq]
variable [DecidableEq α]
theorem run_eqFields {w : World} {d : Nat} {xs ys : List α} (hl : xs.length = ys.length) : ∀ (fs : List Field) (k : Nat), k + fs.length = xs.length → (∀ j f, fs[j]? = some f → f.offset = k + j ∧ f.name ≠ "_" ∧ TS P f.type enc) →
    (Op.eqFields (d + 1) (xs.map enc).toArray (ys.map enc).toArray fs).run P w = .ok (decide (xs.drop k = ys.drop k)) w
  | [], k, hk, _ => by
    rw [List.drop_of_length_le (by simp at hk; omega), List.drop_of_length_le (by simp at hk; omega)]
    simp [Op.eqFields]
  | f :: fs, k, hk, h => by
    simp only [List.length_cons] at hk
    obtain ⟨h1, h2, h3⟩ := h 0 f rfl
    have e1 : k < xs.length := by omega
    have e2 : k < ys.length := by omega
    have p1 := part_flat (P := P) (e := f.type) (w := w) (h3.flat w) (cs := (xs.map enc).toArray) (off := f.offset) (v := enc xs[k]) (by rw [h1]; simp [e1])
    have p2 := part_flat (P := P) (e := f.type) (w := w) (h3.flat w) (cs := (ys.map enc).toArray) (off := f.offset) (v := enc ys[k]) (by rw [h1]; simp [e2])
    have ih := run_eqFields (w := w) (d := d) hl fs (k + 1) (by omega) (fun j g hj => by
      obtain ⟨a, b, c⟩ := h (j + 1) g hj
      exact ⟨by omega, b, c⟩)
    simp only [Op.eqFields, h2, ne_eq, not_false_eq_true, if_true, Sem.run_bind, p1, p2, Result.andThen_ok, h3.eq d w]
    by_cases e : xs[k] = ys[k]
    · simp only [e, decide_true, Bool.not_true, Bool.false_eq_true, if_false, ih]
      congr 1
      simp only [drop_eq_iff e1 e2, e, true_and]
    · simp only [e, decide_false, Bool.not_false, if_true, Sem.run_pure]
      congr 1
      symm
      simp only [decide_eq_false_iff_not, drop_eq_iff e1 e2, e, false_and, not_false_eq_true]
theorem run_eqItems {w : World} {d n : Nat} {e : TypeId} [h3 : TS P e enc] {xs ys : List α} (hn : xs.length = n) (hl : ys.length = n) : ∀ (r k : Nat), k + r = n →
    (Op.eqItems (d + 1) e 1 (xs.map enc).toArray (ys.map enc).toArray (List.range' k r)).run P w = .ok (decide (xs.drop k = ys.drop k)) w
  | 0, k, hk => by
    rw [List.drop_of_length_le (by omega), List.drop_of_length_le (by omega)]
    simp [Op.eqItems]
  | r + 1, k, hk => by
    have e1 : k < xs.length := by omega
    have e2 : k < ys.length := by omega
    have p1 := part_flat (P := P) (e := e) (w := w) (h3.flat w) (cs := (xs.map enc).toArray) (off := k * 1) (v := enc xs[k]) (by simp [e1])
    have p2 := part_flat (P := P) (e := e) (w := w) (h3.flat w) (cs := (ys.map enc).toArray) (off := k * 1) (v := enc ys[k]) (by simp [e2])
    have ih := run_eqItems (w := w) (d := d) (e := e) hn hl r (k + 1) (by omega)
    rw [List.range'_succ]
    simp only [Op.eqItems, Sem.run_bind, p1, p2, Result.andThen_ok, h3.eq d w]
    by_cases e : xs[k] = ys[k]
    · simp only [e, decide_true, Bool.not_true, Bool.false_eq_true, if_false, ih]
      congr 1
      simp only [drop_eq_iff e1 e2, e, true_and]
    · simp only [e, decide_false, Bool.not_false, if_true, Sem.run_pure]
      congr 1
      symm
      simp only [decide_eq_false_iff_not, drop_eq_iff e1 e2, e, false_and, not_false_eq_true]
theorem TK.mk' {t : TypeId} {n : Nat} {fs : Array Field} (ht : P.underlying t = some (.struct fs)) (hst : P.stoodInHeld t = false) (hg : P.eqGuardType P.depth t = false) (hn : fs.toList.length = n)
    (h : ∀ j f, fs.toList[j]? = some f → f.offset = 0 + j ∧ f.name ≠ "_" ∧ TS P f.type enc) : TK P t n enc := by
  have hfo : P.fieldsOf t = fs := by simp [Program.fieldsOf, ht]
  refine { eq := fun d w xs ys hx hy => ?_, guard := hg, struct := ⟨fs, ht⟩, check := fun em d w xs hx => ?_ }
  · rw [run_equalIn_struct w (d + 1) t _ _ (by rw [hfo]; exact ht) hst, hfo, run_eqFields (by omega) fs.toList 0 (by omega) h]
    simp
  · rw [Instr.checkKey]
    simp only [Sem.run_bind, run_underlying ht, Result.andThen_ok]
    rw [← Array.forIn_toList]
    have key : ∀ (L : List Field) (k : Nat), k + L.length = xs.length → (∀ j f, L[j]? = some f → f.offset = k + j ∧ f.name ≠ "_" ∧ TS P f.type enc) →
        (∀ f ∈ L, f.name ≠ "_" ∧ ∃ v, (part f.type (xs.map enc).toArray f.offset).run P w = .ok v w ∧ (Instr.checkKey em (d + 1) f.type v).run P w = .ok () w) := by
      intro L
      induction L with
      | nil => intro k _ _ f hf; cases hf
      | cons g L ih =>
        intro k hk hL f hf
        simp only [List.length_cons] at hk
        rcases List.mem_cons.1 hf with rfl | hf
        · obtain ⟨h1, h2, h3⟩ := hL 0 f rfl
          have e1 : k < xs.length := by omega
          exact ⟨h2, _, part_flat (h3.flat w) (v := enc xs[k]) (by rw [h1]; simp [e1]), h3.check em d w _⟩
        · exact ih (k + 1) (by omega) (fun j f hj => by
            obtain ⟨a, b, c⟩ := hL (j + 1) f hj
            exact ⟨by omega, b, c⟩) f hf
    have hall := key fs.toList 0 (by omega) h
    generalize fs.toList = L at hall
    induction L with
    | nil => simp
    | cons f L ih =>
      obtain ⟨hn', v, p1, p2⟩ := hall f (.head _)
      simp only [List.forIn_cons, Sem.run_bind, hn', ne_eq, not_false_eq_true, if_true, Result.andThen_ok, p1, p2, Sem.run_pure]
      exact ih (fun y hy => hall y (.tail _ hy))
/-- Fields one after the other, from a place on. -/
def AllF (P : Program) {α : Type} [DecidableEq α] (enc : α → Value) : List Field → Nat → Prop
  | [], _ => True
  | f :: fs, k => (f.offset = k ∧ f.name ≠ "_" ∧ TS P f.type enc) ∧ AllF P enc fs (k + 1)
theorem AllF.get : ∀ {fs : List Field} {k : Nat}, AllF P enc fs k → ∀ j f, fs[j]? = some f → f.offset = k + j ∧ f.name ≠ "_" ∧ TS P f.type enc
  | [], _, _, j, f, h => by simp at h
  | g :: fs, k, hk, 0, f, h => by simp at h; subst h; exact hk.1
  | g :: fs, k, hk, j + 1, f, h => by
    simp at h
    obtain ⟨a, b, c⟩ := AllF.get hk.2 j f h
    exact ⟨by omega, b, c⟩
theorem TK.of {t : TypeId} {n : Nat} {fs : Array Field} (ht : P.underlying t = some (.struct fs)) (hst : P.stoodInHeld t = false) (hg : P.eqGuardType P.depth t = false) (hn : fs.toList.length = n) (h : AllF P enc fs.toList 0) : TK P t n enc :=
  TK.mk' ht hst hg hn h.get
theorem TQ.array {t e : TypeId} {n bytes : Nat} {z : Value} (ht : P.underlying t = some (.array n e)) (hg : P.eqGuardType P.depth t = false) [hi : TI P e 1 bytes z] [TS P e enc] : TQ P t n enc := by
  obtain ⟨i, hi1, hi2, hi3, hi4⟩ := hi.i
  have hco : P.cellsOf e = 1 := by simp [Program.cellsOf, hi1, hi2]
  refine ⟨fun d w xs ys hx hy => ?_, hg⟩
  rw [run_equalIn_array w (d + 1) _ _ ht hi1, hco, List.range_eq_range', run_eqItems hx hy n 0 (by omega)]
  simp
end

section
variable {P : Program} {n : Nat} {c : Cx P n} {K : Post} {l : List (Nat × Value)} {Ms : List Mem} {μ : List Res}
variable {dst : Option Tmp} {x y z : Operand} {t ty : TypeId} {pos : String} {af : Array Edge} {gd : Option (Nat × Bool)} {ops : Array Oper} {rest : List Oper}
theorem OpVal.eqQ {t' : TypeId} {N : Nat} {α : Type} [DecidableEq α] {enc : α → Value} [hq : TQ P t N enc] {xs ys : List α} (hx : lk l x = some (.agg (xs.map enc).toArray)) (hy : lk l y = some (.agg (ys.map enc).toArray)) (h1 : xs.length = N) (h2 : ys.length = N) :
    OpVal c ⟨dst, .binOp .eql t x y t', ty, pos, af, gd⟩ l Ms μ (.bool (decide (xs = ys))) :=
  OpVal.of_runs (by simp) (by simp) fun a w hh => by
    simp only [execOp, hh.lk hx, hh.lk hy, Sem.run_bind, run_eqGuard_agg w .eql t x y _ _ hq.guard, Result.andThen_ok, run_eql_struct, hq.eq 9998 w xs ys h1 h2, Sem.run_pure]
theorem OpVal.neqQ {t' : TypeId} {N : Nat} {α : Type} [DecidableEq α] {enc : α → Value} [hq : TQ P t N enc] {xs ys : List α} (hx : lk l x = some (.agg (xs.map enc).toArray)) (hy : lk l y = some (.agg (ys.map enc).toArray)) (h1 : xs.length = N) (h2 : ys.length = N) :
    OpVal c ⟨dst, .binOp .neq t x y t', ty, pos, af, gd⟩ l Ms μ (.bool (!decide (xs = ys))) :=
  OpVal.of_runs (by simp) (by simp) fun a w hh => by
    simp only [execOp, hh.lk hx, hh.lk hy, Sem.run_bind, run_eqGuard_agg w .neq t x y _ _ hq.guard, Result.andThen_ok, run_neq_struct, hq.eq 9998 w xs ys h1 h2, Sem.run_pure]
end

open Go Go.RowKit

/-- The law of a type of keys: enc x the key of x. -/
structure KeyT (P : Program) (k : TypeId) {κ : Type} (enc : κ → Value) (ok : κ → Prop) : Prop where
  inj : ∀ {x y}, ok x → ok y → enc x = enc y → x = y
  check : ∀ (em : Bool) (w : World) {x}, ok x → (Instr.checkKey em 10000 k (enc x)).run P w = .ok () w
  find : ∀ (w : World) {x}, ok x → ∀ es : List MapEntry, (∀ e ∈ es, ∃ y, ok y ∧ e.key = enc y) →
    ((Instr.findKey k (enc x) es).run P w = .ok none w ∧ ∀ e ∈ es, e.key ≠ enc x) ∨ ∃ j e, (Instr.findKey k (enc x) es).run P w = .ok (some (j, e.val)) w ∧ es[j]? = some e ∧ e.key = enc x
  stays : ∀ (w : World) {x}, ok x → (Instr.keyThatStays (enc x) (enc x)).run P w = .ok (enc x) w
class TMK (P : Program) (k : TypeId) {κ : Type} (enc : κ → Value) (ok : κ → Prop) : Prop where
  law : KeyT P k enc ok

/-- Keys of n numbers. -/
abbrev vq (xs : List Int) : Value := .agg (xs.map vi).toArray
theorem vq_inj {xs ys : List Int} (h : vq xs = vq ys) : xs = ys := by
  injection h with h
  have := congrArg Array.toList h
  exact (List.map_inj_right (fun a b e => by injection e)).1 this
theorem zip_self_mem {α : Type} : ∀ {l : List α} {p : α × α}, p ∈ l.zip l → p.1 = p.2
  | a :: l, p, h => by
    rw [List.zip_cons_cons] at h
    rcases List.mem_cons.1 h with rfl | h
    · rfl
    · exact zip_self_mem h
theorem sameBits_refl (xs : List Int) (d : Nat) : Instr.sameBits (d + 1 + 1) (vq xs) (vq xs) = true := by
  unfold Instr.sameBits
  simp only [beq_self_eq_true, Bool.true_and, List.all_eq_true]
  rintro ⟨a, b⟩ hp
  have hab : a = b := zip_self_mem hp
  subst hab
  obtain ⟨n, _, rfl⟩ := List.mem_map.1 (List.of_mem_zip hp).1
  simp [Instr.sameBits]
instance TMK.agg {P : Program} {k : TypeId} {n : Nat} [hk : TK P k n vi] : TMK P k vq (fun xs => xs.length = n) := ⟨by
  refine ⟨fun _ _ h => vq_inj h, fun em w x hx => hk.check em 9998 w x hx, fun w x hx es hes => ?_, fun w x hx => ?_⟩
  · have key : ∀ (es : List MapEntry), (∀ e ∈ es, ∃ y : List Int, y.length = n ∧ e.key = vq y) → ∀ i, ((Instr.findAsking k (vq x) es i).run P w = .ok none w ∧ ∀ e ∈ es, e.key ≠ vq x) ∨
        ∃ j e, (Instr.findAsking k (vq x) es i).run P w = .ok (some (i + j, e.val)) w ∧ es[j]? = some e ∧ e.key = vq x := by
      intro es
      induction es with
      | nil => intro _ i; exact .inl ⟨by simp [Instr.findAsking], fun e he => by cases he⟩
      | cons e es ih =>
        intro hall i
        obtain ⟨y, hy, he⟩ := hall e (.head _)
        have hq : (Op.equal k (vq x) e.key).run P w = .ok (decide (x = y)) w := by rw [he]; exact hk.eq 9998 w x y hx hy
        by_cases hxy : x = y
        · subst hxy
          refine .inr ⟨0, e, ?_, rfl, he⟩
          simp [Instr.findAsking, hq]
        · rcases ih (fun e' he' => hall e' (.tail _ he')) (i + 1) with ⟨h1, h2⟩ | ⟨j, e', h1, h2, h3⟩
          · refine .inl ⟨?_, fun e' he' => ?_⟩
            · simp [Instr.findAsking, hq, hxy, h1]
            · rcases List.mem_cons.1 he' with rfl | he'
              · intro h; exact hxy (vq_inj (he.symm.trans h)).symm
              · exact h2 e' he'
          · refine .inr ⟨j + 1, e', ?_, h2, h3⟩
            simp [Instr.findAsking, hq, hxy, h1]
            omega
    obtain ⟨fs, ht⟩ := hk.struct
    cases es with
    | nil => exact .inl ⟨by simp [Instr.findKey, run_underlying ht, Instr.findNow], fun e he => by cases he⟩
    | cons e es =>
      have hnow : Instr.findNow (.struct fs) (vq x) (e :: es) 0 = none := by simp [Instr.findNow, Instr.sameNow]
      have hrun : (Instr.findKey k (vq x) (e :: es)).run P w = (Instr.findAsking k (vq x) (e :: es)).run P w := by
        simp only [Instr.findKey, Sem.run_bind, run_underlying ht, Result.andThen_ok, hnow]
      rw [hrun]
      have := key (e :: es) hes 0
      simpa using this
  · unfold Instr.keyThatStays
    rw [if_pos (sameBits_refl x 9998)]
    rfl⟩
instance TMK.int {P : Program} {k : TypeId} [hu : TU P k (.int .i64)] : TMK P k vi (fun _ => True) := ⟨by
  refine ⟨fun _ _ h => by injection h, fun em w x _ => ?_, fun w x _ es hes => ?_, fun w x _ => ?_⟩
  · exact (TS.int (P := P) (e := k)).check em 9999 w x
  · have key : ∀ (es : List MapEntry), (∀ e ∈ es, ∃ y : Int, True ∧ e.key = vi y) → ∀ i, (Instr.findNow (.int .i64) (vi x) es i = some none ∧ ∀ e ∈ es, e.key ≠ vi x) ∨
        ∃ j e, Instr.findNow (.int .i64) (vi x) es i = some (some (i + j, e.val)) ∧ es[j]? = some e ∧ e.key = vi x := by
      intro es
      induction es with
      | nil => intro _ i; exact .inl ⟨rfl, fun e he => by cases he⟩
      | cons e es ih =>
        intro hall i
        obtain ⟨y, _, he⟩ := hall e (.head _)
        by_cases hxy : x = y
        · subst hxy
          exact .inr ⟨0, e, by simp [Instr.findNow, Instr.sameNow, he], rfl, he⟩
        · rcases ih (fun e' he' => hall e' (.tail _ he')) (i + 1) with ⟨h1, h2⟩ | ⟨j, e', h1, h2, h3⟩
          · refine .inl ⟨by simp only [Instr.findNow, Instr.sameNow, he, if_true, beq_eq_false_iff_ne.2 hxy, h1], fun e' he' => ?_⟩
            rcases List.mem_cons.1 he' with rfl | he'
            · intro h; rw [he] at h; injection h with _ h; exact hxy h.symm
            · exact h2 e' he'
          · refine .inr ⟨j + 1, e', ?_, h2, h3⟩
            simp only [Instr.findNow, Instr.sameNow, he, if_true, beq_eq_false_iff_ne.2 hxy, h1]
            congr 3
            omega
    rcases key es hes 0 with ⟨h1, h2⟩ | ⟨j, e, h1, h2, h3⟩
    · exact .inl ⟨by simp [Instr.findKey, run_underlying hu.u, h1], h2⟩
    · exact .inr ⟨j, e, by simp [Instr.findKey, run_underlying hu.u, h1], h2, h3⟩
  · simp [Instr.keyThatStays, Instr.sameBits]⟩

/-- A map's entries: g the value of each key, z that of those that are not there. -/
structure MapG {κ : Type} (enc : κ → Value) (ok : κ → Prop) (z : Value) (es : Array MapEntry) (clock : Nat) (g : κ → Value) : Prop where
  keys : ∀ e ∈ es.toList, ∃ y, ok y ∧ e.key = enc y ∧ e.val = g y
  miss : ∀ y, ok y → (∀ e ∈ es.toList, e.key ≠ enc y) → g y = z
  stamped : MapKept.Stamped es clock
theorem MapG.empty {κ : Type} (enc : κ → Value) (ok : κ → Prop) (z : Value) : MapG enc ok z #[] 0 (fun _ => z) :=
  ⟨fun e he => by simp at he, fun _ _ _ => rfl, ⟨fun e he => by simp at he, by simp, by simp⟩⟩
theorem MapG.congr {κ : Type} {enc : κ → Value} {ok : κ → Prop} {z : Value} {es : Array MapEntry} {clock : Nat} {g g' : κ → Value} (h : MapG enc ok z es clock g) (e : ∀ y, ok y → g y = g' y) : MapG enc ok z es clock g' :=
  ⟨fun x hx => let ⟨y, h1, h2, h3⟩ := h.keys x hx; ⟨y, h1, h2, h3.trans (e y h1)⟩, fun y hy hn => (e y hy).symm.trans (h.miss y hy hn), h.stamped⟩
/-- What a read for a write leaves: the entries, the clock, the stamp. -/
noncomputable def mapEnt (es : Array MapEntry) (clock : Nat) (key z : Value) : Array MapEntry × Nat × Nat :=
  open Classical in if h : ∃ e ∈ es.toList, e.key = key then (es, clock, (Classical.choose h).born) else (es.push ⟨key, z, clock⟩, clock + 1, clock)
theorem nodup_map {α β : Type} {f : α → β} : ∀ {l : List α}, (l.map f).Nodup → ∀ {i j : Nat} {a b : α}, l[i]? = some a → l[j]? = some b → f a = f b → i = j
  | [], _, i, _, _, _, h, _, _ => by simp at h
  | x :: l, hn, i, j, a, b, h1, h2, e => by
    simp only [List.map_cons, List.nodup_cons] at hn
    cases i with
    | zero =>
      cases j with
      | zero => rfl
      | succ j =>
        simp at h1 h2
        subst h1
        exact absurd (List.mem_map.2 ⟨b, List.mem_of_getElem? h2, e.symm⟩) hn.1
    | succ i =>
      cases j with
      | zero =>
        simp at h1 h2
        subst h2
        exact absurd (List.mem_map.2 ⟨a, List.mem_of_getElem? h1, e⟩) hn.1
      | succ j =>
        simp at h1 h2
        rw [nodup_map hn.2 h1 h2 e]
theorem entry_unique {es : Array MapEntry} {clock : Nat} (h : MapKept.Stamped es clock) {e e' : MapEntry} (h1 : e ∈ es.toList) (h2 : e' ∈ es.toList) (hk : e.key = e'.key) : e = e' := by
  obtain ⟨i, hi⟩ := List.mem_iff_getElem?.1 h1
  obtain ⟨j, hj⟩ := List.mem_iff_getElem?.1 h2
  have := nodup_map h.2.2 hi hj hk
  subst this
  rw [hi] at hj; cases hj; rfl
theorem set_same {α : Type} : ∀ {l : List α} {j : Nat} {a : α}, l[j]? = some a → l.set j a = l
  | [], _, _, h => by simp at h
  | b :: r, 0, a, h => by simp at h; subst h; rfl
  | b :: r, j + 1, a, h => by simp at h; simp [set_same h]

section
variable {P : Program} {κ : Type} {enc : κ → Value} {ok : κ → Prop} {z : Value} {es : Array MapEntry} {clock : Nat} {g : κ → Value} {w : World} {mt kt et : TypeId} {b : Nat}

theorem MapG.reads (h : MapG enc ok z es clock g) : ∀ e ∈ es.toList, ∃ y, ok y ∧ e.key = enc y := fun e he => let ⟨y, h1, h2, _⟩ := h.keys e he; ⟨y, h1, h2⟩
theorem run_lookupG (hm : TU P mt (.map kt et)) (K : KeyT P kt enc ok) {size bytes : Nat} (hi : TI P et size bytes z) (hb : w.heap[b]? = some (.map es clock)) (h : MapG enc ok z es clock g) {x : κ} (hx : ok x) :
    (Instr.lookup mt (.map (some b)) (enc x) false).run P w = .ok (g x) w := by
  rcases K.find w hx es.toList h.reads with ⟨h1, h2⟩ | ⟨j, e, h1, h2, h3⟩
  · simp [Instr.lookup, run_underlying hm.u, MapKept.run_getObj_map hb, K.check _ w hx, h1, hi.zero, h.miss x hx h2, Result.andThen]
  · obtain ⟨y, hy, hk, hv⟩ := h.keys e (List.mem_of_getElem? h2)
    have : x = y := K.inj hx hy (h3.symm.trans hk)
    subst this
    simp [Instr.lookup, run_underlying hm.u, MapKept.run_getObj_map hb, K.check _ w hx, h1, hv, Result.andThen]
theorem run_entryG (hm : TU P mt (.map kt et)) (K : KeyT P kt enc ok) {size bytes : Nat} (hi : TI P et size bytes z) (hb : w.heap[b]? = some (.map es clock)) (h : MapG enc ok z es clock g) {x : κ} (hx : ok x) :
    (Instr.mapEntry mt (.map (some b)) (enc x)).run P w = .ok (.tuple #[g x, vi (mapEnt es clock (enc x) z).2.2]) (w.putObj b (.map (mapEnt es clock (enc x) z).1 (mapEnt es clock (enc x) z).2.1)) := by
  rcases K.find w hx es.toList h.reads with ⟨h1, h2⟩ | ⟨j, e, h1, h2, h3⟩
  · have hme : mapEnt es clock (enc x) z = (es.push ⟨enc x, z, clock⟩, clock + 1, clock) := by
      unfold mapEnt; rw [dif_neg (fun ⟨e, he, hk⟩ => h2 e he hk)]
    rw [hme]
    simp [Instr.mapEntry, run_underlying hm.u, MapKept.run_getObj_map hb, K.check _ w hx, h1, hi.zero, h.miss x hx h2, MapKept.run_setObj_map _ hb, Result.andThen, World.putObj, goInt]
  · obtain ⟨y, hy, hk, hv⟩ := h.keys e (List.mem_of_getElem? h2)
    have : x = y := K.inj hx hy (h3.symm.trans hk)
    subst this
    have hex : ∃ e ∈ es.toList, e.key = enc x := ⟨e, List.mem_of_getElem? h2, h3⟩
    have hch : (Classical.choose hex) = e := entry_unique h.stamped (Classical.choose_spec hex).1 (List.mem_of_getElem? h2) ((Classical.choose_spec hex).2.trans h3.symm)
    have hme : mapEnt es clock (enc x) z = (es, clock, e.born) := by
      unfold mapEnt; rw [dif_pos hex, hch]
    have hj : es[j]? = some e := by simpa using h2
    have hsame : es.modify j (fun e => { e with key := enc x }) = es := by
      apply Array.ext'
      rw [Array.toList_modify, ChangeMaps.modify_eq_set _ _ _ _ h2]
      have : ({ e with key := enc x } : MapEntry) = e := by rw [← h3]
      rw [this]
      exact set_same h2
    rw [hme]
    simp [Instr.mapEntry, run_underlying hm.u, MapKept.run_getObj_map hb, K.check _ w hx, h1, hj, h3, K.stays w hx, hsame, MapKept.run_setObj_map _ hb, Result.andThen, World.putObj, goInt, hv]
/-- The stamp of a key's entry. -/
theorem mapEnt_spec (h : MapG enc ok z es clock g) {x : κ} (hx : ok x) : MapG enc ok z (mapEnt es clock (enc x) z).1 (mapEnt es clock (enc x) z).2.1 g ∧
    ∃ (j : Nat) (e : MapEntry), (mapEnt es clock (enc x) z).1.toList[j]? = some e ∧ e.key = enc x ∧ e.born = (mapEnt es clock (enc x) z).2.2 := by
  unfold mapEnt
  split
  · rename_i hex
    obtain ⟨h1, h2⟩ := Classical.choose_spec hex
    obtain ⟨j, hj⟩ := List.mem_iff_getElem?.1 h1
    exact ⟨h, j, _, hj, h2, rfl⟩
  · rename_i hno
    have hno' : ∀ e ∈ es.toList, e.key ≠ enc x := fun e he hk => hno ⟨e, he, hk⟩
    refine ⟨⟨fun e he => ?_, fun y hy hn => ?_, MapKept.stamped_push h.stamped hno'⟩, es.size, ⟨enc x, z, clock⟩, by simp, rfl, rfl⟩
    · simp only [Array.toList_push, List.mem_append, List.mem_singleton] at he
      rcases he with he | rfl
      · exact h.keys e he
      · exact ⟨x, hx, rfl, (h.miss x hx hno').symm⟩
    · exact h.miss y hy (fun e he => hn e (by simp [he]))
theorem findIdx_born {l : List MapEntry} (hn : (l.map (·.born)).Nodup) {j : Nat} {e0 : MapEntry} (h : l[j]? = some e0) : l.findIdx? (fun e => ((e.born : Nat) : Int) == ((e0.born : Nat) : Int)) = some j := by
  induction l generalizing j with
  | nil => simp at h
  | cons a r ih =>
    simp only [List.map_cons, List.nodup_cons] at hn
    cases j with
    | zero =>
      simp only [List.getElem?_cons_zero, Option.some.injEq] at h
      subst h
      simp [List.findIdx?_cons]
    | succ j =>
      simp only [List.getElem?_cons_succ] at h
      have hne : a.born ≠ e0.born := fun e1 => hn.1 (List.mem_map.2 ⟨e0, List.mem_of_getElem? h, e1.symm⟩)
      have hb : (((a.born : Nat) : Int) == ((e0.born : Nat) : Int)) = false := by
        simp only [beq_eq_false_iff_ne, ne_eq, Int.natCast_inj]
        exact hne
      rw [List.findIdx?_cons, hb]
      simp [ih hn.2 h]
open Classical in
/-- One value of a map turned. -/
noncomputable def upd (g : κ → Value) (x : κ) (v : Value) : κ → Value := fun y => if y = x then v else g y
theorem modify_G (K : KeyT P kt enc ok) (h : MapG enc ok z es clock g) {x : κ} (hx : ok x) {j : Nat} {e : MapEntry} (hj : es.toList[j]? = some e) (hk : e.key = enc x) (v : Value) (f : MapEntry → MapEntry)
    (hf : ∀ e', e'.key = enc x → (f e').key = enc x) (hfb : ∀ e', (f e').born = e'.born) (hfv : ∀ e', (f e').val = v) : MapG enc ok z (es.modify j f) clock (upd g x v) := by
  have hm : (es.modify j f).toList = es.toList.set j (f e) := by rw [Array.toList_modify, ChangeMaps.modify_eq_set _ _ _ _ hj]
  have hju : ∀ e', es[j]? = some e' → e' = e := fun e' he' => by
    have : es[j]? = some e := by simpa using hj
    rw [this] at he'; cases he'; rfl
  refine ⟨fun e' he' => ?_, fun y hy hn => ?_, MapKept.stamped_modify h.stamped j f (fun e' _ => hfb e') (fun e' _ he' => by rw [hju e' he', hf e hk, hk])⟩
  · rcases MapFrom.mem_modify he' with he' | ⟨e2, he2, rfl⟩
    · -- an entry that stays: of another key, or the same entry
      obtain ⟨y, hy, hky, hvy⟩ := h.keys e' he'
      by_cases hxy : y = x
      · subst hxy
        have hee : e' = e := entry_unique h.stamped he' (List.mem_of_getElem? hj) (hky.trans hk.symm)
        subst hee
        -- then it is the one turned
        obtain ⟨i, hi⟩ := List.mem_iff_getElem?.1 (show e' ∈ (es.modify j f).toList from by assumption)
        rw [hm, List.getElem?_set] at hi
        split at hi
        · split at hi
          · refine ⟨y, hy, hky, ?_⟩
            simp only [Option.some.injEq] at hi
            rw [← hi, hfv]; simp [upd]
          · cases hi
        · rename_i hne
          exact absurd (nodup_map h.stamped.2.2 hj hi rfl) hne
      · exact ⟨y, hy, hky, by simp [upd, hxy, hvy]⟩
    · rw [hju e2 he2]
      exact ⟨x, hx, hf e hk, by rw [hfv]; simp [upd]⟩
  · have hyx : y ≠ x := fun e1 => by
      subst e1
      refine hn (f e) ?_ (hf e hk)
      rw [hm]
      exact List.mem_of_getElem? (i := j) (by rw [List.getElem?_set_self (List.getElem?_eq_some_iff.1 hj).1])
    simp only [upd, hyx, if_false]
    refine h.miss y hy fun e' he' hk' => ?_
    obtain ⟨i, hi⟩ := List.mem_iff_getElem?.1 he'
    by_cases hij : i = j
    · subst hij
      rw [hj] at hi; cases hi
      exact hyx (K.inj hy hx (hk'.symm.trans hk))
    · refine hn e' ?_ hk'
      rw [hm]
      exact List.mem_of_getElem? (i := i) (by rw [List.getElem?_set_ne (fun e => hij e.symm)]; exact hi)
theorem run_storeG (hinj : KeyT P kt enc ok) (h : MapG enc ok z es clock g) {x : κ} (hx : ok x) (v : Value) (hb : w.heap[b]? = some (.map (mapEnt es clock (enc x) z).1 (mapEnt es clock (enc x) z).2.1)) :
    ∃ es', (Instr.entryStore mt (.map (some b)) (vi (mapEnt es clock (enc x) z).2.2) v).run P w = .ok () (w.putObj b (.map es' (mapEnt es clock (enc x) z).2.1)) ∧ MapG enc ok z es' (mapEnt es clock (enc x) z).2.1 (upd g x v) := by
  obtain ⟨hG, j, e, h1, h2, h3⟩ := mapEnt_spec h hx
  generalize mapEnt es clock (enc x) z = M at *
  have hidx : M.1.findIdx? (fun e => ((e.born : Nat) : Int) == ((M.2.2 : Nat) : Int)) = some j := by
    rw [← h3, show ∀ (xs : Array MapEntry) (p : MapEntry → Bool), xs.findIdx? p = xs.toList.findIdx? p from fun xs p => by cases xs; simp]
    exact findIdx_born hG.stamped.2.1 h1
  refine ⟨_, ?_, modify_G hinj hG hx h1 h2 v (fun e => { e with val := v }) (fun _ hk => hk) (fun _ => rfl) (fun _ => rfl)⟩
  simp [Instr.entryStore, MapKept.run_getObj_map hb, asInt, asIntOf, hidx, MapKept.run_setObj_map _ hb, Result.andThen, World.putObj]
theorem run_updateG (hm : TU P mt (.map kt et)) (K : KeyT P kt enc ok) (hb : w.heap[b]? = some (.map es clock)) (h : MapG enc ok z es clock g) {x : κ} (hx : ok x) (v : Value) :
    ∃ es' clock', (Instr.mapUpdate mt (.map (some b)) (enc x) v).run P w = .ok () (w.putObj b (.map es' clock')) ∧ MapG enc ok z es' clock' (upd g x v) := by
  rcases K.find w hx es.toList h.reads with ⟨h1, h2⟩ | ⟨j, e, h1, h2, h3⟩
  · refine ⟨es.push ⟨enc x, v, clock⟩, clock + 1, ?_, ⟨fun e he => ?_, fun y hy hn => ?_, MapKept.stamped_push h.stamped h2⟩⟩
    · simp [Instr.mapUpdate, run_underlying hm.u, MapKept.run_getObj_map hb, K.check _ w hx, h1, MapKept.run_setObj_map _ hb, Result.andThen, World.putObj]
    · simp only [Array.toList_push, List.mem_append, List.mem_singleton] at he
      rcases he with he | rfl
      · obtain ⟨y, hy, hk, hv⟩ := h.keys e he
        have : y ≠ x := fun e1 => by subst e1; exact h2 e he hk
        exact ⟨y, hy, hk, by simp [upd, this, hv]⟩
      · exact ⟨x, hx, rfl, by simp [upd]⟩
    · have : y ≠ x := fun e1 => by subst e1; exact hn ⟨enc y, v, clock⟩ (by simp) rfl
      simp only [upd, this, if_false]
      exact h.miss y hy (fun e he => hn e (by simp [he]))
  · have hj : es[j]? = some e := by simpa using h2
    refine ⟨es.modify j (fun e' => { e' with key := enc x, val := v }), clock, ?_, modify_G K h hx h2 h3 v _ (fun _ _ => rfl) (fun _ => rfl) (fun _ => rfl)⟩
    simp [Instr.mapUpdate, run_underlying hm.u, MapKept.run_getObj_map hb, K.check _ w hx, h1, hj, h3, K.stays w hx, MapKept.run_setObj_map _ hb, Result.andThen, World.putObj]
end

/-- A map in persistent memory. -/
def IsMap (m : Mem) (b : Nat) {κ : Type} (enc : κ → Value) (ok : κ → Prop) (z : Value) (g : κ → Value) : Prop := ∃ es clock, m b = some (.map es clock) ∧ MapG enc ok z es clock g
theorem IsMap.le {m m' : Mem} {b : Nat} {κ : Type} {enc : κ → Value} {ok : κ → Prop} {z : Value} {g : κ → Value} (h : IsMap m b enc ok z g) (hm : MLe m m') : IsMap m' b enc ok z g := let ⟨es, clock, h1, h2⟩ := h; ⟨es, clock, hm b _ h1, h2⟩
section
variable {P : Program} {n : Nat} {c : Cx P n} {K : Post} {l : List (Nat × Value)} {Ms : List Mem} {μ : List Res}
variable {dst : Option Tmp} {x y u : Operand} {t ty : TypeId} {pos : String} {af : Array Edge} {gd : Option (Nat × Bool)} {ops : Array Oper} {rest : List Oper}
variable {κ : Type} {enc : κ → Value} {ok : κ → Prop} {z : Value} {es : Array MapEntry} {clock : Nat} {g : κ → Value} {kt et : TypeId} {b size bytes : Nat}
theorem WL.makeMap {d : Nat} (hw : want ops l ⟨dst, .makeMap t none, ty, pos, af, gd⟩ = some true) (hd : dst = some d) (hn : Nat.blt d n = true)
    (h : ∀ b, WL c ops rest K ((d, .map (some b)) :: l) Ms (.obj b (.map #[] 0) :: μ)) : WL c ops (⟨dst, .makeMap t none, ty, pos, af, gd⟩ :: rest) K l Ms μ :=
  WL.step hw fun a w hh => by
    refine ⟨fun _ _ => trivial, ?_⟩
    rw [Oper.semAt_eq _ _ _ (by simp)]
    have hr : (execOp a.eval ⟨dst, .makeMap t none, ty, pos, af, gd⟩).run P w = .ok (.value (.map (some w.heap.size))) (w.alloc (.map #[] 0)) := rfl
    rw [hr]
    subst hd
    exact h w.heap.size _ _ ((Holds.mk hh.size (by exact hh.defers) hh.slots (hh.mem.newO (.map #[] 0))).put (Nat.lt_of_blt hn) _)
theorem OpVal.lookupR [hm : TU P t (.map kt et)] [KT : TMK P kt enc ok] [hi : TI P et size bytes z] {k : κ} (hx : lk l x = some (.map (some b))) (hy : lk l y = some (enc k)) (hr : Res.obj b (.map es clock) ∈ μ) (h : MapG enc ok z es clock g) (hk : ok k) :
    OpVal c ⟨dst, .lookup t x y false, ty, pos, af, gd⟩ l Ms μ (g k) :=
  OpVal.of_runs (by simp) (by simp) fun a w hh => by
    have := run_lookupG hm KT.law hi (hh.mem.res _ hr) h hk
    simp only [execOp, hh.lk hx, hh.lk hy, Sem.run_bind, this, Result.andThen_ok, Sem.run_pure]
theorem OpVal.lookupP [hm : TU P t (.map kt et)] [KT : TMK P kt enc ok] [hi : TI P et size bytes z] {m : Mem} {k : κ} (hx : lk l x = some (.map (some b))) (hy : lk l y = some (enc k)) (h : IsMap m b enc ok z g) (hM : m ∈ Ms) (hk : ok k) :
    OpVal c ⟨dst, .lookup t x y false, ty, pos, af, gd⟩ l Ms μ (g k) :=
  OpVal.of_runs (by simp) (by simp) fun a w hh => by
    obtain ⟨es, clock, h1, h2⟩ := h
    have := run_lookupG hm KT.law hi (hh.mem.sub m hM b _ h1) h2 hk
    simp only [execOp, hh.lk hx, hh.lk hy, Sem.run_bind, this, Result.andThen_ok, Sem.run_pure]
theorem MemOk.putMap {w : World} {o o' : Obj} {μ' : List Res} (h : MemOk c Ms μ w) (hr : Repl (.obj b o) (.obj b o') μ μ') : MemOk c Ms μ' (w.putObj b o') :=
  h.turn hr (World.putObj_heap_same (Array.getElem?_eq_some_iff.1 (h.res _ hr.mem)).1) ⟨rfl, rfl, rfl, by simp, fun b' _ hb' => World.putObj_heap_other (fun e => hb' (by rw [e]; rfl))⟩ (fun b' hb' => .inl hb')
theorem WL.mapEntry [hm : TU P t (.map kt et)] [KT : TMK P kt enc ok] [hi : TI P et size bytes z] {d : Nat} {k : κ} {μ' : List Res} (hx : lk l x = some (.map (some b))) (hy : lk l y = some (enc k)) (h : MapG enc ok z es clock g) (hk : ok k)
    (hr : Repl (.obj b (.map es clock)) (.obj b (.map (mapEnt es clock (enc k) z).1 (mapEnt es clock (enc k) z).2.1)) μ μ')
    (hw : want ops l ⟨dst, .mapEntry t x y, ty, pos, af, gd⟩ = some true) (hd : dst = some d) (hn : Nat.blt d n = true)
    (h' : WL c ops rest K ((d, .tuple #[g k, vi (mapEnt es clock (enc k) z).2.2]) :: l) Ms μ') : WL c ops (⟨dst, .mapEntry t x y, ty, pos, af, gd⟩ :: rest) K l Ms μ :=
  WL.step hw fun a w hh => by
    refine ⟨fun _ _ => trivial, ?_⟩
    rw [Oper.semAt_eq _ _ _ (by simp)]
    have := run_entryG hm KT.law hi (hh.mem.res _ hr.mem) h hk
    have hr' : (execOp a.eval ⟨dst, .mapEntry t x y, ty, pos, af, gd⟩).run P w = .ok (.value (.tuple #[g k, vi (mapEnt es clock (enc k) z).2.2])) (w.putObj b (.map (mapEnt es clock (enc k) z).1 (mapEnt es clock (enc k) z).2.1)) := by
      simp only [execOp, hh.lk hx, hh.lk hy, Sem.run_bind, this, Result.andThen_ok, Sem.run_pure]
    rw [hr']
    subst hd
    exact h' _ _ ((Holds.mk hh.size (by rw [hr.marks rfl rfl]; exact hh.defers) hh.slots (hh.mem.putMap hr)).put (Nat.lt_of_blt hn) _)
theorem WL.entryStore [_hm : TU P t (.map kt et)] [KT : TMK P kt enc ok] {k : κ} {v : Value} {μ' : Array MapEntry → Nat → List Res} (hx : lk l x = some (.map (some b))) (hy : lk l y = some (vi (mapEnt es clock (enc k) z).2.2)) (hu : lk l u = some v) (h : MapG enc ok z es clock g) (hk : ok k)
    (hr : ∀ es' clock', Repl (.obj b (.map (mapEnt es clock (enc k) z).1 (mapEnt es clock (enc k) z).2.1)) (.obj b (.map es' clock')) μ (μ' es' clock'))
    (hw : want ops l ⟨none, .entryStore t x y u, ty, pos, af, gd⟩ = some true)
    (h' : ∀ es' clock', MapG enc ok z es' clock' (upd g k v) → WL c ops rest K l Ms (μ' es' clock')) : WL c ops (⟨none, .entryStore t x y u, ty, pos, af, gd⟩ :: rest) K l Ms μ :=
  WL.step hw fun a w hh => by
    refine ⟨fun _ _ => trivial, ?_⟩
    rw [Oper.semAt_eq _ _ _ (by simp)]
    obtain ⟨es', h1, h2⟩ := run_storeG (P := P) (mt := t) KT.law h hk v (hh.mem.res _ (hr #[] 0).mem)
    have hr' : (execOp a.eval ⟨none, .entryStore t x y u, ty, pos, af, gd⟩).run P w = .ok .skip (w.putObj b (.map es' (mapEnt es clock (enc k) z).2.1)) := by
      simp only [execOp, hh.lk hx, hh.lk hy, hh.lk hu, Sem.run_bind, h1, Result.andThen_ok, Sem.run_pure]
    rw [hr']
    exact h' _ _ h2 _ _ (Holds.mk hh.size (by rw [(hr es' _).marks rfl rfl]; exact hh.defers) hh.slots (hh.mem.putMap (hr es' _)))
theorem WL.mapUpdate [hm : TU P t (.map kt et)] [KT : TMK P kt enc ok] {k : κ} {v : Value} {μ' : Array MapEntry → Nat → List Res} (hx : lk l x = some (.map (some b))) (hy : lk l y = some (enc k)) (hu : lk l u = some v) (h : MapG enc ok z es clock g) (hk : ok k)
    (hr : ∀ es' clock', Repl (.obj b (.map es clock)) (.obj b (.map es' clock')) μ (μ' es' clock'))
    (hw : want ops l ⟨none, .mapUpdate t x y u, ty, pos, af, gd⟩ = some true)
    (h' : ∀ es' clock', MapG enc ok z es' clock' (upd g k v) → WL c ops rest K l Ms (μ' es' clock')) : WL c ops (⟨none, .mapUpdate t x y u, ty, pos, af, gd⟩ :: rest) K l Ms μ :=
  WL.step hw fun a w hh => by
    refine ⟨fun _ _ => trivial, ?_⟩
    rw [Oper.semAt_eq _ _ _ (by simp)]
    obtain ⟨es', clock', h1, h2⟩ := run_updateG hm KT.law (hh.mem.res _ (hr #[] 0).mem) h hk v
    have hr' : (execOp a.eval ⟨none, .mapUpdate t x y u, ty, pos, af, gd⟩).run P w = .ok .skip (w.putObj b (.map es' clock')) := by
      simp only [execOp, hh.lk hx, hh.lk hy, hh.lk hu, Sem.run_bind, h1, Result.andThen_ok, Sem.run_pure]
    rw [hr']
    exact h' _ _ h2 _ _ (Holds.mk hh.size (by rw [(hr es' _).marks rfl rfl]; exact hh.defers) hh.slots (hh.mem.putMap (hr es' _)))
theorem freeze_map {a : Act} {w : World} {μ' : List Res} (hp : Pick (.obj b (.map es clock)) μ μ') (hF : ∀ b, c.F b → b ∈ feet μ') (h : MapG enc ok z es clock g) (hh : Holds c l Ms μ a w) :
    ∃ mr, IsMap mr b enc ok z g ∧ Holds c l (mr :: Ms) μ' a w := by
  have hok : w.heap[b]? = some (.map es clock) := hh.mem.res _ hp.mem
  exact ⟨_, ⟨es, clock, by simp only [Res.foot, if_true]; exact hok, h⟩, hh.size, by rw [hp.marks rfl]; exact hh.defers, hh.slots, hh.mem.freeze hp hF⟩
theorem W.freezeMap {code : Code} {μ' : List Res} (hp : Pick (.obj b (.map es clock)) μ μ') (hF : ∀ b, c.F b → b ∈ feet μ') (h0 : MapG enc ok z es clock g)
    (h : ∀ mr, IsMap mr b enc ok z g → W c code K l (mr :: Ms) μ') : W c code K l Ms μ := fun a w hh => by
  obtain ⟨mr, h1, h2⟩ := freeze_map hp hF h0 hh
  exact h mr h1 a w h2
/-- A whole element of a row of one's own. -/
theorem OpVal.loadRA [hu : TL P t true] {bytes' : Nat} {z' : Value} {k : Nat} [hi : TI P t k bytes' z'] {T : TypeId} {v : Value} {N : Nat} {xs vs : List Value} {i : Nat} (hx : lk l x = some (EP v k i 0)) (hr : Res.row T k v N xs ∈ μ) (hlt : i < N) (hv : (xs.drop (i * k)).take k = vs) (hk : vs.length = k) :
    OpVal c ⟨dst, .load t x, ty, pos, af, gd⟩ l Ms μ (.agg vs.toArray) :=
  OpVal.of_runs (by simp) (by simp) fun a w hh => by
    have hok := hh.mem.res _ hr
    obtain ⟨a0, cap, rfl, h0⟩ := row_form hok
    obtain ⟨b, rfl⟩ := h0 (by omega)
    subst hk
    have hl := run_loadCells_list (P := P) w ⟨b, i * vs.length, none⟩ vs (fun j u hu => by
      have hj := (List.getElem?_eq_some_iff.1 hu).1
      rw [addr_add _ rfl]
      have : xs[i * vs.length + j]? = some u := by
        rw [← hv, List.getElem?_take_of_lt hj] at hu
        simpa using hu
      exact (row_cell hok (row_in hlt hj)).trans this)
    simp only [execOp, Instr.loadAt, loadVar, hh.lk hx, EP, Nat.add_zero, Nat.zero_add, Instr.sureAddr, Sem.run_bind, Sem.run_pure, Result.andThen_ok, hu.l, hi.sizeOf, if_true, hl]
/-! ### The judgements, written out -/
theorem OpVal.un {o : Oper} {v : Value} (h : OpVal c o l Ms μ v) : ∀ a w, Holds c l Ms μ a w → Yields P o a.eval w fun u w' => u = v ∧ Ext w w' := h
theorem OpAbs.un {o : Oper} {A : Mem → Value → Prop} (h : OpAbs c o l Ms μ A) : ∀ a w, Holds c l Ms μ a w → Yields P o a.eval w fun u w' => Ext w w' ∧ ∃ mr, Sub mr w' ∧ (∀ b, mr b ≠ none → (∃ m ∈ Ms, m b ≠ none) ∨ w.heap.size ≤ b) ∧ A mr u := h
theorem WL.un (h : WL c ops rest K l Ms μ) : ∀ a w, Holds c l Ms μ a w → wpListIn (fd c.r) 0 P ops (post c K) rest a w := h
theorem WL.mk (h : ∀ a w, Holds c l Ms μ a w → wpListIn (fd c.r) 0 P ops (post c K) rest a w) : WL c ops rest K l Ms μ := h
theorem W.un {code : Code} (h : W c code K l Ms μ) : ∀ a w, Holds c l Ms μ a w → code.wpIn (fd c.r) 0 P (post c K) a w := h
theorem W.mk {code : Code} (h : ∀ a w, Holds c l Ms μ a w → code.wpIn (fd c.r) 0 P (post c K) a w) : W c code K l Ms μ := h
theorem FnM.un {f : FuncId} {args : Array Value} {Q : Value → List Mem → List Res → Prop} (h : FnM P f args Ms μ Q) : ∀ w, Pre Ms μ w → Calls P f args w fun e w' => ∃ v Ms' μ', e = .returned v ∧ Q v Ms' μ' ∧ Tr Ms μ Ms' μ' w w' := h
theorem FnM.mk {f : FuncId} {args : Array Value} {Q : Value → List Mem → List Res → Prop} (h : ∀ w, Pre Ms μ w → Calls P f args w fun e w' => ∃ v Ms' μ', e = .returned v ∧ Q v Ms' μ' ∧ Tr Ms μ Ms' μ' w w') : FnM P f args Ms μ Q := h
theorem FnR.un {f : FuncId} {args : Array Value} {h : Mem} {R : Mem → Value → Prop} (k : FnR P f args h R) : ∀ w, Sub h w → Calls P f args w fun e w' => ∃ v mr, e = .returned v ∧ R mr v ∧ Ext w w' ∧ Sub mr w' ∧ ∀ b, mr b ≠ none → h b ≠ none ∨ w.heap.size ≤ b := k
theorem FnV.un {f : FuncId} {args : Array Value} {h : Mem} {v : Value} (k : FnV P f args h v) : ∀ w, Sub h w → Calls P f args w fun e w' => e = .returned v ∧ Ext w w' := k
end

attribute [irreducible] W WL DJ DJ2 FnM YieldM IterM Kseq Kblock Kloop OpVal OpAbs FnR FnV
end Go.Eng
