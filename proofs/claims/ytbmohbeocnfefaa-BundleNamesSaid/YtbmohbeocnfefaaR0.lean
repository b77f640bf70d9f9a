/- Opening of arguments, and what a row asks behind a call: tools. -/
import Derived.Test.YtbmohbeocnfefaaTypes
import Derived.ProofKit
namespace Go.Eng
open Go Go.ChangeShapes Go.WideShapes Go.RowKit

/-- All of a world's memory. -/
def whole (W : World) : Mem := fun b => W.heap[b]?
theorem whole_sub (W : World) : Sub (whole W) W := fun _ _ h => h
theorem whole_cell {W : World} {a : Addr} {v : Value} (h : W.cell? a = some v) : a.spot = none ∧ cellM (whole W) a.block a.off = some v := by
  unfold World.cell? at h
  unfold cellM whole
  split at h
  · rename_i c _ _ hb
    rw [hb]
    split at h
    · cases h
    · rename_i hs
      refine ⟨?_, h⟩
      cases hx : a.spot with
      | none => rfl
      | some _ => rw [hx] at hs; exact absurd rfl hs
  · cases h
/-- What the cells of a type's values are, where they can be read. -/
def Opn (P : Program) (W : World) (t : TypeId) (k : Nat) (S : List Value → Prop) : Prop :=
  P.cellsOf t = k ∧ ∀ (H : Type) (enc : TypeId × Value → H) (spare : Nat → Bool) (held : Bool) (fuel : Nat) (cs : List Value) (x : DataW H × List MemPlace), DataW.trod enc P W 0 spare held fuel t cs = some x → cs.length = k ∧ (∀ u ∈ cs, u.oneCell' = true) ∧ S cs
theorem Opn.int {P : Program} {W : World} {t : TypeId} {kd : IntKind} (ht : P.underlying t = some (.int kd)) (hc : P.cellsOf t = 1) : Opn P W t 1 (fun cs => ∃ n, cs = [.int kd n] ∧ (Lit.int kd n).wf = true) :=
  ⟨hc, fun H enc spare held fuel cs x h => by
    obtain ⟨n, rfl, _, hw⟩ := DataW.trod_int ht h
    exact ⟨rfl, by simp [Value.oneCell'], n, rfl, hw⟩⟩
theorem Opn.slice {P : Program} {W : World} {t e : TypeId} {k : Nat} {S : List Value → Prop} (ht : P.underlying t = some (.slice e)) (hc : P.cellsOf t = 1) (hk : 0 < k) (he : Opn P W e k S) :
    Opn P W t 1 (fun cs => ∃ (v : Value) (n : Nat) (es : Nat → List Value), cs = [v] ∧ IsArr (whole W) k v n (fun i j => (es i).getD j undef) ∧ ∀ i, i < n → (es i).length = k ∧ S (es i)) :=
  ⟨hc, fun H enc spare held fuel cs x h => by
    rcases DataW.trod_slice ht h with ⟨rfl, _⟩ | ⟨a, len, cap, elems, rest, n, _, rfl, _, _, hl, hm, hlen, hel, _⟩
    · exact ⟨rfl, by simp [Value.oneCell'], _, 0, fun _ => [], rfl, IsArr.nil _ _ _, fun i hi => absurd hi (Nat.not_lt_zero _)⟩
    · obtain ⟨hce, hse⟩ := he
      rw [hce] at hel
      have each : ∀ i, i < len → ∃ cs', W.cells? 0 (a.add (i * k)) k = some cs' ∧ cs'.length = k ∧ (∀ u ∈ cs', u.oneCell' = true) ∧ S cs' := fun i hi => by
        have h1 := hel i hi
        rw [List.getElem?_eq_getElem (by omega), Option.bind_eq_some_iff] at h1
        obtain ⟨cs', h2, h3⟩ := h1
        exact ⟨cs', h2, hse H enc spare held n cs' _ h3⟩
      have spot : 0 < len → a.spot = none := fun h0 => by
        obtain ⟨cs', h2, h3, _⟩ := each 0 h0
        have h4 := (World.cells?_some h2).2.2 0 hk
        rw [List.getElem?_eq_getElem (by omega)] at h4
        have := (whole_cell h4).1
        simpa [Addr.add] using this
      have cell : ∀ i, i < len → ∀ cs', W.cells? 0 (a.add (i * k)) k = some cs' → cs'.length = k → ∀ j, j < k → cellM (whole W) a.block (a.off + i * k + j) = some (cs'.getD j undef) := fun i hi cs' h2 h3 j hj => by
        have h4 := (World.cells?_some h2).2.2 j hj
        rw [List.getElem?_eq_getElem (by omega)] at h4
        obtain ⟨k1, k2⟩ := whole_cell h4
        have hs := spot (by omega)
        rw [addr_add a hs, addr_add _ rfl] at k2
        rw [k2, List.getD_eq_getElem?_getD, List.getElem?_eq_getElem (by omega)]; rfl
      refine ⟨rfl, by simp [Value.oneCell'], _, len, fun i => (W.cells? 0 (a.add (i * k)) k).getD [], rfl, ⟨_, _, rfl, hl, hm, fun i j hi hj => ?_, fun h0 => ?_⟩, fun i hi => ?_⟩
      · obtain ⟨cs', h2, h3, h4, _⟩ := each i hi
        dsimp only
        rw [h2, Option.getD_some, List.getD_eq_getElem?_getD, List.getElem?_eq_getElem (by omega)]
        exact h4 _ (List.getElem_mem _)
      · have hs := spot h0
        refine ⟨a.block, a.off, by cases a; simp only at hs; subst hs; rfl, fun i j hi hj => ?_⟩
        obtain ⟨cs2, k2, k3, _⟩ := each i hi
        dsimp only
        rw [k2, Option.getD_some]
        exact cell i hi cs2 k2 k3 j hj
      · obtain ⟨cs', h2, h3, _, h5⟩ := each i hi
        dsimp only
        rw [h2, Option.getD_some]
        exact ⟨h3, h5⟩⟩
theorem Opn.to {P : Program} {W : World} {t : TypeId} {k : Nat} {S S' : List Value → Prop} (h : Opn P W t k S) (hs : ∀ cs, cs.length = k → S cs → S' cs) : Opn P W t k S' :=
  ⟨h.1, fun H enc sp hd fu cs x hx => let ⟨h1, h2, h3⟩ := h.2 H enc sp hd fu cs x hx; ⟨h1, h2, hs cs h1 h3⟩⟩
/-- Fields one after the other. -/
def Tiles (P : Program) (W : World) : List Field → Nat → List (Nat × (List Value → Prop)) → Prop
  | [], _, [] => True
  | f :: fs, o, (k, S) :: L => f.offset = o ∧ Opn P W f.type k S ∧ Tiles P W fs (o + k) L
  | _, _, _ => False
def AllS : List (Nat × (List Value → Prop)) → List Value → Prop
  | [], _ => True
  | (k, S) :: L, cs => S (cs.take k) ∧ AllS L (cs.drop k)
def total : List (Nat × (List Value → Prop)) → Nat
  | [] => 0
  | (k, _) :: L => k + total L
theorem tiles_all {P : Program} {W : World} {H : Type} {enc : TypeId × Value → H} {spare : Nat → Bool} {held : Bool} {fuel : Nat} {cs : List Value} : ∀ {fs : List Field} {o : Nat} {L : List (Nat × (List Value → Prop))}, Tiles P W fs o L → cs.length = o + total L →
    (∀ f ∈ fs, ∃ x, DataW.trod enc P W 0 spare held fuel f.type ((cs.drop f.offset).take (P.cellsOf f.type)) = some x) → (∀ u ∈ cs.drop o, u.oneCell' = true) ∧ AllS L (cs.drop o)
  | [], o, [], _, hl, _ => ⟨fun u hu => (by rw [List.drop_of_length_le (by simp [total] at hl; omega)] at hu; cases hu), trivial⟩
  | [], _, _ :: _, h, _, _ => h.elim
  | _ :: _, _, [], h, _, _ => h.elim
  | f :: fs, o, (k, S) :: L, ⟨h1, h2, h3⟩, hl, hx => by
    simp only [total] at hl
    obtain ⟨x, hx0⟩ := hx f (.head _)
    have h4 := h2.2 H enc spare held fuel _ x hx0
    rw [h1, h2.1] at h4
    have ih := tiles_all (cs := cs) h3 (by omega) (fun g hg => hx g (.tail _ hg))
    have e : (cs.drop o).drop k = cs.drop (o + k) := List.drop_drop ..
    refine ⟨fun u hu => ?_, h4.2.2, by rw [e]; exact ih.2⟩
    rw [← List.take_append_drop k (cs.drop o), List.mem_append, e] at hu
    rcases hu with hu | hu
    · exact h4.2.1 u hu
    · exact ih.1 u hu
theorem Opn.struct {P : Program} {W : World} {t : TypeId} {fs : Array Field} {k : Nat} {L : List (Nat × (List Value → Prop))} (ht : P.underlying t = some (.struct fs)) (hc : P.cellsOf t = k) (hT : Tiles P W fs.toList 0 L) (hk : total L = k) : Opn P W t k (AllS L) :=
  ⟨hc, fun H enc spare held fuel cs x h => by
    obtain ⟨xs, n, _, _, hl, hlen, hf⟩ := DataW.trod_struct ht h
    rw [hc] at hl
    have := tiles_all (enc := enc) (spare := spare) (held := held) (fuel := n) (cs := cs) hT (by omega) (fun f hf' => by
      obtain ⟨i, hi⟩ := List.mem_iff_getElem?.1 hf'
      have hi' : fs[i]? = some f := by simpa using hi
      have hil := (Array.getElem?_eq_some_iff.1 hi').1
      exact ⟨xs[i]'(by omega), by rw [hf i f hi', List.getElem?_eq_getElem]⟩)
    simpa using ⟨hl, this⟩⟩
/-- Behind a law: true, each argument as it was, whatever has been made. -/
theorem post_law {H : Type} {enc : TypeId × Value → H} {P : Program} {f : Func} {s : ChangeSpec} {apart fresh handsOn : Bool} {W W' : World} {args : Array Value} {ds gs : List (DataW H)} {before : List MemPlace} {tb : TypeId}
    (hl : laidOutB P = true) (htb : P.underlying tb = some .bool) (hW : DataW.Whole enc P f.params.toList s.vars apart W args.toList ds gs before) (hb : Below W.heap.size W W') (hrt : f.resultTypes = #[tb])
    (hvs : s.vars = []) (hfn : (s.fn H (ds ++ gs)) = { results := [.lit (.bool true)], args := ds }) (hrow : ∀ t ∈ f.params.toList, P.readableRec t = true ∧ t < P.types.size) :
    s.post enc P f apart fresh handsOn false W args (.bool true) W' := by
  have hW0 := hW
  obtain ⟨p, q, hA, hV, hpq, hz, hn⟩ := hW
  rw [hvs] at hV
  obtain ⟨rfl, rfl⟩ := trodVars_none hV
  rw [List.append_nil] at hpq
  subst hpq
  have hargs : ∀ (sp : Nat → Bool), (∀ x ∈ before, sp x.block = true) → DataW.TrodAll enc P W' 0 sp true f.params.toList args.toList ds before := by
    intro sp hsp
    have hlt : ∀ x ∈ before, x.block < W.heap.size := fun x hx => by simpa using hW0.lt x hx
    have key : ∀ (ts : List TypeId) (vs : List Value) (ds : List (DataW H)) (p : List MemPlace), (∀ t ∈ ts, P.readableRec t = true ∧ t < P.types.size) → (∀ x ∈ p, x.block < W.heap.size ∧ sp x.block = true) →
        DataW.TrodAll enc P W 0 (fun _ => true) true ts vs ds p → DataW.TrodAll enc P W' 0 sp true ts vs ds p := by
      intro ts
      induction ts with
      | nil =>
        intro vs ds p _ _ h
        obtain ⟨rfl, rfl, rfl⟩ := trodAll_nil h
        exact h
      | cons t ts ih =>
        intro vs ds p hts hp h
        obtain ⟨v, vs', d, ds', a, b, rfl, rfl, rfl, h1, h2⟩ := trodAll_cons h
        refine ⟨a, b, WideElems.Trod_stays hl (hts t (.head _)).1 (hts t (.head _)).2 h1 (fun x hx => hb.same (hp x (List.mem_append_left _ hx)).1) (fun x hx => (hp x (List.mem_append_left _ hx)).2), ih vs' ds' b (fun t ht => hts t (.tail _ ht)) (fun x hx => hp x (List.mem_append_right _ hx)) h2, rfl⟩
    exact key _ _ _ _ hrow (fun x hx => ⟨hlt x hx, hsp x hx⟩) hA
  have hold : ∀ x ∈ before, (fun b => decide (b < W.heap.size)) x.block = true := fun x hx => by simpa using hW0.lt x hx
  refine ⟨ds, [], before, [], before, [], hW0, ?_, by rw [hfn]; exact hargs _ hold, by rw [hvs, hfn]; rfl, hb.frame _, fun h => by cases h⟩
  rw [hrt, hfn]
  exact trodAll_mk1 (shut_bool htb true)
end Go.Eng
