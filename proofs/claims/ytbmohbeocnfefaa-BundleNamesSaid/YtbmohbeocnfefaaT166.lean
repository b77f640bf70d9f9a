/- Chapter 3: calls at known values; a list behind a row that was lent. -/
import Derived.Test.YtbmohbeocnfefaaP47
import Derived.Test.YtbmohbeocnfefaaT165
import Derived.Test.YtbmohbeocnfefaaT47
import Derived.Test.YtbmohbeocnfefaaT30
namespace Go.Proofs.Ytbmohbeocnfefaa
open Go Go.Eng Go.RowKit

theorem whoseN_any {h : Mem} {v : Value} {t : Table} {xs : List (List Int)} (hv : IsTable h v t) (hs : Sm t) (he : askE t = 0) (hx : whoTo t t.pieces.length = xs) : FnR Try.prog 8 #[v] h (fun m q => ∃ lv, q = .tuple #[lv, vi 0] ∧ IsLists m lv xs) := by
  have := whoseT_any hv hs
  rwa [if_pos he, he, hx] at this
theorem whoseE_any {h : Mem} {v : Value} {t : Table} {e : Int} (hv : IsTable h v t) (hs : Sm t) (he : askE t = e) : FnR Try.prog 8 #[v] h (fun _ q => ∃ lv, q = .tuple #[lv, vi e]) :=
  (whoseT_any hv hs).mono fun m q hq => by
    obtain ⟨lv, e2, _⟩ := hq
    rw [he] at e2
    exact ⟨lv, e2⟩
theorem fewestE_any {h : Mem} {v : Value} {t : Table} {e : Int} (hv : IsTable h v t) (hs : Sm t) (he : askE t = e) : FnR Try.prog 15 #[v] h (fun _ q => ∃ lv, q = .tuple #[lv, vi e]) :=
  (fewestT_any hv hs).mono fun m q hq => by
    obtain ⟨lv, e2, _⟩ := hq
    rw [he] at e2
    exact ⟨lv, e2⟩
theorem fewestN_any {h : Mem} {v : Value} {t : Table} {xs : List Int} (hv : IsTable h v t) (hs : Sm t) (he : askE t = 0) (hx : fewest t (ask t) = xs) : FnR Try.prog 15 #[v] h (fun m q => ∃ lv, q = .tuple #[lv, vi 0] ∧ IsInts m lv xs) := by
  have := fewestT_any hv hs
  rwa [if_pos he, he, hx] at this
theorem firstN_any {h : Mem} {v : Value} {t : Table} {a e : Int} (hv : IsTable h v t) (hs : Sm t) (he : firstV t = (a, e)) : FnV Try.prog 16 #[v] h (.tuple #[vi a, vi e]) := by
  have := firstT_any hv hs
  rwa [he] at this
theorem leaveN_any {h : Mem} {v : Value} {t : Table} {xs : List Int} (hv : IsTable h v t) (hs : Sm t) (he : fault t = 0) (hx : leaveAll t = some xs) : FnR Try.prog 11 #[v] h (fun m q => ∃ lv, q = .tuple #[lv, vi 0] ∧ IsInts m lv xs) :=
  (leaveT_any hv hs).mono fun m q hq => by
    obtain ⟨lv, e2, _, h2⟩ := hq
    rw [he] at e2
    exact ⟨lv, e2, h2 he xs hx⟩
theorem proveTN_any {h : Mem} {v lv : Value} {t : Table} {l : List Int} {b : Bool} (hv : IsTable h v t) (hs : Sm t) (hl : IsInts h lv l) (he : (decide (fault t = 0) && (areOwners t l && isTruthP t l)) = b) : FnV Try.prog 19 #[v, lv] h (.bool b) := by
  have := proveT_any hv hs hl
  rwa [he] at this
theorem proveFN_any {h : Mem} {v lv : Value} {t : Table} {l : List Int} {n : Int} {b : Bool} (hv : IsTable h v t) (hs : Sm t) (hf : fault t = 0) (hl : IsInts h lv l) (he : (areOwners t l && (isTruthP t l && decide (((astray t l).length : Int) ≤ n))) = b) : FnV Try.prog 20 #[v, lv, vi n] h (.bool b) := by
  have := proveF_any n hv hs (fault_zero.1 hf) hl
  rwa [he] at this
theorem playN_any {h : Mem} {v lv : Value} {t : Table} {l : List Int} {e : Int} (hv : IsTable h v t) (hs : Sm t) (hl : IsInts h lv l) (he : playE t l = e) : FnR Try.prog 21 #[v, lv] h (fun _ q => ∃ a b, q = .tuple #[a, b, vi e]) :=
  (playT_any hv hs hl).mono fun m q hq => by
    obtain ⟨a, b, e2, _⟩ := hq
    rw [he] at e2
    exact ⟨a, b, e2⟩
theorem astrayN_any {h : Mem} {v : Value} {t : Table} (hv : IsTable h v t) (hs : Sm t) (hE : askE t = 11) : FnV Try.prog 10 #[v] h (.tuple #[.agg #[vi 0, vi 0], vi 11]) := by
  have := astrayT_any hv hs
  rwa [if_neg (by rw [hE]; decide), hE] at this
theorem movesE_any {h : Mem} {v : Value} {t : Table} {e : Int} (hv : IsTable h v t) (hs : Sm t) (he : askE t = e) : FnR Try.prog 22 #[v] h (fun _ q => ∃ lv, q = .tuple #[lv, vi e]) :=
  (movesT_any hv hs).mono fun m q hq => by
    obtain ⟨lv, e2, _⟩ := hq
    rw [he] at e2
    exact ⟨lv, e2⟩
theorem missesE_any {h : Mem} {v : Value} {t : Table} {e : Int} (hv : IsTable h v t) (hs : Sm t) (he : askE t = e) : FnR Try.prog 23 #[v] h (fun _ q => ∃ lv, q = .tuple #[lv, vi e]) :=
  (missesT_any hv hs).mono fun m q hq => by
    obtain ⟨lv, e2, _⟩ := hq
    rw [he] at e2
    exact ⟨lv, e2⟩
theorem lookN_any {h : Mem} {v : Value} {t : Table} {e : Int} (hv : IsTable h v t) (hs : Sm t) (h0 : e ≠ 0) (he : lookE t = e) : FnV Try.prog 24 #[v] h (.tuple #[vi 0, vi 0, vi e]) := by
  have := lookT_any hv hs
  rwa [if_neg (by rw [he]; exact h0), he] at this
theorem checkN_any {h : Mem} {v : Value} {t : Table} {e : Int} (hv : IsTable h v t) (hs : Sm t) (he : fault t = e) : FnV Try.prog 25 #[v] h (vi e) := by
  have := check_any hv hs
  rwa [he] at this
/-- What is known of a list of lists that a call returned to which a row was lent: the last list may lie in that row, where it is not changed. -/
def Lent (m : Mem) (b : Nat) (v : Value) : Prop := ∃ vs : List Value, vs.length = 4 ∧ IsArr m 1 v 4 (fun i _ => vs.getD i undef) ∧ (∀ i, i < 3 → IsInts m (vs.getD i undef) [0, 1]) ∧
  (IsInts m (vs.getD 3 undef) [2] ∨ ∃ off cap, vs.getD 3 undef = .slice (some ⟨b, off, none⟩) 1 cap ∧ 1 ≤ cap ∧ cap ≤ maxLen ∧ (off = 5 ∨ off = 6))
theorem lent_lists {mr m : Mem} {b : Nat} {T : TypeId} {v : Value} (hL : IsLists mr v [[0, 1], [0, 1], [0, 1], [2]]) (hm : ∀ b', b' ≠ b → m b' = mr b') (hmr : ∀ ob, mr b = some ob → ob = .cells ([vi 1, vi 1, vi 1, vi 1, vi 1, vi 2, vi 2, vi 1, vi 1] : List Value).toArray T (0, 0)) : Lent m b v := by
  obtain ⟨vs, ⟨hlen, hvs⟩, hA⟩ := hL
  have g : ∀ i, i < 3 → IsInts mr (vs.getD i undef) [0, 1] := fun i hi => by
    have h0 := hvs i (by show i < 4; omega)
    have h1 : i = 0 ∨ i = 1 ∨ i = 2 := by omega
    rcases h1 with rfl | rfl | rfl <;> exact h0
  have g3 : IsInts mr (vs.getD 3 undef) [2] := hvs 3 (by decide)
  refine ⟨vs, hlen, IsArr.past hA hm (fun off cap e _ => ?_), fun i hi => IsArr.past (g i hi) hm (fun off cap e _ => ?_), ?_⟩
  · subst e
    have h2 : vs.getD 0 undef ∈ ([vi 1, vi 1, vi 1, vi 1, vi 1, vi 2, vi 2, vi 1, vi 1] : List Value) := List.mem_of_getElem? (IsArr.hits hA hmr (i := 0) (j := 0) (by decide) (by decide))
    obtain ⟨a, cap2, e2⟩ := IsArr.form (g 0 (by decide))
    rw [e2] at h2
    simp at h2
  · have h0 := g i hi
    rw [e] at h0
    have h2 : vi 0 ∈ ([vi 1, vi 1, vi 1, vi 1, vi 1, vi 2, vi 2, vi 1, vi 1] : List Value) := List.mem_of_getElem? (IsArr.hits h0 hmr (i := 0) (j := 0) (by decide) (by decide))
    simp at h2
  · have h0 := g3
    obtain ⟨a, cap, e, h1, h2, h3, h4⟩ := h0
    obtain ⟨b', off, rfl, hc⟩ := h4 (by decide)
    by_cases hb : b' = b
    · subst hb
      have h0 := g3
      rw [e] at h0
      have h9 : ([vi 1, vi 1, vi 1, vi 1, vi 1, vi 2, vi 2, vi 1, vi 1] : List Value)[off]? = some (vi 2) := IsArr.hits h0 hmr (i := 0) (j := 0) (by decide) (by decide)
      have h8 : off < 9 := (List.getElem?_eq_some_iff.1 h9).1
      refine .inr ⟨off, cap, e, h1, h2, ?_⟩
      have h7 : off = 0 ∨ off = 1 ∨ off = 2 ∨ off = 3 ∨ off = 4 ∨ off = 5 ∨ off = 6 ∨ off = 7 ∨ off = 8 := by omega
      rcases h7 with rfl | rfl | rfl | rfl | rfl | rfl | rfl | rfl | rfl <;> first | exact .inl rfl | exact .inr rfl | (simp at h9)
    · exact .inl (IsArr.past g3 hm (fun off' cap' e' _ => hb (by rw [e] at e'; cases e'; rfl)))
theorem Lent.back {m m5 mj : Mem} {b : Nat} {v : Value} (h : Lent m b v) (h5 : IsArr m5 3 (.slice (some ⟨b, 0, none⟩) 3 3) 3 (fun i j => ([vi 1, vi 1, vi 1, vi 1, vi 1, vi 2, vi 2, vi 2, vi 2] : List Value).getD (i * 3 + j) undef)) (hm : MLe m mj) (hm5 : MLe m5 mj) : IsLists mj v [[0, 1], [0, 1], [0, 1], [2]] := by
  obtain ⟨vs, hlen, hA, hg, h3⟩ := h
  refine ⟨vs, ⟨hlen, fun i hi => ?_⟩, IsArr.le hA hm⟩
  have h1 : i = 0 ∨ i = 1 ∨ i = 2 ∨ i = 3 := by simp at hi; omega
  rcases h1 with rfl | rfl | rfl | rfl
  · exact IsArr.le (hg 0 (by decide)) hm
  · exact IsArr.le (hg 1 (by decide)) hm
  · exact IsArr.le (hg 2 (by decide)) hm
  · rcases h3 with h3 | ⟨off, cap, e, h1, h2, ho⟩
    · exact IsArr.le h3 hm
    · show IsInts mj (vs.getD 3 undef) [2]
      rw [e]
      obtain ⟨a, cp, e5, _, _, _, h4⟩ := h5
      cases e5
      obtain ⟨b', off', e', hc⟩ := h4 (by decide)
      cases e'
      have k1 := hc 1 2 (by decide) (by decide)
      have k2 := hc 2 0 (by decide) (by decide)
      refine ⟨_, _, rfl, h1, h2, fun i j _ _ => rfl, fun _ => ⟨b, off, rfl, fun i j hi hj => ?_⟩⟩
      have hi0 : i = 0 := by simp at hi; omega
      have hj0 : j = 0 := by omega
      subst hi0 hj0
      rcases ho with rfl | rfl
      · exact cellM_le hm5 k1
      · exact cellM_le hm5 k2
theorem made_wo (n : Nat) : (madeCells (Value.agg #[vi 0, vi 0, vi 0]).cells n).toList = List.replicate n (vi 0) := by
  have hc : (Value.agg #[vi 0, vi 0, vi 0]).cells = #[vi 0, vi 0, vi 0] := by simp [Value.cells]
  rw [hc]
  unfold madeCells
  rw [Array.toList_map, Array.toList_range]
  refine List.eq_replicate_iff.2 ⟨by simp, fun b hb => ?_⟩
  obtain ⟨i, _, rfl⟩ := List.mem_map.1 hb
  have h3 : i % 3 = 0 ∨ i % 3 = 1 ∨ i % 3 = 2 := by omega
  show #[vi 0, vi 0, vi 0][i % 3]! = _
  rcases h3 with e | e | e <;> rw [e] <;> rfl
/-- Pairs of a value and a naught. -/
def flat2 (vs : List Value) : List Value := vs.flatMap fun v => [v, vi 0]
theorem flat2_len (vs : List Value) : (flat2 vs).length = vs.length * 2 := by
  induction vs with
  | nil => rfl
  | cons v vs ih => simp only [flat2, List.flatMap_cons, List.length_append, List.length_cons, List.length_nil] at ih ⊢; omega
theorem flat2_set (S : Value) : ∀ (vs : List Value) (k : Nat), k < vs.length → (flat2 vs).take (k * 2) ++ ([S] ++ (flat2 vs).drop (k * 2 + 1)) = flat2 (vs.set k S)
  | [], k, hk => absurd hk (Nat.not_lt_zero _)
  | v :: vs, 0, _ => rfl
  | v :: vs, k + 1, hk => by
    have ih := flat2_set S vs k (by simpa using hk)
    have e : flat2 (v :: vs) = v :: vi 0 :: flat2 vs := rfl
    rw [e, show (k + 1) * 2 = k * 2 + 1 + 1 by omega, show k * 2 + 1 + 1 + 1 = (k * 2 + 1) + 1 + 1 by omega]
    simp only [List.take_succ_cons, List.drop_succ_cons, List.cons_append, List.set_cons_succ]
    show v :: vi 0 :: ((flat2 vs).take (k * 2) ++ ([S] ++ (flat2 vs).drop (k * 2 + 1))) = _
    rw [ih]
    rfl
theorem flat2_at : ∀ (vs : List Value) (i j : Nat), i < vs.length → j < 2 → (flat2 vs).getD (i * 2 + j) undef = if j = 0 then vs.getD i undef else vi 0
  | [], i, j, hi, _ => absurd hi (Nat.not_lt_zero _)
  | v :: vs, 0, j, _, hj => by
    have h1 : j = 0 ∨ j = 1 := by omega
    rcases h1 with rfl | rfl <;> rfl
  | v :: vs, i + 1, j, hi, hj => by
    have ih := flat2_at vs i j (by simpa using hi) hj
    have e : flat2 (v :: vs) = v :: vi 0 :: flat2 vs := rfl
    rw [e, show (i + 1) * 2 + j = i * 2 + j + 1 + 1 by omega]
    simpa using ih
theorem flat2_one {vs : List Value} (h : ∀ u ∈ vs, u.oneCell' = true) : ∀ u ∈ flat2 vs, u.oneCell' = true := fun u hu => by
  obtain ⟨v, hv, hu⟩ := List.mem_flatMap.1 hu
  simp at hu
  rcases hu with rfl | rfl
  · exact h _ hv
  · rfl
theorem made_pi (n : Nat) : (madeCells (Value.agg #[.slice none 0 0, vi 0]).cells (n * 2)).toList = flat2 (List.replicate n (.slice none 0 0)) := by
  have hc : (Value.agg #[.slice none 0 0, vi 0]).cells = #[.slice none 0 0, vi 0] := by simp [Value.cells]
  rw [hc]
  unfold madeCells
  rw [Array.toList_map, Array.toList_range]
  apply List.ext_getElem
  · rw [flat2_len]; simp
  · intro i h1 h2
    have hi : i < n * 2 := by simpa using h1
    have h3 := flat2_at (List.replicate n (.slice none 0 0)) (i / 2) (i % 2) (by simp; omega) (by omega)
    rw [show i / 2 * 2 + i % 2 = i by omega, List.getD_eq_getElem?_getD, List.getElem?_eq_getElem h2] at h3
    simp only [Option.getD_some] at h3
    rw [h3]
    simp only [List.getElem_map, List.getElem_range]
    have h4 : i % 2 = 0 ∨ i % 2 = 1 := by omega
    show #[.slice none 0 0, vi 0][i % 2]! = _
    rcases h4 with e | e
    · rw [e, if_pos rfl, List.getD_eq_getElem?_getD, List.getElem?_replicate, if_pos (by omega)]
      rfl
    · rw [e, if_neg (by omega)]
      rfl
/-- Two rows made, in some order, of which the first one's slice is then stored. -/
inductive Rows2 where
  | n
  | a (x : Nat)
  | b (y : Nat)
  | ab (x y : Nat)
  | s (x : Nat)
  | sb (x y : Nat)
def Rows2.tn (i j k : Nat) : Rows2 → Nat → Bool
  | .n, _ => false
  | .a _, q => q == i
  | .b _, q => q == j
  | .ab _ _, q => q == i || q == j
  | .s _, q => q == i || q == k
  | .sb _ _, q => q == i || q == j || q == k
def Rows2.L (d e N N2 : Nat) (l : List (Nat × Value)) : Rows2 → List (Nat × Value)
  | .n => l
  | .a x => (d, .slice (some ⟨x, 0, none⟩) N N) :: l
  | .b y => (e, .slice (some ⟨y, 0, none⟩) N2 N2) :: l
  | .ab x y => (e, .slice (some ⟨y, 0, none⟩) N2 N2) :: (d, .slice (some ⟨x, 0, none⟩) N N) :: l
  | .s x => (d, .slice (some ⟨x, 0, none⟩) N N) :: l
  | .sb x y => (e, .slice (some ⟨y, 0, none⟩) N2 N2) :: (d, .slice (some ⟨x, 0, none⟩) N N) :: l
def Rows2.M (R R2 : Nat → Res) (B : Res) (C : Nat → Res) : Rows2 → List Res
  | .n => [B]
  | .a x => [R x, B]
  | .b y => [R2 y, B]
  | .ab x y => [R2 y, R x, B]
  | .s x => [R x, C x]
  | .sb x y => [R2 y, R x, C x]
end Go.Proofs.Ytbmohbeocnfefaa
