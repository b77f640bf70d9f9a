/- The program's iterator over all courses: the hours. -/
import Derived.Test.YtdnbkjgbehakpaaGreatT115
import Derived.Test.YtdnbkjgbehakpaaGreatT13
namespace Go.Proofs.YtdnbkjgbehakpaaGreat
open Go Go.Eng Go.RowKit

/-- An array at work: the first entries are fixed, those from one on are 0. -/
def WorkQ (L n : Nat) (pre q : List Int) : Prop := q.length = L ∧ q.take pre.length = pre ∧ q.drop n = List.replicate (L - n) 0
theorem WorkQ.done {L n : Nat} {pre q : List Int} (h : WorkQ L n pre q) (hl : pre.length = n) : q = pre ++ List.replicate (L - pre.length) 0 := by
  obtain ⟨h1, h2, h3⟩ := h
  subst hl
  rw [← List.take_append_drop pre.length q, h2, h3]
theorem WorkQ.set {L n : Nat} {pre q : List Int} (h : WorkQ L n pre q) (hl : pre.length < n) (hL : n ≤ L) (w : Int) : WorkQ L n (pre ++ [w]) (q.set pre.length w) := by
  obtain ⟨h1, h2, h3⟩ := h
  refine ⟨by simpa using h1, ?_, ?_⟩
  · rw [List.length_append, List.length_cons, List.length_nil, List.take_set, List.take_add_one, h2, List.getElem?_eq_getElem (by omega)]
    simp
  · rw [List.drop_set, if_pos hl, h3]
theorem WorkQ.back {L n : Nat} {pre q : List Int} {w : Int} (h : WorkQ L n (pre ++ [w]) q) : WorkQ L n pre q := by
  obtain ⟨h1, h2, h3⟩ := h
  refine ⟨h1, ?_, h3⟩
  have := congrArg (List.take pre.length) h2
  rw [List.take_take] at this
  simpa using this
theorem WorkQ.none {L n : Nat} {pre q : List Int} (h : WorkQ L n pre q) : WorkQ L n [] q := ⟨h.1, rfl, h.2.2⟩
theorem WorkQ.zero {L n : Nat} : WorkQ L n [] (List.replicate L 0) := ⟨List.length_replicate .., rfl, List.drop_replicate ..⟩
def scnA (q p : List Int) : Array Value := (q.map vi ++ p.map vi).toArray
theorem scnA_size {q p : List Int} (hq : q.length = 7) (hp : p.length = 6) : (scnA q p).size = 13 := by simp [scnA, hq, hp]
theorem scnA_one (q p : List Int) : ∀ u ∈ (scnA q p).toList, u.oneCell' = true := by
  intro u hu
  unfold scnA at hu
  simp only [List.mem_append, List.mem_map] at hu
  rcases hu with ⟨x, _, rfl⟩ | ⟨x, _, rfl⟩ <;> rfl
theorem scnA_setH {q p : List Int} {k : Nat} (hq : q.length = 7) (h : k < p.length) (w : Int) : (scnA q p).toList.take (7 + k) ++ ((vi w).cells.toList ++ (scnA q p).toList.drop (7 + k + 1)) = q.map vi ++ (p.set k w).map vi := by
  have hl : (q.map vi).length = 7 := by simpa using hq
  show (q.map vi ++ p.map vi).take (7 + k) ++ ([vi w] ++ (q.map vi ++ p.map vi).drop (7 + k + 1)) = _
  rw [List.take_append, List.drop_append, hl, List.take_of_length_le (by omega), List.drop_of_length_le (by omega), List.nil_append, List.append_assoc]
  congr 1
  rw [show 7 + k - 7 = k by omega, show 7 + k + 1 - 7 = k + 1 by omega, List.map_set, List.set_eq_take_append_cons_drop, if_pos (by simpa using h)]; rfl
theorem scnA_setO {q p : List Int} {k : Nat} (h : k < q.length) (w : Int) : (scnA q p).toList.take (0 + k) ++ ((vi w).cells.toList ++ (scnA q p).toList.drop (0 + k + 1)) = (q.set k w).map vi ++ p.map vi := by
  show (q.map vi ++ p.map vi).take (0 + k) ++ ([vi w] ++ (q.map vi ++ p.map vi).drop (0 + k + 1)) = _
  rw [Nat.zero_add, List.take_append_of_le_length (by simp; omega), List.drop_append_of_le_length (by simp; omega), List.map_set, List.set_eq_take_append_cons_drop, if_pos (by simpa using h)]
  simp
/-- What an iterator yields from a place on. -/
def Items (item : Nat → Value) (N k0 : Nat) (l : List Course) : Prop := k0 + l.length ≤ N ∧ ∀ i, i < l.length → item (k0 + i) = sceneV (l.getD i default)
theorem Items.append {item : Nat → Value} {N k0 : Nat} {a b : List Course} (h : Items item N k0 (a ++ b)) : Items item N k0 a ∧ Items item N (k0 + a.length) b := by
  obtain ⟨h1, h2⟩ := h
  rw [List.length_append] at h1 h2
  refine ⟨⟨by omega, fun i hi => ?_⟩, by omega, fun i hi => ?_⟩
  · rw [h2 i (by omega), List.getD_eq_getElem?_getD, List.getElem?_append_left hi, ← List.getD_eq_getElem?_getD]
  · rw [Nat.add_assoc, h2 (a.length + i) (by omega), List.getD_eq_getElem?_getD, List.getElem?_append_right (by omega), Nat.add_sub_cancel_left, ← List.getD_eq_getElem?_getD]
theorem Items.at {α : Type} [Inhabited α] {item : Nat → Value} {N k0 : Nat} {L : List α} {F : α → List Course} (h : Items item N k0 (L.flatMap F)) {j : Nat} (hj : j < L.length) : Items item N (k0 + ((L.take j).flatMap F).length) (F (L.getD j default)) := by
  have e : L = L.take j ++ (L.getD j default :: L.drop (j + 1)) := by
    have h1 : L.getD j default = L[j] := by simp [List.getD_eq_getElem?_getD, List.getElem?_eq_getElem hj]
    rw [h1, ← List.drop_eq_getElem_cons hj, List.take_append_drop]
  have e2 : L.flatMap F = (L.take j).flatMap F ++ (F (L.getD j default) ++ (L.drop (j + 1)).flatMap F) := by
    conv => lhs; rw [e]
    rw [List.flatMap_append, List.flatMap_cons]
  rw [e2] at h
  exact (Items.append (Items.append h).2).1
theorem flat_take {α β : Type} [Inhabited α] {L : List α} {F : α → List β} {j : Nat} (hj : j < L.length) : ((L.take (j + 1)).flatMap F).length = ((L.take j).flatMap F).length + (F (L.getD j default)).length := by
  rw [take_succ_getD (d := default) hj, List.flatMap_append, List.length_append]; simp
/-- The courses with some owners whose first hours are known. -/
def hCs (ts : List Touch) (l : List Int) : Nat → List Int → List Course
  | 0, pre => [⟨l, pre⟩]
  | r + 1, pre => (List.range (ts.getD (ts.length - (r + 1)) default).size).flatMap fun (n : Nat) => hCs ts l r (pre ++ [(ts.getD (ts.length - (r + 1)) default).lo + (n : Int)])
theorem hCs_eq (ts : List Touch) (l : List Int) : ∀ r pre, hCs ts l r pre = (hTails ts r).map fun y => ⟨l, pre ++ y⟩
  | 0, pre => by simp [hCs, hTails]
  | r + 1, pre => by
    simp only [hCs, hTails, hCs_eq ts l r, List.map_flatMap, List.map_map]
    congr 1; funext n
    apply List.map_congr_left
    intro y _
    simp
theorem ValidH.hours {r : House} (hV : ValidH r) {k : Nat} (hk : k < r.tn) : 0 ≤ (r.touches.getD k default).lo ∧ (r.touches.getD k default).lo ≤ (r.touches.getD k default).hi ∧ (r.touches.getD k default).hi ≤ 5 := by
  have h1 := touchOk_iff.1 (hV.touch k hk)
  have h2 := hV.last
  omega
theorem mem2 {x : Mem} {A B : List Mem} : ∀ m ∈ x :: A, m ∈ A ++ x :: B := fun m h => by
  rcases List.mem_cons.1 h with rfl | h
  · exact List.mem_append_right _ (.head _)
  · exact List.mem_append_left _ h
/-- touch, the function within scenes -/
theorem touchIn_any {r : House} (hV : ValidH r) {hm : Mem} {wv pv kv tv bv sv : Value} {f : Nat → Value} (hA : HouseAt hm wv pv kv tv bv sv f r) {b1 b2 b3 b7 l0 : Nat}
    (hb1 : IsBox hm b1 (hcs wv pv kv tv bv sv r) 46) (hb2 : IsBox hm b2 #[.func (.yield l0) #[] #[]] 210)
    (hb7 : IsBox hm b7 #[.func (.func 153) #[] #[.pointer (some ⟨b1, 0, none⟩), .pointer (some ⟨b2, 0, none⟩), .pointer (some ⟨b3, 0, none⟩), .pointer (some ⟨b7, 0, none⟩)]] 141)
    {N : Nat} {item : Nat → Value} {St : Nat → List Mem → List Res → Prop} {Sp : List Mem → List Res → Prop} (hStm : ∀ k Ms μ, St k Ms μ → marksOf μ = []) (hSpm : ∀ Ms μ, Sp Ms μ → marksOf μ = [])
    (hY : ∀ k, k < N → ∀ Ms μ, St k Ms μ → YieldM Tryz.prog l0 #[item k] Ms μ fun v Ms' μ' => (v = .bool true ∧ St (k + 1) Ms' μ') ∨ (v = .bool false ∧ Sp Ms' μ'))
    {l : List Int} (hl : l.length ≤ 7) :
    ∀ (d : Nat) (pre p : List Int), pre.length + d = r.tn → WorkQ 6 r.tn pre p → ∀ k0, Items item N k0 (hCs r.touches l d pre) →
    ∀ Ms μ, St k0 Ms μ → FnM Tryz.prog 153 #[.int .i64 (pre.length : Int), .pointer (some ⟨b1, 0, none⟩), .pointer (some ⟨b2, 0, none⟩), .pointer (some ⟨b3, 0, none⟩), .pointer (some ⟨b7, 0, none⟩)] (hm :: Ms) (.blk b3 (scnA (pad l) p) 164 :: μ)
      fun v Ms' μ' => ∃ p' μ1, WorkQ 6 r.tn pre p' ∧ μ' = .blk b3 (scnA (pad l) p') 164 :: μ1 ∧ ((v = .bool true ∧ St (k0 + (hCs r.touches l d pre).length) Ms' μ1) ∨ (v = .bool false ∧ Sp Ms' μ1)) := by
  have hT := hA.T
  have h6 : r.tn ≤ 6 := hV.touchN
  have hpl := pad_len hl
  intro d
  induction d with
  | zero =>
    intro pre p hlen hp k0 hit Ms μ hSt
    have hpn : pre.length = r.tn := by omega
    have hpe := hp.done hpn
    have hp6 := hp.1
    have h13 := scnA_size hpl hp6
    obtain ⟨hN, hitem⟩ := hit
    have hyy := hY k0 (by simp only [hCs, List.length_cons, List.length_nil] at hN; omega) Ms μ hSt
    have hit0 := hitem 0 (by show 0 < 1; omega)
    rw [Nat.add_zero] at hit0
    have hit1 : item k0 = .agg (scnA (pad l) p) := by rw [hit0, hpe]; rfl
    rw [hit1] at hyy
    refine FnM.of_W (n := 43) Tryz.func153 rfl rfl (Nat.le_of_ble_eq_true rfl) (by have := hStm _ _ _ hSt; exact this) fun c hr hD hF => ?_
    skip
    refine W.seq ?_
    refine W.region ?_
    refine WL.val (OpVal.opv rfl) rfl rfl rfl ?_
    refine WL.nil ?_
    refine Kseq.go (W.seq (W.seq ?_))
    skip
    refine W.region ?_
    refine WL.val (OpVal.opv rfl) rfl rfl rfl ?_
    refine WL.val (OpVal.fieldAddrB rfl) rfl rfl rfl ?_
    refine WL.val (OpVal.loadP rfl hb1 (by repeat (first | exact .head _ | refine .tail _ ?_)) rfl) rfl rfl rfl ?_
    refine WL.val (OpVal.len rfl hT) rfl rfl rfl ?_
    refine WL.val (OpVal.opv rfl) rfl rfl rfl ?_
    refine WL.nil ?_
    refine Kseq.go ?_
    refine W.condD rfl rfl (fun he => ?_) (fun hne => absurd (show (pre.length : Int) = (r.tn : Int) by omega) hne)
    refine W.seq ?_
    refine W.region ?_
    refine WL.val (OpVal.loadP rfl hb2 (by repeat (first | exact .head _ | refine .tail _ ?_)) rfl) rfl rfl rfl ?_
    refine WL.val (OpVal.loadBW rfl (.head _) h13) rfl rfl rfl ?_
    (refine WL.yieldM rfl rfl (fun m hm => .tail _ hm) (.r _ (Split.all μ)) (hStm _ _ _ hSt) hyy rfl rfl rfl ?_; rintro v16 M1 a1 hQ)
    refine WL.val (OpVal.opv rfl) rfl rfl rfl ?_
    refine WL.nil ?_
    refine Kseq.go ?_
    refine W.ret ?_; refine Kseq.ret ?_
    refine ⟨.inl rfl, [_], M1, .blk b3 (scnA (pad l) p) 164 :: a1, ⟨.tmp rfl, trivial⟩, ⟨p, a1, hp, rfl, hQ⟩, fun m hm => List.mem_append_left _ hm, .refl _, fun s hs => ?_⟩
    rcases List.mem_cons.1 hs with rfl | hs
    · rfl
    · rcases hQ with ⟨_, h⟩ | ⟨_, h⟩
      · exact none_of_marks (hStm _ _ _ h) s hs
      · exact none_of_marks (hSpm _ _ h) s hs
  | succ d ih =>
    intro pre p hlen hp k0 hit Ms μ hSt
    have hk : pre.length < r.tn := by omega
    have hk' : pre.length < r.touches.length := hk
    have hz := hV.hours hk
    have hke : r.touches.length - (d + 1) = pre.length := by unfold House.tn at *; omega
    have hcs : hCs r.touches l (d + 1) pre = (List.range (r.touches.getD pre.length default).size).flatMap fun (n : Nat) => hCs r.touches l d (pre ++ [(r.touches.getD pre.length default).lo + (n : Int)]) := by rw [← hke]; rfl
    rw [hcs] at hit ⊢
    obtain ⟨lo, hlo⟩ : ∃ lo, (r.touches.getD pre.length default).lo = lo := ⟨_, rfl⟩
    obtain ⟨hi, hhi⟩ : ∃ hi, (r.touches.getD pre.length default).hi = hi := ⟨_, rfl⟩
    have hsz : (r.touches.getD pre.length default).size = (hi - lo + 1).toNat := by unfold Touch.size; rw [hlo, hhi]
    rw [hlo, hhi] at hz
    rw [hsz, hlo] at hit ⊢
    obtain ⟨S, hS⟩ : ∃ S : Nat, (hi - lo + 1).toNat = S := ⟨_, rfl⟩
    rw [hS] at hit ⊢
    generalize hF0 : (fun (n : Nat) => hCs r.touches l d (pre ++ [lo + (n : Int)])) = F0 at hit ⊢
    refine FnM.of_W (n := 43) Tryz.func153 rfl rfl (Nat.le_of_ble_eq_true rfl) (by have := hStm _ _ _ hSt; exact this) fun c hr hD hF => ?_
    skip
    refine W.seq ?_
    refine W.region ?_
    refine WL.val (OpVal.opv rfl) rfl rfl rfl ?_
    refine WL.nil ?_
    refine Kseq.go (W.seq (W.seq ?_))
    skip
    refine W.region ?_
    refine WL.val (OpVal.opv rfl) rfl rfl rfl ?_
    refine WL.val (OpVal.fieldAddrB rfl) rfl rfl rfl ?_
    refine WL.val (OpVal.loadP rfl hb1 (by repeat (first | exact .head _ | refine .tail _ ?_)) rfl) rfl rfl rfl ?_
    refine WL.val (OpVal.len rfl hT) rfl rfl rfl ?_
    refine WL.val (OpVal.opv rfl) rfl rfl rfl ?_
    refine WL.nil ?_
    refine Kseq.go ?_
    refine W.condD rfl rfl (fun he => absurd (show (pre.length : Int) = (r.tn : Int) from he) (by omega)) (fun hne => ?_)
    refine W.skip (Kseq.go (W.seq (W.seq ?_)))
    refine W.region ?_
    refine WL.val (OpVal.fieldAddrB rfl) rfl rfl rfl ?_
    refine WL.val (OpVal.loadP rfl hb1 (by repeat (first | exact .head _ | refine .tail _ ?_)) rfl) rfl rfl rfl ?_
    refine WL.val (OpVal.opv rfl) rfl rfl rfl ?_
    refine WL.val (OpVal.indexAddrN rfl rfl hT hk') rfl rfl rfl ?_
    refine WL.val (OpVal.fieldAddrN rfl hT hk') rfl rfl rfl ?_
    refine WL.val (OpVal.fieldAddrN rfl hT hk') rfl rfl rfl ?_
    refine WL.val (OpVal.cast (OpVal.loadE rfl hT (by repeat (first | exact .head _ | refine .tail _ ?_)) hk' (by omega)) (congrArg (Value.int .i64) hlo)) rfl rfl rfl ?_
    refine WL.val (OpVal.opv rfl) rfl rfl rfl ?_
    refine WL.nil ?_
    refine Kseq.go (W.block ?_)
    refine W.loop (σ := Nat × List Int × List Mem × List Res) (fun s => [(0, .int .i64 (pre.length : Int)), (1, .pointer (some ⟨b1, 0, none⟩)), (2, .pointer (some ⟨b2, 0, none⟩)), (3, .pointer (some ⟨b3, 0, none⟩)), (4, .pointer (some ⟨b7, 0, none⟩)), (7, .int .i64 (lo + (s.1 : Int)))])
      (fun s => hm :: s.2.2.1) (fun s => .blk b3 (scnA (pad l) s.2.1) 164 :: s.2.2.2) (fun s => s.1 ≤ S ∧ WorkQ 6 r.tn pre s.2.1 ∧ St (k0 + (((List.range S).take s.1).flatMap F0).length) s.2.2.1 s.2.2.2) (fun s => S - s.1) (0, p, Ms, μ) ⟨rfl, rfl, rfl, rfl, rfl, congrArg (fun x : Int => some (Value.int .i64 x)) (show lo = lo + ((0 : Nat) : Int) by omega), trivial⟩ (fun _ h => h) (.refl _) ⟨Nat.zero_le _, hp, by simpa using hSt⟩ ?_
    rintro ⟨j, q1, Ms1, μ1⟩ ⟨hj, hq1, hSt1⟩
    dsimp only at hj hq1 hSt1 ⊢
    refine W.seq (W.seq ?_)
    refine W.region ?_
    refine WL.val (OpVal.opv rfl) rfl rfl rfl ?_
    refine WL.val (OpVal.fieldAddrB rfl) rfl rfl rfl ?_
    refine WL.val (OpVal.loadP rfl hb1 (by repeat (first | exact .head _ | refine .tail _ ?_)) rfl) rfl rfl rfl ?_
    refine WL.val (OpVal.opv rfl) rfl rfl rfl ?_
    refine WL.val (OpVal.indexAddrN rfl rfl hT hk') rfl rfl rfl ?_
    refine WL.val (OpVal.fieldAddrN rfl hT hk') rfl rfl rfl ?_
    refine WL.val (OpVal.fieldAddrN rfl hT hk') rfl rfl rfl ?_
    refine WL.val (OpVal.cast (OpVal.loadE rfl hT (by repeat (first | exact .head _ | refine .tail _ ?_)) hk' (by omega)) (congrArg (Value.int .i64) hhi)) rfl rfl rfl ?_
    refine WL.val (OpVal.opv rfl) rfl rfl rfl ?_
    refine WL.nil ?_
    refine Kseq.go ?_
    refine W.condD rfl rfl (fun hlt => ?_) (fun hge => ?_)
    · have hjS : j < S := by omega
      have hjr : j < (List.range S).length := by simpa using hjS
      have e : (pre ++ [lo + (j : Int)]).length = pre.length + 1 := by simp
      have hset := hq1.set hk h6 (lo + (j : Int))
      have hq16 := hq1.1
      have hat := Items.at hit hjr
      have hft := flat_take (F := F0) hjr
      have ej : (List.range S).getD j default = j := by simp [List.getD_eq_getElem?_getD, hjS]
      rw [ej] at hat hft
      have eF : F0 j = hCs r.touches l d (pre ++ [lo + (j : Int)]) := by rw [← hF0]
      have ih' := ih (pre ++ [lo + (j : Int)]) (q1.set pre.length (lo + (j : Int))) (by rw [e]; omega) hset _ (by rw [← eF]; exact hat) Ms1 μ1 hSt1
      rw [e, ← eF] at ih'
      refine W.skip (Kseq.go (W.seq (W.block (W.seq ?_))))
      refine W.region ?_
      refine WL.val (OpVal.opv rfl) rfl rfl rfl ?_
      refine WL.val (OpVal.opv rfl) rfl rfl rfl ?_
      refine WL.val (OpVal.fieldAddrB rfl) rfl rfl rfl ?_
      refine WL.val (OpVal.indexAddrB rfl rfl (by omega)) rfl rfl rfl ?_
      (refine WL.store (size := 1) ((pad l).map vi ++ (q1.set pre.length (lo + (j : Int))).map vi) rfl (.head _) rfl rfl rfl (by rw [scnA_size hpl hq16]; omega) (by simp [Value.cells, Value.oneCell']) (scnA_setH hpl (by omega) _) ?_)
      refine WL.nil ?_
      refine Kseq.go (W.seq ?_)
      skip
      refine W.region ?_
      refine WL.val (OpVal.loadP rfl hb7 (by repeat (first | exact .head _ | refine .tail _ ?_)) rfl) rfl rfl rfl ?_
      refine WL.val (OpVal.opv rfl) rfl rfl rfl ?_
      refine WL.val (OpVal.incr rfl (by omega)) rfl rfl rfl ?_
      refine WL.callM rfl rfl (fun m hx => hx) (Split.all _) (by have := hStm _ _ _ hSt1; exact this) ih' rfl rfl rfl ?_
      rintro v35 M1 a1 ⟨q2, μ2, hq2, rfl, hQ⟩
      rcases hQ with ⟨rfl, h⟩ | ⟨rfl, h⟩
      · refine WL.val (OpVal.opv rfl) rfl rfl rfl ?_
        refine WL.nil ?_
        refine Kseq.go ?_
        refine W.condF rfl rfl ?_
        refine W.skip (Kblock.normal (Kseq.go ?_))
        refine W.region ?_
        refine WL.val (OpVal.opv rfl) rfl rfl rfl ?_
        refine WL.val (OpVal.add rfl rfl (by omega) (by omega)) rfl rfl rfl ?_
        refine WL.val (OpVal.opv rfl) rfl rfl rfl ?_
        refine WL.nil ?_
        skip
        exact Kloop.next (j + 1, q2, M1, μ2) ⟨hjS, hq2.back, by dsimp only; rw [hft, ← Nat.add_assoc]; exact h⟩ (by dsimp only; omega) ⟨rfl, rfl, rfl, rfl, rfl, congrArg (fun x : Int => some (Value.int .i64 x)) (by omega), trivial⟩ mem2 (.refl _)
      · refine WL.val (OpVal.opv rfl) rfl rfl rfl ?_
        refine WL.nil ?_
        refine Kseq.go ?_
        refine W.condT rfl rfl ?_
        refine W.seq ?_
        refine W.region ?_
        refine WL.val (OpVal.opv rfl) rfl rfl rfl ?_
        refine WL.nil ?_
        refine Kseq.go ?_
        refine W.ret ?_; refine Kblock.ret (Kseq.ret (Kloop.ret (Kblock.ret (Kseq.ret ?_))))
        refine ⟨.inl rfl, [_], M1, .blk b3 (scnA (pad l) q2) 164 :: μ2, ⟨.tmp rfl, trivial⟩, ⟨q2, μ2, hq2.back, rfl, .inr ⟨rfl, h⟩⟩, fun m hm => List.mem_append_left _ hm, .refl _, fun s hs => ?_⟩
        rcases List.mem_cons.1 hs with rfl | hs
        · rfl
        · exact none_of_marks (hSpm _ _ h) s hs
    · have hjS : j = S := by omega
      subst hjS
      refine W.exit (Kseq.exit (Kloop.exit (Kblock.here (Kseq.go (W.seq ?_)))))
      refine W.region ?_
      refine WL.val (OpVal.opv rfl) rfl rfl rfl ?_
      refine WL.nil ?_
      refine Kseq.go ?_
      refine W.ret ?_; skip
      refine ⟨.inl rfl, [_], Ms1, .blk b3 (scnA (pad l) q1) 164 :: μ1, ⟨.tmp rfl, trivial⟩, ⟨q1, μ1, hq1, rfl, .inl ⟨rfl, by rw [List.take_of_length_le (by simp)] at hSt1; exact hSt1⟩⟩, fun m hm => .tail _ hm, .refl _, fun s hs => ?_⟩
      rcases List.mem_cons.1 hs with rfl | hs
      · rfl
      · exact none_of_marks (hStm _ _ _ hSt1) s hs
end Go.Proofs.YtdnbkjgbehakpaaGreat
