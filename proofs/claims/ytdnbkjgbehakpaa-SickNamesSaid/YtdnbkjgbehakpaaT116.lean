/- The program's iterator over all courses: the hours. -/
import Derived.Test.YtdnbkjgbehakpaaT113
import Derived.Test.YtdnbkjgbehakpaaT13
import Derived.Test.YtdnbkjgbehakpaaT29
namespace Go.Proofs.Ytdnbkjgbehakpaa
open Go Go.Eng Go.RowKit

/-- An array at work: the first entries are fixed, those from one on are 0. -/
def WorkQ (L n : Nat) (pre q : List Int) : Prop := q.length = L ∧ q.take pre.length = pre ∧ q.drop n = List.replicate (L - n) 0
theorem WorkQ.done {L n : Nat} {pre q : List Int} (h : WorkQ L n pre q) (hl : pre.length = n) : q = pre ++ List.replicate (L - pre.length) 0 := by
  obtain ⟨h1, h2, h3⟩ := h
  subst hl
  rw [← List.take_append_drop pre.length q, h2, h3]
theorem WorkQ.set {L n : Nat} {pre q : List Int} (h : WorkQ L n pre q) (hl : pre.length < n) (hL : n ≤ L) (w : Int) : WorkQ L n (pre ++ [w]) (q.set pre.length w) := by
  obtain ⟨h1, h2, h3⟩ := h
  refine ⟨by simpa using h1, ?_, ?_⟩
  · rw [List.length_append, List.length_cons, List.length_nil, List.take_set, List.take_add_one, h2, List.getElem?_eq_getElem (by omega)]
    simp
  · rw [List.drop_set, if_pos hl, h3]
theorem WorkQ.back {L n : Nat} {pre q : List Int} {w : Int} (h : WorkQ L n (pre ++ [w]) q) : WorkQ L n pre q := by
  obtain ⟨h1, h2, h3⟩ := h
  refine ⟨h1, ?_, h3⟩
  have := congrArg (List.take pre.length) h2
  rw [List.take_take] at this
  simpa using this
theorem WorkQ.none {L n : Nat} {pre q : List Int} (h : WorkQ L n pre q) : WorkQ L n [] q := ⟨h.1, rfl, h.2.2⟩
theorem WorkQ.zero {L n : Nat} : WorkQ L n [] (List.replicate L 0) := ⟨List.length_replicate .., rfl, List.drop_replicate ..⟩
def scnA (q p : List Int) : Array Value := (q.map vi ++ p.map vi).toArray
theorem scnA_size {q p : List Int} (hq : q.length = 7) (hp : p.length = 6) : (scnA q p).size = 13 := by simp [scnA, hq, hp]
theorem scnA_one (q p : List Int) : ∀ u ∈ (scnA q p).toList, u.oneCell' = true := by
  intro u hu
  unfold scnA at hu
  simp only [List.mem_append, List.mem_map] at hu
  rcases hu with ⟨x, _, rfl⟩ | ⟨x, _, rfl⟩ <;> rfl
theorem scnA_setH {q p : List Int} {k : Nat} (hq : q.length = 7) (h : k < p.length) (w : Int) : (scnA q p).toList.take (7 + k) ++ ((vi w).cells.toList ++ (scnA q p).toList.drop (7 + k + 1)) = q.map vi ++ (p.set k w).map vi := by
  have hl : (q.map vi).length = 7 := by simpa using hq
  show (q.map vi ++ p.map vi).take (7 + k) ++ ([vi w] ++ (q.map vi ++ p.map vi).drop (7 + k + 1)) = _
  rw [List.take_append, List.drop_append, hl, List.take_of_length_le (by omega), List.drop_of_length_le (by omega), List.nil_append, List.append_assoc]
  congr 1
  rw [show 7 + k - 7 = k by omega, show 7 + k + 1 - 7 = k + 1 by omega, List.map_set, List.set_eq_take_append_cons_drop, if_pos (by simpa using h)]; rfl
theorem scnA_setO {q p : List Int} {k : Nat} (h : k < q.length) (w : Int) : (scnA q p).toList.take (0 + k) ++ ((vi w).cells.toList ++ (scnA q p).toList.drop (0 + k + 1)) = (q.set k w).map vi ++ p.map vi := by
  show (q.map vi ++ p.map vi).take (0 + k) ++ ([vi w] ++ (q.map vi ++ p.map vi).drop (0 + k + 1)) = _
  rw [Nat.zero_add, List.take_append_of_le_length (by simp; omega), List.drop_append_of_le_length (by simp; omega), List.map_set, List.set_eq_take_append_cons_drop, if_pos (by simpa using h)]
  simp
/-- What an iterator yields from a place on. -/
def Items (item : Nat → Value) (N k0 : Nat) (l : List Course) : Prop := k0 + l.length ≤ N ∧ ∀ i, i < l.length → item (k0 + i) = sceneV (l.getD i default)
theorem Items.append {item : Nat → Value} {N k0 : Nat} {a b : List Course} (h : Items item N k0 (a ++ b)) : Items item N k0 a ∧ Items item N (k0 + a.length) b := by
  obtain ⟨h1, h2⟩ := h
  rw [List.length_append] at h1 h2
  refine ⟨⟨by omega, fun i hi => ?_⟩, by omega, fun i hi => ?_⟩
  · rw [h2 i (by omega), List.getD_eq_getElem?_getD, List.getElem?_append_left hi, ← List.getD_eq_getElem?_getD]
  · rw [Nat.add_assoc, h2 (a.length + i) (by omega), List.getD_eq_getElem?_getD, List.getElem?_append_right (by omega), Nat.add_sub_cancel_left, ← List.getD_eq_getElem?_getD]
theorem Items.at {α : Type} [Inhabited α] {item : Nat → Value} {N k0 : Nat} {L : List α} {F : α → List Course} (h : Items item N k0 (L.flatMap F)) {j : Nat} (hj : j < L.length) : Items item N (k0 + ((L.take j).flatMap F).length) (F (L.getD j default)) := by
  have e : L = L.take j ++ (L.getD j default :: L.drop (j + 1)) := by
    have h1 : L.getD j default = L[j] := by simp [List.getD_eq_getElem?_getD, List.getElem?_eq_getElem hj]
    rw [h1, ← List.drop_eq_getElem_cons hj, List.take_append_drop]
  have e2 : L.flatMap F = (L.take j).flatMap F ++ (F (L.getD j default) ++ (L.drop (j + 1)).flatMap F) := by
    conv => lhs; rw [e]
    rw [List.flatMap_append, List.flatMap_cons]
  rw [e2] at h
  exact (Items.append (Items.append h).2).1
theorem flat_take {α β : Type} [Inhabited α] {L : List α} {F : α → List β} {j : Nat} (hj : j < L.length) : ((L.take (j + 1)).flatMap F).length = ((L.take j).flatMap F).length + (F (L.getD j default)).length := by
  rw [take_succ_getD (d := default) hj, List.flatMap_append, List.length_append]; simp
/-- The courses with some owners whose first hours are known. -/
def hCs (ts : List Touch) (l : List Int) : Nat → List Int → List Course
  | 0, pre => [⟨l, pre⟩]
  | r + 1, pre => (List.range (ts.getD (ts.length - (r + 1)) default).size).flatMap fun (n : Nat) => hCs ts l r (pre ++ [(ts.getD (ts.length - (r + 1)) default).lo + (n : Int)])
theorem hCs_eq (ts : List Touch) (l : List Int) : ∀ r pre, hCs ts l r pre = (hTails ts r).map fun y => ⟨l, pre ++ y⟩
  | 0, pre => by simp [hCs, hTails]
  | r + 1, pre => by
    simp only [hCs, hTails, hCs_eq ts l r, List.map_flatMap, List.map_map]
    congr 1; funext n
    apply List.map_congr_left
    intro y _
    simp
theorem ValidH.hours {r : House} (hV : ValidH r) {k : Nat} (hk : k < r.tn) : 0 ≤ (r.touches.getD k default).lo ∧ (r.touches.getD k default).lo ≤ (r.touches.getD k default).hi ∧ (r.touches.getD k default).hi ≤ 5 := by
  have h1 := touchOk_iff.1 (hV.touch k hk)
  have h2 := hV.last
  omega
theorem mem2 {x : Mem} {A B : List Mem} : ∀ m ∈ x :: A, m ∈ A ++ x :: B := fun m h => by
  rcases List.mem_cons.1 h with rfl | h
  · exact List.mem_append_right _ (.head _)
  · exact List.mem_append_left _ h
/-- touch, the function within scenes -/
theorem touchIn_any {r : House} (hV : ValidH r) {hm : Mem} {wv pv kv tv bv sv : Value} {f : Nat → Value} (hA : HouseAt hm wv pv kv tv bv sv f r) {b1 b2 b3 b7 l0 : Nat}
    (hb1 : IsBox hm b1 (hcs wv pv kv tv bv sv r) 34) (hb2 : IsBox hm b2 #[.func (.yield l0) #[] #[]] 132)
    (hb7 : IsBox hm b7 #[.func (.func 73) #[] #[.pointer (some ⟨b1, 0, none⟩), .pointer (some ⟨b2, 0, none⟩), .pointer (some ⟨b3, 0, none⟩), .pointer (some ⟨b7, 0, none⟩)]] 76)
    {N : Nat} {item : Nat → Value} {St : Nat → List Mem → List Res → Prop} {Sp : List Mem → List Res → Prop} (hStm : ∀ k Ms μ, St k Ms μ → marksOf μ = []) (hSpm : ∀ Ms μ, Sp Ms μ → marksOf μ = [])
    (hY : ∀ k, k < N → ∀ Ms μ, St k Ms μ → YieldM Try.prog l0 #[item k] Ms μ fun v Ms' μ' => (v = .bool true ∧ St (k + 1) Ms' μ') ∨ (v = .bool false ∧ Sp Ms' μ'))
    {l : List Int} (hl : l.length ≤ 7) :
    ∀ (d : Nat) (pre p : List Int), pre.length + d = r.tn → WorkQ 6 r.tn pre p → ∀ k0, Items item N k0 (hCs r.touches l d pre) →
    ∀ Ms μ, St k0 Ms μ → FnM Try.prog 73 #[.int .i64 (pre.length : Int), .pointer (some ⟨b1, 0, none⟩), .pointer (some ⟨b2, 0, none⟩), .pointer (some ⟨b3, 0, none⟩), .pointer (some ⟨b7, 0, none⟩)] (hm :: Ms) (.blk b3 (scnA (pad l) p) 63 :: μ)
      fun v Ms' μ' => ∃ p' μ1, WorkQ 6 r.tn pre p' ∧ μ' = .blk b3 (scnA (pad l) p') 63 :: μ1 ∧ ((v = .bool true ∧ St (k0 + (hCs r.touches l d pre).length) Ms' μ1) ∨ (v = .bool false ∧ Sp Ms' μ1)) := by
  have hT := hA.T
  have h6 : r.tn ≤ 6 := hV.touchN
  have hpl := pad_len hl
  intro d
  induction d with
  | zero =>
    intro pre p hlen hp k0 hit Ms μ hSt
    have hpn : pre.length = r.tn := by omega
    have hpe := hp.done hpn
    have hp6 := hp.1
    have h13 := scnA_size hpl hp6
    obtain ⟨hN, hitem⟩ := hit
    have hyy := hY k0 (by simp only [hCs, List.length_cons, List.length_nil] at hN; omega) Ms μ hSt
    have hit0 := hitem 0 (by show 0 < 1; omega)
    rw [Nat.add_zero] at hit0
    have hit1 : item k0 = .agg (scnA (pad l) p) := by rw [hit0, hpe]; rfl
    rw [hit1] at hyy
    refine FnM.of_W (n := 43) Try.func73 rfl rfl (Nat.le_of_ble_eq_true rfl) (by have := hStm _ _ _ hSt; exact this) fun c hr hD hF => ?_
    refine W.seq ?_; refine W.region ?_; refine .o rfl ?_; refine WL.nil ?_
    refine Kseq.go (W.seq (W.seq ?_))
    refine W.region ?_; refine .o rfl ?_; refine .val (.fieldAddrB rfl) rfl rfl rfl ?_; refine .val (.loadP rfl hb1 (by repeat constructor) rfl) rfl rfl rfl ?_; refine .val (.len rfl hT) rfl rfl rfl ?_; refine .o rfl ?_; refine WL.nil ?_; refine Kseq.go ?_
    refine W.condD rfl rfl (fun he => ?_) (fun hne => absurd (show (pre.length : Int) = (r.tn : Int) by omega) hne)
    refine W.seq ?_; refine W.region ?_; refine .val (.loadP rfl hb2 (by repeat constructor) rfl) rfl rfl rfl ?_; refine .val (.loadBW rfl (.head _) h13) rfl rfl rfl ?_
    (refine WL.yieldM rfl rfl (fun m hm => .tail _ hm) (.r _ (Split.all μ)) (hStm _ _ _ hSt) hyy rfl rfl rfl ?_; rintro v16 M1 a1 hQ)
    refine .o rfl ?_; refine WL.nil ?_; refine Kseq.go ?_
    refine W.ret ?_; refine Kseq.ret ?_
    refine ⟨.inl rfl, [_], M1, .blk b3 (scnA (pad l) p) 63 :: a1, ⟨.tmp rfl, trivial⟩, ⟨p, a1, hp, rfl, hQ⟩, fun m hm => List.mem_append_left _ hm, .refl _, fun s hs => ?_⟩
    rcases List.mem_cons.1 hs with rfl | hs
    · rfl
    · rcases hQ with ⟨_, h⟩ | ⟨_, h⟩
      · exact none_of_marks (hStm _ _ _ h) s hs
      · exact none_of_marks (hSpm _ _ h) s hs
  | succ d ih =>
    intro pre p hlen hp k0 hit Ms μ hSt
    have hk : pre.length < r.tn := by omega
    have hk' : pre.length < r.touches.length := hk
    have hz := hV.hours hk
    have hke : r.touches.length - (d + 1) = pre.length := by unfold House.tn at *; omega
    have hcs : hCs r.touches l (d + 1) pre = (List.range (r.touches.getD pre.length default).size).flatMap fun (n : Nat) => hCs r.touches l d (pre ++ [(r.touches.getD pre.length default).lo + (n : Int)]) := by rw [← hke]; rfl
    rw [hcs] at hit ⊢
    obtain ⟨lo, hlo⟩ : ∃ lo, (r.touches.getD pre.length default).lo = lo := ⟨_, rfl⟩
    obtain ⟨hi, hhi⟩ : ∃ hi, (r.touches.getD pre.length default).hi = hi := ⟨_, rfl⟩
    have hsz : (r.touches.getD pre.length default).size = (hi - lo + 1).toNat := by unfold Touch.size; rw [hlo, hhi]
    rw [hlo, hhi] at hz
    rw [hsz, hlo] at hit ⊢
    obtain ⟨S, hS⟩ : ∃ S : Nat, (hi - lo + 1).toNat = S := ⟨_, rfl⟩
    rw [hS] at hit ⊢
    generalize hF0 : (fun (n : Nat) => hCs r.touches l d (pre ++ [lo + (n : Int)])) = F0 at hit ⊢
    refine FnM.of_W (n := 43) Try.func73 rfl rfl (Nat.le_of_ble_eq_true rfl) (by have := hStm _ _ _ hSt; exact this) fun c hr hD hF => ?_
    refine W.seq ?_; refine W.region ?_; refine .o rfl ?_; refine WL.nil ?_
    refine Kseq.go (W.seq (W.seq ?_))
    refine W.region ?_; refine .o rfl ?_; refine .val (.fieldAddrB rfl) rfl rfl rfl ?_; refine .val (.loadP rfl hb1 (by repeat constructor) rfl) rfl rfl rfl ?_; refine .val (.len rfl hT) rfl rfl rfl ?_; refine .o rfl ?_; refine WL.nil ?_; refine Kseq.go ?_
    refine W.condD rfl rfl (fun he => absurd (show (pre.length : Int) = (r.tn : Int) from he) (by omega)) (fun hne => ?_)
    refine W.skip (Kseq.go (W.seq (W.seq ?_)))
    refine W.region ?_; refine .val (.fieldAddrB rfl) rfl rfl rfl ?_; refine .val (.loadP rfl hb1 (by repeat constructor) rfl) rfl rfl rfl ?_; refine .o rfl ?_; refine .val (.indexAddrN rfl rfl hT hk') rfl rfl rfl ?_; refine .val (.fieldAddrN rfl hT hk') rfl rfl rfl ?_; refine .val (.fieldAddrN rfl hT hk') rfl rfl rfl ?_; refine .val (.cast (.loadE rfl hT (by repeat constructor) hk' (by omega)) (congrArg (Value.int .i64) hlo)) rfl rfl rfl ?_; refine .o rfl ?_; refine WL.nil ?_
    refine Kseq.go (W.block ?_)
    refine W.loop (σ := Nat × List Int × List Mem × List Res) (fun s => [(0, .int .i64 (pre.length : Int)), (1, .pointer (some ⟨b1, 0, none⟩)), (2, .pointer (some ⟨b2, 0, none⟩)), (3, .pointer (some ⟨b3, 0, none⟩)), (4, .pointer (some ⟨b7, 0, none⟩)), (7, .int .i64 (lo + (s.1 : Int)))])
      (fun s => hm :: s.2.2.1) (fun s => .blk b3 (scnA (pad l) s.2.1) 63 :: s.2.2.2) (fun s => s.1 ≤ S ∧ WorkQ 6 r.tn pre s.2.1 ∧ St (k0 + (((List.range S).take s.1).flatMap F0).length) s.2.2.1 s.2.2.2) (fun s => S - s.1) (0, p, Ms, μ) ⟨rfl, rfl, rfl, rfl, rfl, congrArg (fun x : Int => some (Value.int .i64 x)) (show lo = lo + ((0 : Nat) : Int) by omega), trivial⟩ (fun _ h => h) (.refl _) ⟨Nat.zero_le _, hp, by simpa using hSt⟩ ?_
    rintro ⟨j, q1, Ms1, μ1⟩ ⟨hj, hq1, hSt1⟩
    dsimp only at hj hq1 hSt1 ⊢
    refine W.seq (W.seq ?_)
    refine W.region ?_; refine .o rfl ?_; refine .val (.fieldAddrB rfl) rfl rfl rfl ?_; refine .val (.loadP rfl hb1 (by repeat constructor) rfl) rfl rfl rfl ?_; refine .o rfl ?_; refine .val (.indexAddrN rfl rfl hT hk') rfl rfl rfl ?_; refine .val (.fieldAddrN rfl hT hk') rfl rfl rfl ?_; refine .val (.fieldAddrN rfl hT hk') rfl rfl rfl ?_; refine .val (.cast (.loadE rfl hT (by repeat constructor) hk' (by omega)) (congrArg (Value.int .i64) hhi)) rfl rfl rfl ?_; refine .o rfl ?_; refine WL.nil ?_; refine Kseq.go ?_
    refine W.condD rfl rfl (fun hlt => ?_) (fun hge => ?_)
    · have hjS : j < S := by omega
      have hjr : j < (List.range S).length := by simpa using hjS
      have e : (pre ++ [lo + (j : Int)]).length = pre.length + 1 := by simp
      have hset := hq1.set hk h6 (lo + (j : Int))
      have hq16 := hq1.1
      have hat := Items.at hit hjr
      have hft := flat_take (F := F0) hjr
      have ej : (List.range S).getD j default = j := by simp [List.getD_eq_getElem?_getD, hjS]
      rw [ej] at hat hft
      have eF : F0 j = hCs r.touches l d (pre ++ [lo + (j : Int)]) := by rw [← hF0]
      have ih' := ih (pre ++ [lo + (j : Int)]) (q1.set pre.length (lo + (j : Int))) (by rw [e]; omega) hset _ (by rw [← eF]; exact hat) Ms1 μ1 hSt1
      rw [e, ← eF] at ih'
      refine W.skip (Kseq.go (W.seq (W.block (W.seq ?_))))
      refine W.region ?_
      iterate 2 refine .o rfl ?_
      refine .val (.fieldAddrB rfl) rfl rfl rfl ?_; refine .val (.indexAddrB rfl rfl (by omega)) rfl rfl rfl ?_
      (refine WL.store (size := 1) ((pad l).map vi ++ (q1.set pre.length (lo + (j : Int))).map vi) rfl (.head _) rfl rfl rfl (by rw [scnA_size hpl hq16]; omega) (by simp [Value.cells, Value.oneCell']) (scnA_setH hpl (by omega) _) ?_)
      refine WL.nil ?_
      refine Kseq.go (W.seq ?_)
      refine W.region ?_; refine .val (.loadP rfl hb7 (by repeat constructor) rfl) rfl rfl rfl ?_; refine .o rfl ?_; refine .val (.incr rfl (by omega)) rfl rfl rfl ?_
      refine WL.callM rfl rfl (fun m hx => hx) (Split.all _) (by have := hStm _ _ _ hSt1; exact this) ih' rfl rfl rfl ?_
      rintro v35 M1 a1 ⟨q2, μ2, hq2, rfl, hQ⟩
      rcases hQ with ⟨rfl, h⟩ | ⟨rfl, h⟩
      · refine .o rfl ?_
        refine WL.nil ?_; refine Kseq.go ?_; refine W.condF rfl rfl ?_
        refine W.skip (Kblock.normal (Kseq.go ?_))
        refine W.region ?_; refine .o rfl ?_; refine .val (.add rfl rfl (by omega) (by omega)) rfl rfl rfl ?_; refine .o rfl ?_; refine WL.nil ?_
        exact Kloop.next (j + 1, q2, M1, μ2) ⟨hjS, hq2.back, by dsimp only; rw [hft, ← Nat.add_assoc]; exact h⟩ (by dsimp only; omega) ⟨rfl, rfl, rfl, rfl, rfl, congrArg (fun x : Int => some (Value.int .i64 x)) (by omega), trivial⟩ mem2 (.refl _)
      · refine .o rfl ?_
        refine WL.nil ?_; refine Kseq.go ?_; refine W.condT rfl rfl ?_; refine W.seq ?_; refine W.region ?_; refine .o rfl ?_; refine WL.nil ?_; refine Kseq.go ?_
        refine W.ret ?_; refine Kblock.ret (Kseq.ret (Kloop.ret (Kblock.ret (Kseq.ret ?_))))
        refine ⟨.inl rfl, [_], M1, .blk b3 (scnA (pad l) q2) 63 :: μ2, ⟨.tmp rfl, trivial⟩, ⟨q2, μ2, hq2.back, rfl, .inr ⟨rfl, h⟩⟩, fun m hm => List.mem_append_left _ hm, .refl _, fun s hs => ?_⟩
        rcases List.mem_cons.1 hs with rfl | hs
        · rfl
        · exact none_of_marks (hSpm _ _ h) s hs
    · have hjS : j = S := by omega
      subst hjS
      refine W.exit (Kseq.exit (Kloop.exit (Kblock.here (Kseq.go (W.seq ?_)))))
      refine W.region ?_; refine .o rfl ?_; refine WL.nil ?_; refine Kseq.go ?_
      refine W.ret ?_; skip
      refine ⟨.inl rfl, [_], Ms1, .blk b3 (scnA (pad l) q1) 63 :: μ1, ⟨.tmp rfl, trivial⟩, ⟨q1, μ1, hq1, rfl, .inl ⟨rfl, by rw [List.take_of_length_le (by simp)] at hSt1; exact hSt1⟩⟩, fun m hm => .tail _ hm, .refl _, fun s hs => ?_⟩
      rcases List.mem_cons.1 hs with rfl | hs
      · rfl
      · exact none_of_marks (hStm _ _ _ hSt1) s hs
end Go.Proofs.Ytdnbkjgbehakpaa

/- The program's iterator over all courses: its contract. -/
namespace Go.Proofs.Ytdnbkjgbehakpaa
open Go Go.Eng Go.RowKit

theorem scn_zero (t : Table) (ts : List Touch) (pre : List Int) : scn t ts 0 pre = if truB t pre = true then hCs ts pre ts.length [] else [] := by
  simp only [scn, hCs_eq]; simp
theorem scnA_own {pre p : List Int} (h6 : p.length = 6) (h7 : pre.length ≤ 7) {i : Nat} (hi : i < pre.length) : (scnA (pad pre) p)[i]? = some (vi (pre.getD i 0)) := by
  have h := sceneC_owner (c := ⟨pre, p⟩) h7 hi
  have e6 : pad6 p = p := by unfold pad6; rw [h6]; simp
  unfold sceneC at h
  rw [Nat.zero_add, e6] at h
  exact h
/-- own, the function within scenes -/
theorem ownIn_any {r : House} (hV : ValidH r) (hs : Sm r.table) {hm : Mem} {wv pv kv tv bv sv lv : Value} {f : Nat → Value} (hA : HouseAt hm wv pv kv tv bv sv f r) {b1 b2 b3 b4 b6 b7 l0 : Nat}
    (hb1 : IsBox hm b1 (hcs wv pv kv tv bv sv r) 34) (hb2 : IsBox hm b2 #[.func (.yield l0) #[] #[]] 132)
    (hb4 : IsBox hm b4 #[lv] 93) (hLv : IsLists hm lv (whoTo r.table r.table.pieces.length))
    (hb6 : IsBox hm b6 #[.func (.func 72) #[] #[.pointer (some ⟨b1, 0, none⟩), .pointer (some ⟨b3, 0, none⟩), .pointer (some ⟨b7, 0, none⟩), .pointer (some ⟨b4, 0, none⟩), .pointer (some ⟨b6, 0, none⟩)]] 76)
    (hb7 : IsBox hm b7 #[.func (.func 73) #[] #[.pointer (some ⟨b1, 0, none⟩), .pointer (some ⟨b2, 0, none⟩), .pointer (some ⟨b3, 0, none⟩), .pointer (some ⟨b7, 0, none⟩)]] 76)
    {N : Nat} {item : Nat → Value} {St : Nat → List Mem → List Res → Prop} {Sp : List Mem → List Res → Prop} (hStm : ∀ k Ms μ, St k Ms μ → marksOf μ = []) (hSpm : ∀ Ms μ, Sp Ms μ → marksOf μ = [])
    (hY : ∀ k, k < N → ∀ Ms μ, St k Ms μ → YieldM Try.prog l0 #[item k] Ms μ fun v Ms' μ' => (v = .bool true ∧ St (k + 1) Ms' μ') ∨ (v = .bool false ∧ Sp Ms' μ')) :
    ∀ (d : Nat) (pre q p : List Int), pre.length + d = r.np → WorkQ 7 r.np pre q → WorkQ 6 r.tn [] p → ∀ k0, Items item N k0 (scn r.table r.touches d pre) →
    ∀ Ms μ, St k0 Ms μ → FnM Try.prog 72 #[.int .i64 (pre.length : Int), .pointer (some ⟨b1, 0, none⟩), .pointer (some ⟨b3, 0, none⟩), .pointer (some ⟨b7, 0, none⟩), .pointer (some ⟨b4, 0, none⟩), .pointer (some ⟨b6, 0, none⟩)] (hm :: Ms) (.blk b3 (scnA q p) 63 :: μ)
      fun v Ms' μ' => ∃ q' p' μ1, WorkQ 7 r.np pre q' ∧ WorkQ 6 r.tn [] p' ∧ μ' = .blk b3 (scnA q' p') 63 :: μ1 ∧ ((v = .bool true ∧ St (k0 + (scn r.table r.touches d pre).length) Ms' μ1) ∨ (v = .bool false ∧ Sp Ms' μ1)) := by
  have h7 : r.np ≤ 7 := hV.np7
  have hF0 : fault r.table = 0 := fault_zero.2 hV.table
  have hTab := hA.table
  have hHo : IsHouse hm (.agg (hcs wv pv kv tv bv sv r)) r := ⟨wv, pv, kv, tv, bv, sv, f, rfl, hA⟩
  intro d
  induction d with
  | zero =>
    intro pre q p hlen hq hp k0 hit Ms μ hSt
    have hpn : pre.length = r.np := by omega
    have hqe : q = pad pre := hq.done hpn
    have hq7 := hq.1
    have hp6 := hp.1
    have hpl7 : pre.length ≤ 7 := by omega
    have hTL : r.touches.length = r.tn := rfl
    refine FnM.of_W (n := 44) Try.func72 rfl rfl (Nat.le_of_ble_eq_true rfl) (by have := hStm _ _ _ hSt; exact this) fun c hr hD hF => ?_
    refine W.seq ?_; refine W.region ?_; refine .o rfl ?_; refine WL.nil ?_
    refine Kseq.go (W.seq (W.seq ?_))
    refine W.region ?_; refine .o rfl ?_; refine .val (.loadPW rfl hb1 (by repeat constructor) rfl) rfl rfl rfl ?_; refine .val (.call rfl (fun m hm => pieces6_any (hHo.le (by repeat first | exact hm.1 | replace hm := hm.2)))) rfl rfl rfl ?_; refine .o rfl ?_; refine WL.nil ?_; refine Kseq.go ?_
    refine W.condD rfl rfl (fun he => ?_) (fun hne => absurd (show (pre.length : Int) = (r.np : Int) by omega) hne)
    rw [scn_zero, hTL] at hit ⊢
    cases htb : truB r.table pre with
    | false =>
      rw [htb, if_neg (by simp)] at hit
      refine W.seq ?_; refine W.draw 5 (by kernel_rfl) (by kernel_rfl) (by kernel_rfl) rfl ?_; refine .val [] (.fieldAddrB rfl) rfl rfl rfl rfl ?_; refine .val [] (.loadPA (vs := [wv, pv, vi r.table.wrong]) rfl hb1 (by repeat constructor) rfl rfl) rfl rfl rfl rfl ?_; refine .val [] (.fieldAddrB rfl) rfl rfl rfl rfl ?_; refine .val [] (.opv rfl) rfl rfl rfl rfl ?_; refine .val [] (.sliceArr rfl rfl hpl7 (by omega)) rfl rfl rfl rfl ?_; refine DJ.nil ?_
      refine .val (.cast (OpVal.callB rfl (.head _) (fun m hm hb => proveT_any (hTab.le (by repeat first | exact hm.1 | replace hm := hm.2)) hs (IsInts.ofBox (xs := pre) (L := 7) hb (fun i hi => by rw [hqe]; exact scnA_own hp6 hpl7 hi) hpl7 (by unfold maxLen; omega)))) (congrArg Value.bool (show _ = false by rw [hF0]; exact htb))) rfl rfl rfl ?_
      iterate 2 refine .o rfl ?_
      refine WL.pass rfl rfl rfl ?_; refine WL.pass rfl rfl rfl ?_
      iterate 2 refine .o rfl ?_
      refine WL.nil ?_; refine Kseq.go ?_
      refine W.ret ?_; refine Kseq.ret ?_
      refine ⟨.inl rfl, [_], Ms, .blk b3 (scnA q p) 63 :: μ, ⟨.tmp rfl, trivial⟩, ⟨q, p, μ, hq, hp, rfl, .inl ⟨rfl, by simpa using hSt⟩⟩, fun m hm => .tail _ hm, .refl _, fun s hs => ?_⟩
      rcases List.mem_cons.1 hs with rfl | hs
      · rfl
      · exact none_of_marks (hStm _ _ _ hSt) s hs
    | true =>
      rw [htb, if_pos rfl] at hit
      rw [if_pos rfl]
      have hto := touchIn_any hV hA hb1 hb2 hb7 hStm hSpm hY hpl7 r.tn [] p (by simp) hp k0 hit Ms μ hSt
      refine W.seq ?_; refine W.draw 5 (by kernel_rfl) (by kernel_rfl) (by kernel_rfl) rfl ?_; refine .val [] (.fieldAddrB rfl) rfl rfl rfl rfl ?_; refine .val [] (.loadPA (vs := [wv, pv, vi r.table.wrong]) rfl hb1 (by repeat constructor) rfl rfl) rfl rfl rfl rfl ?_; refine .val [] (.fieldAddrB rfl) rfl rfl rfl rfl ?_; refine .val [] (.opv rfl) rfl rfl rfl rfl ?_; refine .val [] (.sliceArr rfl rfl hpl7 (by omega)) rfl rfl rfl rfl ?_; refine DJ.nil ?_
      refine .val (.cast (OpVal.callB rfl (.head _) (fun m hm hb => proveT_any (hTab.le (by repeat first | exact hm.1 | replace hm := hm.2)) hs (IsInts.ofBox (xs := pre) (L := 7) hb (fun i hi => by rw [hqe]; exact scnA_own hp6 hpl7 hi) hpl7 (by unfold maxLen; omega)))) (congrArg Value.bool (show _ = true by rw [hF0]; exact htb))) rfl rfl rfl ?_
      iterate 2 refine .o rfl ?_
      rw [hqe]
      refine .val (.loadP rfl hb7 (by repeat constructor) rfl) rfl rfl rfl ?_
      refine WL.callM rfl rfl (fun m hx => hx) (Split.all _) (by have := hStm _ _ _ hSt; exact this) hto rfl rfl rfl ?_
      rintro v23 M1 a1 ⟨p2, μ2, hp2, rfl, hQ⟩
      iterate 2 refine .o rfl ?_
      refine WL.nil ?_; refine Kseq.go ?_
      refine W.ret ?_; refine Kseq.ret ?_
      refine ⟨.inl rfl, [_], M1, .blk b3 (scnA (pad pre) p2) 63 :: μ2, ⟨.tmp rfl, trivial⟩, ⟨pad pre, p2, μ2, by rw [← hqe]; exact hq, hp2, rfl, ?_⟩, fun m hm => List.mem_append_left _ hm, .refl _, fun s hs => ?_⟩
      · rcases hQ with ⟨rfl, h⟩ | ⟨rfl, h⟩
        · exact .inl ⟨rfl, h⟩
        · exact .inr ⟨rfl, h⟩
      rcases List.mem_cons.1 hs with rfl | hs
      · rfl
      · rcases hQ with ⟨_, h⟩ | ⟨_, h⟩
        · exact none_of_marks (hStm _ _ _ h) s hs
        · exact none_of_marks (hSpm _ _ h) s hs
  | succ d ih =>
    intro pre q p hlen hq hp k0 hit Ms μ hSt
    have hk : pre.length < r.np := by omega
    have hke : r.table.pieces.length - (d + 1) = pre.length := by unfold House.np at *; omega
    have hcs : scn r.table r.touches (d + 1) pre = (whoP r.table pre.length).flatMap fun w => scn r.table r.touches d (pre ++ [w]) := by rw [← hke]; rfl
    rw [hcs] at hit ⊢
    obtain ⟨L, hL⟩ : ∃ L, whoP r.table pre.length = L := ⟨_, rfl⟩
    rw [hL] at hit ⊢
    generalize hF0 : (fun (w : Int) => scn r.table r.touches d (pre ++ [w])) = F0 at hit ⊢
    obtain ⟨vs, hAll, hArr⟩ := hLv
    have hwl : (whoTo r.table r.table.pieces.length).length = r.np := by simp [whoTo]; rfl
    have hLk : IsInts hm (vs.getD pre.length undef) L := by
      have := hAll.2 pre.length (by rw [hwl]; exact hk)
      have e : (whoTo r.table r.table.pieces.length).getD pre.length [] = L := by
        rw [← hL]; unfold whoTo; unfold House.np at hk; simp [List.getD_eq_getElem?_getD, hk]
      rwa [e] at this
    have hkw : pre.length < (whoTo r.table r.table.pieces.length).length := by rw [hwl]; exact hk
    have hlb := hLk.bd
    refine FnM.of_W (n := 44) Try.func72 rfl rfl (Nat.le_of_ble_eq_true rfl) (by have := hStm _ _ _ hSt; exact this) fun c hr hD hF => ?_
    refine W.seq ?_; refine W.region ?_; refine .o rfl ?_; refine WL.nil ?_
    refine Kseq.go (W.seq (W.seq ?_))
    refine W.region ?_; refine .o rfl ?_; refine .val (.loadPW rfl hb1 (by repeat constructor) rfl) rfl rfl rfl ?_; refine .val (.call rfl (fun m hm => pieces6_any (hHo.le (by repeat first | exact hm.1 | replace hm := hm.2)))) rfl rfl rfl ?_; refine .o rfl ?_; refine WL.nil ?_; refine Kseq.go ?_
    refine W.condD rfl rfl (fun he => absurd (show (pre.length : Int) = (r.np : Int) from he) (by omega)) (fun hne => ?_)
    refine W.skip (Kseq.go (W.seq (W.seq ?_)))
    refine W.region ?_; refine .val (.loadP rfl hb4 (by repeat constructor) rfl) rfl rfl rfl ?_; refine .o rfl ?_; refine .val (.indexAddrN rfl rfl hArr hkw) rfl rfl rfl ?_; refine .val (.loadE rfl hArr (by repeat constructor) hkw (by omega)) rfl rfl rfl ?_; refine .val (.len rfl hLk) rfl rfl rfl ?_; refine .o rfl ?_; refine WL.nil ?_
    refine Kseq.go (W.block ?_)
    refine W.loop (σ := Nat × List Int × List Int × List Mem × List Res) (fun s => [(0, .int .i64 (pre.length : Int)), (1, .pointer (some ⟨b1, 0, none⟩)), (2, .pointer (some ⟨b3, 0, none⟩)), (3, .pointer (some ⟨b7, 0, none⟩)), (4, .pointer (some ⟨b4, 0, none⟩)), (5, .pointer (some ⟨b6, 0, none⟩)), (28, vs.getD pre.length undef), (29, .int .i64 (L.length : Int)), (30, .int .i64 (s.1 : Int))])
      (fun s => hm :: s.2.2.2.1) (fun s => .blk b3 (scnA s.2.1 s.2.2.1) 63 :: s.2.2.2.2) (fun s => s.1 ≤ L.length ∧ WorkQ 7 r.np pre s.2.1 ∧ WorkQ 6 r.tn [] s.2.2.1 ∧ St (k0 + ((L.take s.1).flatMap F0).length) s.2.2.2.1 s.2.2.2.2) (fun s => L.length - s.1) (0, q, p, Ms, μ) ⟨rfl, rfl, rfl, rfl, rfl, rfl, rfl, rfl, rfl, trivial⟩ (fun _ h => h) (.refl _) ⟨Nat.zero_le _, hq, hp, by simpa using hSt⟩ ?_
    rintro ⟨j, q1, p1, Ms1, μ1⟩ ⟨hj, hq1, hp1, hSt1⟩
    dsimp only at hj hq1 hp1 hSt1 ⊢
    refine W.seq ?_; refine W.region ?_; refine .o rfl ?_; refine WL.nil ?_
    refine Kseq.go (W.seq ?_)
    refine W.condD rfl rfl (fun hlt => ?_) (fun hge => ?_)
    · have hjS : j < L.length := by omega
      have hset := hq1.set hk h7 (L.getD j 0)
      have e : (pre ++ [L.getD j 0]).length = pre.length + 1 := by simp
      have hq17 := hq1.1
      have hp16 := hp1.1
      have hat := Items.at hit hjS
      have hft := flat_take (F := F0) hjS
      have eF : F0 (L.getD j 0) = scn r.table r.touches d (pre ++ [L.getD j 0]) := by rw [← hF0]
      have ih' := ih (pre ++ [L.getD j 0]) (q1.set pre.length (L.getD j 0)) p1 (by rw [e]; omega) hset hp1 _ (by rw [← eF]; exact hat) Ms1 μ1 hSt1
      rw [e, ← eF] at ih'
      refine W.skip (Kseq.go (W.seq (W.block (W.seq ?_))))
      refine W.region ?_; refine .val (.indexAddrN rfl rfl hLk hjS) rfl rfl rfl ?_; refine .val (.loadE rfl hLk (by repeat constructor) hjS (by omega)) rfl rfl rfl ?_; refine .o rfl ?_; refine WL.nil ?_
      refine Kseq.go (W.seq ?_)
      refine W.region ?_
      iterate 2 refine .o rfl ?_
      refine .val (.fieldAddrB rfl) rfl rfl rfl ?_; refine .val (.indexAddrB rfl rfl (by omega)) rfl rfl rfl ?_
      (refine WL.store (size := 1) ((q1.set pre.length (L.getD j 0)).map vi ++ p1.map vi) rfl (.head _) rfl rfl rfl (by rw [scnA_size hq17 hp16]; omega) (by simp [Value.cells, Value.oneCell']) (scnA_setO (by omega) _) ?_)
      refine WL.nil ?_
      refine Kseq.go (W.seq ?_)
      refine W.region ?_; refine .val (.loadP rfl hb6 (by repeat constructor) rfl) rfl rfl rfl ?_; refine .o rfl ?_; refine .val (.incr rfl (by omega)) rfl rfl rfl ?_
      refine WL.callM rfl rfl (fun m hx => hx) (Split.all _) (by have := hStm _ _ _ hSt1; exact this) ih' rfl rfl rfl ?_
      rintro v35 M1 a1 ⟨q2, p2, μ2, hq2, hp2, rfl, hQ⟩
      rcases hQ with ⟨rfl, h⟩ | ⟨rfl, h⟩
      · refine .o rfl ?_
        refine WL.nil ?_; refine Kseq.go ?_; refine W.condF rfl rfl ?_
        refine W.skip (Kblock.normal (Kseq.go ?_))
        refine W.region ?_; refine .val (.incr rfl (by omega)) rfl rfl rfl ?_; refine .o rfl ?_; refine WL.nil ?_
        exact Kloop.next (j + 1, q2, p2, M1, μ2) ⟨hjS, hq2.back, hp2, by dsimp only; rw [hft, ← Nat.add_assoc]; exact h⟩ (by dsimp only; omega) ⟨rfl, rfl, rfl, rfl, rfl, rfl, rfl, rfl, rfl, trivial⟩ mem2 (.refl _)
      · refine .o rfl ?_
        refine WL.nil ?_; refine Kseq.go ?_; refine W.condT rfl rfl ?_; refine W.seq ?_; refine W.region ?_; refine .o rfl ?_; refine WL.nil ?_; refine Kseq.go ?_
        refine W.ret ?_; refine Kblock.ret (Kseq.ret (Kloop.ret (Kblock.ret (Kseq.ret ?_))))
        refine ⟨.inl rfl, [_], M1, .blk b3 (scnA q2 p2) 63 :: μ2, ⟨.tmp rfl, trivial⟩, ⟨q2, p2, μ2, hq2.back, hp2, rfl, .inr ⟨rfl, h⟩⟩, fun m hm => List.mem_append_left _ hm, .refl _, fun s hs => ?_⟩
        rcases List.mem_cons.1 hs with rfl | hs
        · rfl
        · exact none_of_marks (hSpm _ _ h) s hs
    · have hjS : j = L.length := by omega
      subst hjS
      refine W.exit (Kseq.exit (Kloop.exit (Kblock.here (Kseq.go (W.seq ?_)))))
      refine W.region ?_; refine .o rfl ?_; refine WL.nil ?_; refine Kseq.go ?_
      refine W.ret ?_; skip
      refine ⟨.inl rfl, [_], Ms1, .blk b3 (scnA q1 p1) 63 :: μ1, ⟨.tmp rfl, trivial⟩, ⟨q1, p1, μ1, hq1, hp1, rfl, .inl ⟨rfl, by rw [List.take_length] at hSt1; exact hSt1⟩⟩, fun m hm => .tail _ hm, .refl _, fun s hs => ?_⟩
      rcases List.mem_cons.1 hs with rfl | hs
      · rfl
      · exact none_of_marks (hStm _ _ _ hSt1) s hs
theorem lists_slice {m : Mem} {v : Value} {l : List (List Int)} (h : IsLists m v l) : ∃ a cap n, v = .slice a n cap := by
  obtain ⟨_, _, a, cap, e, _⟩ := h
  exact ⟨a, cap, _, e⟩
def itemC (r : House) (k : Nat) : Value := sceneV ((scenes r).getD k default)
/-- scenes, its inner function -/
theorem scenes1_any {r : House} (hV : ValidH r) (hs : Sm r.table) {h : Mem} {hv : Value} (hH : IsHouse h hv r) {b1 : Nat} (hb1 : IsBox h b1 hv.cells 34) :
    IterM Try.prog 71 #[.pointer (some ⟨b1, 0, none⟩)] [h] (scenes r).length (itemC r) := by
  obtain ⟨wv, pv, kv, tv, bv, sv, f, rfl, hA⟩ := hH
  have hTab := hA.table
  unfold IterM
  intro l0 St Sp hStm hSpm hY Ms μ hSt
  refine FnM.of_W (n := 18) Try.func71 rfl rfl (Nat.le_of_ble_eq_true rfl) (hStm _ _ _ hSt) fun c hr hD hF => ?_
  refine W.seq ?_; refine W.region ?_
  refine WL.box rfl rfl rfl rfl (fun b2 => ?_)
  refine WL.nil ?_
  refine Kseq.go (W.seq ?_)
  refine W.region ?_
  refine WL.alloc rfl rfl rfl (fun b3 => ?_)
  refine WL.nil ?_
  refine Kseq.go (W.seq ?_)
  refine W.region ?_; refine .val (.fieldAddrB rfl) rfl rfl rfl ?_; refine .val (.loadPA (vs := [wv, pv, vi r.table.wrong]) rfl hb1 (by repeat constructor) rfl rfl) rfl rfl rfl ?_
  (refine WL.abs (OpAbs.call rfl (fun m hm => whoseT_any (hTab.le (by repeat first | exact hm.1 | replace hm := hm.2)) hs)) rfl rfl rfl ?_; rintro m11 _ ⟨lv, rfl, hLv⟩; obtain ⟨aL, cL, nL, rfl⟩ : ∃ a cap n, lv = .slice a n cap := lists_slice hLv)
  iterate 3 refine .o rfl ?_
  refine WL.alloc rfl rfl rfl (fun b4 => ?_)
  (refine WL.store [_] rfl (.head _) rfl rfl rfl (Nat.le_of_ble_eq_true rfl) (by simp [Value.cells, Value.oneCell']) rfl ?_)
  refine .o rfl ?_; refine WL.nil ?_
  refine Kseq.go (W.seq ?_)
  rw [askE_zero.2 ⟨hV.table, hV.some⟩, if_pos rfl] at hLv
  refine W.region ?_
  refine WL.alloc rfl rfl rfl (fun b6 => ?_)
  refine WL.alloc rfl rfl rfl (fun b7 => ?_)
  refine WL.nil ?_
  refine Kseq.go (W.seq ?_)
  refine W.region ?_; refine .o rfl ?_
  refine WL.store [_] rfl (.tail _ (.head _)) rfl rfl rfl (Nat.le_of_ble_eq_true rfl) (by first | (simp [Value.cells, Value.oneCell']; done) | exact IsArr.ones hW (by omega) | exact IsArr.ones hP (by omega) | exact IsArr.ones hS (by omega) | exact IsArr.ones hH (by omega) | exact IsArr.ones hL (by omega) | exact IsArr.ones hB (by omega) | exact IsArr.ones hT (by omega) | exact IsArr.ones hm (by omega)) rfl ?_
  refine WL.nil ?_
  refine Kseq.go (W.seq ?_)
  refine W.region ?_; refine .o rfl ?_
  refine WL.store [_] rfl (.head _) rfl rfl rfl (Nat.le_of_ble_eq_true rfl) (by first | (simp [Value.cells, Value.oneCell']; done) | exact IsArr.ones hW (by omega) | exact IsArr.ones hP (by omega) | exact IsArr.ones hS (by omega) | exact IsArr.ones hH (by omega) | exact IsArr.ones hL (by omega) | exact IsArr.ones hB (by omega) | exact IsArr.ones hT (by omega) | exact IsArr.ones hm (by omega)) rfl ?_
  refine WL.nil ?_; refine Kseq.go ?_
  have hfe : ∀ b, c.F b → b ∈ feet μ := hF
  refine W.freezeBox (.head _) (fun b hb => ?_) fun m7 h7 => ?_
  · simp only [feet, List.filterMap_cons, Res.foot]; exact .tail _ (.tail _ (.tail _ (.tail _ (hfe b hb))))
  refine W.freezeBox (.head _) (fun b hb => ?_) fun m6 h6 => ?_
  · simp only [feet, List.filterMap_cons, Res.foot]; exact .tail _ (.tail _ (.tail _ (hfe b hb)))
  refine W.freezeBox (.head _) (fun b hb => ?_) fun m4 h4 => ?_
  · simp only [feet, List.filterMap_cons, Res.foot]; exact .tail _ (.tail _ (hfe b hb))
  refine W.freezeBox (.tail _ (.head _)) (fun b hb => ?_) fun m2 h2 => ?_
  · simp only [feet, List.filterMap_cons, Res.foot]; exact .tail _ (hfe b hb)
  refine W.join fun mj hj => ?_
  have hch := ownIn_any (b3 := b3) (r := r) hV hs (hA.le (hj h (by simp))) (hb1.le (hj h (by simp))) (h2.le (hj m2 (by simp))) (h4.le (hj m4 (by simp))) (hLv.le (hj m11 (by simp))) (h6.le (hj m6 (by simp))) (h7.le (hj m7 (by simp))) (item := itemC r) (N := (scenes r).length) hStm hSpm hY r.np [] (List.replicate 7 0) (List.replicate 6 0) (by simp) WorkQ.zero WorkQ.zero 0 ⟨by rw [Nat.zero_add]; exact Nat.le_refl _, fun i hi => by rw [Nat.zero_add]; rfl⟩ Ms μ hSt
  refine W.region ?_; refine .val (.loadP rfl h6 (by repeat constructor) rfl) rfl rfl rfl ?_
  refine WL.callM rfl rfl (M0 := mj :: Ms) ?_ (Split.all _) (by have := hStm _ _ _ hSt; exact this) hch rfl rfl rfl ?_
  · intro m hm
    rcases List.mem_cons.1 hm with rfl | hm
    · exact .head _
    · simp [hm]
  rintro v7 M1 a1 ⟨q2, p2, μ2, hq2, hp2, rfl, hQ⟩
  refine WL.nil ?_
  refine ⟨.inr rfl, [], M1, μ2, trivial, ?_, fun m hm => List.mem_append_left _ hm, .cons _ (.refl _), fun s hs => ?_⟩
  · rcases hQ with ⟨_, h⟩ | ⟨_, h⟩
    · exact .inl (by rw [Nat.zero_add] at h; exact h)
    · exact .inr h
  · rcases hQ with ⟨_, h⟩ | ⟨_, h⟩
    · exact none_of_marks (hStm _ _ _ h) s hs
    · exact none_of_marks (hSpm _ _ h) s hs
/-- scenes -/
theorem scenes_any {r : House} {h : Mem} {hv : Value} (hH : IsHouse h hv r) : FnR Try.prog 53 #[hv] h (fun m q => ∃ b1, q = .func (.func 71) #[] #[.pointer (some ⟨b1, 0, none⟩)] ∧ IsBox m b1 hv.cells 34) := by
  obtain ⟨wv, pv, kv, tv, bv, sv, f, rfl, hA⟩ := hH
  refine FnR.of_W (n := 4) Try.func53 rfl rfl (Nat.le_of_ble_eq_true rfl) fun c hr hD hF => ?_
  refine W.seq ?_; refine W.region ?_
  refine WL.box rfl rfl rfl rfl (fun b1 => ?_)
  refine .o rfl ?_; refine WL.nil ?_
  refine Kseq.go (W.seq ?_)
  refine W.freezeBox (.head _) (fun b hb => (hF b hb).elim) fun mb hmb => ?_
  refine W.region ?_
  iterate 2 refine .o rfl ?_
  refine WL.nil ?_; refine Kseq.go ?_
  refine W.ret ?_; refine ⟨.inl rfl, [_], mb, ⟨.tmp rfl, trivial⟩, (by repeat constructor), ?_⟩
  exact ⟨_, rfl, hmb⟩
end Go.Proofs.Ytdnbkjgbehakpaa

/- The program's functions of chapter 6: possible, scene. -/
namespace Go.Proofs.Ytdnbkjgbehakpaa
open Go Go.Eng Go.RowKit

theorem scene_fit {r : House} {c : Course} (hc : c ∈ scenes r) : FitC r c := ⟨scene_len hc, (mem_scenes.1 hc).len⟩
/-- possible -/
theorem possible6_any {h : Mem} {v ov : Value} {r : House} {out : List Int} (hv : IsHouse h v r) (hV : ValidH r) (hs : SmH r) (ho : IsInts h ov out) : FnV Try.prog 35 #[v, ov] h (.bool (possible6 r out)) := by
  have hv' := hv
  have hst := hs.table
  have hnp := hV.np7
  have htn : r.tn ≤ 6 := hV.touchN
  obtain ⟨wv, pv, kv, tv, bv, sv, f, rfl, hA⟩ := hv
  obtain ⟨oa, oc, rfl⟩ := IsArr.form ho
  refine FnR.val ?_
  refine FnR.of_W (n := 19) Try.func35 rfl rfl (Nat.le_of_ble_eq_true rfl) fun c hr hD hF => ?_
  refine W.seq ?_; refine W.region ?_
  refine WL.box rfl rfl rfl rfl (fun b2 => ?_)
  refine WL.box rfl rfl rfl rfl (fun b3 => ?_)
  refine WL.alloc rfl rfl rfl (fun b4 => ?_)
  refine WL.nil ?_
  refine Kseq.go (W.seq ?_)
  refine W.freezeBox (.tail _ (.head _)) (fun b hb => (hF b hb).elim) fun m3 h3 => ?_
  refine W.freezeBox (.tail _ (.head _)) (fun b hb => (hF b hb).elim) fun m2 h2 => ?_
  refine W.region ?_; refine .val (.loadPW rfl (by assumption) (by repeat constructor) (by rfl)) rfl rfl rfl ?_
  (refine WL.abs (OpAbs.call rfl (fun m hm => boilings_any (hv'.le (by repeat first | exact hm.1 | replace hm := hm.2)) (IsBoils.nil m) hs (by simp))) rfl rfl rfl ?_; rintro m8 _ ⟨bm, rfl, hm8⟩)
  refine WL.alloc rfl rfl rfl (fun b5 => ?_)
  refine WL.store [_] rfl (.head _) rfl rfl rfl (Nat.le_of_ble_eq_true rfl) (by first | (simp [Value.cells, Value.oneCell']; done) | exact IsArr.ones hW (by omega) | exact IsArr.ones hP (by omega) | exact IsArr.ones hS (by omega) | exact IsArr.ones hH (by omega) | exact IsArr.ones hL (by omega) | exact IsArr.ones hB (by omega) | exact IsArr.ones hT (by omega) | exact IsArr.ones hm (by omega)) rfl ?_
  refine WL.nil ?_
  refine Kseq.go (W.seq (W.seq ?_))
  refine W.freezeBox (.head _) (fun b hb => (hF b hb).elim) fun m5 h5 => ?_
  refine W.region ?_; refine .val (.loadPW rfl (by assumption) (by repeat constructor) (by rfl)) rfl rfl rfl ?_; refine WL.abs (OpAbs.call rfl (fun m hm => scenes_any (hv'.le (by repeat first | exact hm.1 | replace hm := hm.2)))) rfl rfl rfl ?_
  rintro m10 v10 h10
  refine WL.nil ?_
  refine Kseq.go (W.block ?_)
  obtain ⟨b1, rfl, h1⟩ := h10
  refine W.join fun mj hj => ?_
  have hvj := hv'.le (hj h (by simp))
  have h3j := h3.le (hj m3 (by simp))
  have h2j := h2.le (hj m2 (by simp))
  have h5j := h5.le (hj m5 (by simp))
  have hmj := hm8.le (hj m8 (by simp))
  have hoj := IsInts.le ho (hj h (by simp))
  have h1j := h1.le (hj m10 (by simp))
  let St : Nat → List Mem → List Res → Prop := fun k Ms μ => Ms = [mj] ∧ μ = [.blk b4 #[.bool false] 4] ∧ ∀ j, j < k → rightBut6 r.signs (lastN r ((scenes r).getD j default) []) out = false
  let Xt : Exit → List Mem → List Res → Prop := fun e Ms μ => e = .ret ∧ Ms = [mj] ∧ μ = [.blk b4 #[.bool true] 4] ∧ possible6 r out = true
  refine W.rangeFunc (M0 := [mj]) (M1 := [mj]) hr rfl (scenes1_any hV hst hvj h1j) (by simp) (Split.all _) rfl St Xt ⟨rfl, rfl, fun j hj => absurd hj (Nat.not_lt_zero _)⟩ (by simp) (by rintro k Ms μ ⟨_, rfl, _⟩; rfl) (by rintro e Ms μ ⟨_, _, rfl, _⟩; rfl) rfl (by decide) (fun k hk l0 Ms' μ' hSt c' hr' hD' => ?_) (fun D Ms' μ' hSt => ?_) (fun D Ms' μ' hXt => ?_) (fun D id Ms' μ' hXt => ?_)
  · obtain ⟨rfl, rfl, hall⟩ := hSt
    obtain ⟨q, hq⟩ : ∃ q, (scenes r).getD k default = q := ⟨_, rfl⟩
    have hit : itemC r k = sceneV q := by unfold itemC; rw [hq]
    have hqm : q ∈ scenes r := by rw [← hq]; exact getDc hk
    have hfit := scene_fit hqm
    have hsz := sceneC_size (c := q) (by rw [hfit.owners]; omega) (by rw [hfit.hours]; omega)
    rw [hit]
    refine W.region ?_
    refine WL.alloc rfl rfl rfl (fun b6 => ?_)
    (refine WL.storeAll rfl (.head _) rfl rfl hsz (by rfl) (sceneC_one q) ?_)
    refine WL.nil ?_
    refine ⟨rfl, fun c2 hr2 hD2 => ⟨rfl, ?_⟩⟩
    refine W.block (W.seq ?_)
    refine W.draw 6 (by kernel_rfl) (by kernel_rfl) (by kernel_rfl) rfl ?_; refine .val [] (.loadPW rfl h2j (by repeat constructor) rfl) rfl rfl rfl rfl ?_; refine .val [] (.loadPW rfl h2j (by repeat constructor) rfl) rfl rfl rfl rfl ?_; refine .val [] (.loadBW rfl (.head _) hsz) rfl rfl rfl rfl ?_; refine .val [] (.loadP rfl h5j (by repeat constructor) rfl) rfl rfl rfl rfl ?_; refine .val [] (.call rfl (fun m hm => play_any (hvj.le (by repeat first | exact hm.1 | replace hm := hm.2)) hV hfit (hmj.le (by repeat first | exact hm.1 | replace hm := hm.2)))) rfl rfl rfl rfl ?_; refine .val [] (.loadP rfl h3j (by repeat constructor) rfl) rfl rfl rfl rfl ?_; refine DJ.nil ?_; refine .val (.cast (.call rfl (fun m hm => right6_any (hvj.le (by repeat first | exact hm.1 | replace hm := hm.2)) hV (hoj.le (by repeat first | exact hm.1 | replace hm := hm.2)))) (show _ = Value.bool (rightBut6 r.signs (lastN r q []) out) from rfl)) rfl rfl rfl ?_
    refine WL.nil ?_; refine Kseq.go ?_
    refine W.cond rfl rfl (fun he => ?_) (fun hne => ?_)
    · refine W.seq ?_
      refine W.region ?_
      refine WL.store [_] rfl (.tail _ (.head _)) rfl rfl rfl (Nat.le_of_ble_eq_true rfl) (by first | (simp [Value.cells, Value.oneCell']; done) | exact IsArr.ones hW (by omega) | exact IsArr.ones hP (by omega) | exact IsArr.ones hS (by omega) | exact IsArr.ones hH (by omega) | exact IsArr.ones hL (by omega) | exact IsArr.ones hB (by omega) | exact IsArr.ones hT (by omega) | exact IsArr.ones hm (by omega)) rfl ?_
      refine WL.nil ?_; refine Kseq.go ?_
      refine W.ret ?_; refine Kblock.ret ?_
      exact ⟨[mj], [.blk b4 #[.bool true] 4], ⟨rfl, rfl, rfl, ex_iff.2 ⟨k, hk, by rw [hq]; exact he⟩⟩, by simp, (by repeat first | exact .refl _ | refine .cons _ ?_), by simp [markOf]⟩
    · refine W.skip (Kblock.normal ?_)
      exact ⟨[mj], [.blk b4 #[.bool false] 4], ⟨rfl, rfl, fun j hj => by
        rcases Nat.lt_succ_iff_lt_or_eq.1 hj with h | rfl
        · exact hall j h
        · rw [hq]; exact hne⟩, by simp, (by repeat first | exact .refl _ | refine .cons _ ?_), by simp [markOf]⟩
  · obtain ⟨rfl, rfl, hall⟩ := hSt
    have hno : possible6 r out = false := ex_no.2 hall
    refine Kblock.normal (Kseq.go (W.seq ?_))
    refine W.region ?_
    refine WL.store [_] rfl (.tail _ (.head _)) rfl rfl rfl (Nat.le_of_ble_eq_true rfl) (by first | (simp [Value.cells, Value.oneCell']; done) | exact IsArr.ones hW (by omega) | exact IsArr.ones hP (by omega) | exact IsArr.ones hS (by omega) | exact IsArr.ones hH (by omega) | exact IsArr.ones hL (by omega) | exact IsArr.ones hB (by omega) | exact IsArr.ones hT (by omega) | exact IsArr.ones hm (by omega)) rfl ?_
    refine WL.nil ?_; refine Kseq.go ?_
    refine W.ret ?_; skip
    exact ⟨.inl rfl, [_], mj, ⟨.one inferInstance rfl (.tail _ (.head _)) rfl, trivial⟩, .head _, congrArg Value.bool hno.symm⟩
  · obtain ⟨_, rfl, rfl, hyes⟩ := hXt
    (repeat (first | refine Kseq.ret ?_ | refine Kblock.ret ?_ | refine Kloop.ret ?_))
    exact ⟨.inl rfl, [_], mj, ⟨.one inferInstance rfl (.tail _ (.head _)) rfl, trivial⟩, .head _, congrArg Value.bool hyes.symm⟩
  · exact absurd hXt.1 (by simp)
end Go.Proofs.Ytdnbkjgbehakpaa
