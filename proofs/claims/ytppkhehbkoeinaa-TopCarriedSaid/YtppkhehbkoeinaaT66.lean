/- What a walk misses; all walks: the program's functions' contracts. -/
import Derived.Test.YtppkhehbkoeinaaT60
import Derived.Test.YtppkhehbkoeinaaT22
namespace Go.Proofs.Ytppkhehbkoeinaa
open Go Go.Eng Go.RowKit

/-- missing's inner function -/
theorem missingIn_any {h : Mem} {b1 b2 bm : Nat} {lv : Value} {ws : List Int} {g : Int → Bool} (hb1 : IsBox h b1 #[.map (some bm)] 147) (hm0 : IsMap h bm vi (fun _ => True) (.bool false) (fun p => .bool (g p))) (hb2 : IsBox h b2 #[lv] 33) (hl : IsInts h lv ws) (m : Move) :
    FnV Try.prog 115 #[.agg #[vi m.piece, vi m.fro, vi m.to], .pointer (some ⟨b1, 0, none⟩), .pointer (some ⟨b2, 0, none⟩)] h (.bool (g m.piece || decide (m.piece ∈ ws))) := by
  refine FnR.val ?_
  refine FnR.of_W (n := 15) Try.func115 rfl rfl (Nat.le_of_ble_eq_true rfl) fun c hr hD hF => ?_
  refine W.seq ?_; refine W.region ?_
  refine WL.box rfl rfl rfl rfl (fun b3 => ?_)
  refine .o rfl ?_; refine WL.nil ?_
  refine Kseq.go (W.seq ?_)
  refine W.region ?_; refine .val (.loadP rfl (by assumption) (by repeat constructor) rfl) rfl rfl rfl ?_; refine .val (.fieldAddrB rfl) rfl rfl rfl ?_; refine .val (.loadB rfl (.head _) rfl) rfl rfl rfl ?_; refine .val (.lookupP (k := m.piece) rfl rfl hm0 (by repeat constructor) trivial) rfl rfl rfl ?_; refine .o rfl ?_
  refine WL.splitB rfl rfl (fun g9 => ?_) (fun g9 => ?_)
  · refine WL.pass rfl rfl rfl ?_
    refine WL.pass rfl rfl rfl ?_; refine WL.pass rfl rfl rfl ?_; refine WL.pass rfl rfl rfl ?_
    iterate 2 refine .o rfl ?_
    refine WL.nil ?_; refine Kseq.go ?_
    (refine W.ret ?_; refine ⟨.inl rfl, [_], h, ⟨.tmp rfl, trivial⟩, (by repeat constructor), ?_⟩; exact congrArg Value.bool (by first | (simp [-List.getD_eq_getElem?_getD]; done) | (simp_all [-List.getD_eq_getElem?_getD]; done) | (simp [-List.getD_eq_getElem?_getD]; omega) | (rw [Bool.eq_iff_iff]; simp [-List.getD_eq_getElem?_getD]; omega) | (simp [-List.getD_eq_getElem?_getD] at *; omega)))
  · refine .val (.loadP rfl (by assumption) (by repeat constructor) rfl) rfl rfl rfl ?_
    refine .val (.fieldAddrB rfl) rfl rfl rfl ?_; refine .val (.loadB rfl (.head _) rfl) rfl rfl rfl ?_; refine .val (.call rfl (fun m' hm => contains_any _ (hl.le (by repeat first | exact hm.1 | replace hm := hm.2)))) rfl rfl rfl ?_
    iterate 2 refine .o rfl ?_
    refine WL.nil ?_; refine Kseq.go ?_
    (refine W.ret ?_; refine ⟨.inl rfl, [_], h, ⟨.tmp rfl, trivial⟩, (by repeat constructor), ?_⟩; exact congrArg Value.bool (by first | (simp [-List.getD_eq_getElem?_getD]; done) | (simp_all [-List.getD_eq_getElem?_getD]; done) | (simp [-List.getD_eq_getElem?_getD]; omega) | (rw [Bool.eq_iff_iff]; simp [-List.getD_eq_getElem?_getD]; omega) | (simp [-List.getD_eq_getElem?_getD] at *; omega)))
/-- Does a walk not bring back all pieces but some? -/
def hasB (ms : List Move) (walk ws : List Int) (i : Nat) : Bool := brought walk (ms.getD i default) || decide ((ms.getD i default).piece ∈ ws)
def missB (ms : List Move) (walk ws : List Int) : Bool := ex ms.length fun i => !hasB ms walk ws i
/-- missing -/
theorem missingE_any {h : Mem} {b : Nat} {v lv sv : Value} {r : Errand} {walk ws : List Int} (hw : IsWorkE h b v r) (hok : MovesOk r.n (movesR r)) (hl : IsInts h lv walk) (hs : IsInts h sv ws) :
    FnV Try.prog 68 #[.pointer (some ⟨b, 0, none⟩), lv, sv] h (.bool (missB (movesR r) walk ws)) := by
  have hw' := hw
  obtain ⟨cs, mv, rfl, hcs, hB, hMv⟩ := hw
  have hinc := hok.inc
  have hcsl : (cs ++ #[mv])[7]? = some mv := by rw [Array.getElem?_append_right (by omega), hcs]; rfl
  refine FnR.val ?_
  obtain ⟨sa, sc, rfl⟩ := IsArr.form hs
  refine FnR.of_W (n := 18) Try.func68 rfl rfl (Nat.le_of_ble_eq_true rfl) fun c hr hD hF => ?_
  refine W.seq ?_; refine W.region ?_
  refine WL.box rfl rfl rfl rfl (fun b5 => ?_)
  refine .o rfl ?_; refine WL.nil ?_
  refine Kseq.go (W.seq ?_)
  refine W.region ?_
  iterate 2 refine .o rfl ?_
  refine WL.abs (OpAbs.call rfl (fun m hm => bringsE_any (hw'.le (by repeat first | exact hm.1 | replace hm := hm.2)) hok (hl.le (by repeat first | exact hm.1 | replace hm := hm.2)))) rfl rfl rfl ?_
  rintro m10 v10 h10
  obtain ⟨bm, rfl, hmap⟩ := h10
  refine WL.alloc rfl rfl rfl (fun b7 => ?_)
  refine WL.store [_] rfl (.head _) rfl rfl rfl (Nat.le_of_ble_eq_true rfl) (by first | (simp [Value.cells, Value.oneCell']; done) | exact IsArr.ones hW (by omega) | exact IsArr.ones hP (by omega) | exact IsArr.ones hS (by omega) | exact IsArr.ones hH (by omega) | exact IsArr.ones hL (by omega) | exact IsArr.ones hB (by omega) | exact IsArr.ones hT (by omega) | exact IsArr.ones hm (by omega)) rfl ?_
  refine WL.nil ?_
  refine Kseq.go (W.seq ?_)
  refine W.freezeBox (.head _) (fun b hb => (hF b hb).elim) fun m7 h7 => ?_
  refine W.freezeBox (.head _) (fun b hb => (hF b hb).elim) fun m5 h5 => ?_
  refine W.join fun mj hj => ?_
  have h7j : IsBox mj b7 #[.map (some bm)] 147 := h7.le (hj _ (by simp))
  have h5j : IsBox mj b5 #[.slice sa ws.length sc] 33 := h5.le (hj _ (by simp))
  have hmj := hmap.le (hj _ (by simp))
  have hsj := IsInts.le hs (hj h (by simp))
  refine W.region ?_
  iterate 2 refine .o rfl ?_
  refine .val (.fieldAddrB rfl) rfl rfl rfl ?_; refine .val (.loadP rfl hB (by repeat constructor) hcsl) rfl rfl rfl ?_; refine .o rfl ?_
  refine .val (.call rfl (fun m hm => allMv_any (fs := #[]) (cs := #[.pointer (some ⟨b7, 0, none⟩), .pointer (some ⟨b5, 0, none⟩)]) (p := hasB (movesR r) walk ws) (hMv.le (by repeat first | exact hm.1 | replace hm := hm.2)) (fun i hi m' hm' => by have := missingIn_any (h := m') (b1 := b7) (b2 := b5) (h7j.le (MLe.trans (by repeat first | exact hm.1 | replace hm := hm.2) hm')) (hmj.le (MLe.trans (by repeat first | exact hm.1 | replace hm := hm.2) hm')) (h5j.le (MLe.trans (by repeat first | exact hm.1 | replace hm := hm.2) hm')) (hsj.le (MLe.trans (by repeat first | exact hm.1 | replace hm := hm.2) hm')) ((movesR r).getD i default); rw [show (ex (movesR r).length fun x => decide (((movesR r).getD x default).piece = ((movesR r).getD i default).piece) && brought walk ((movesR r).getD x default)) = brought walk ((movesR r).getD i default) from Value.bool.inj (mapB_at (S := fun x => brought walk ((movesR r).getD x default)) hinc hi)] at this; exact this))) rfl rfl rfl ?_
  iterate 2 refine .o rfl ?_
  refine WL.nil ?_; refine Kseq.go ?_
  refine W.ret ?_; refine ⟨.inl rfl, [_], h, ⟨.tmp rfl, trivial⟩, (by repeat constructor), ?_⟩
  exact congrArg Value.bool (Bool.not_not _)
theorem missB_nil {ms : List Move} {walk : List Int} : missB ms walk [] = !decide (bringsN ms walk = fullM ms) := by
  rw [Bool.eq_iff_iff]
  simp only [Bool.not_eq_true', decide_eq_false_iff_not]
  rw [bringsN_full, forall_getD (d := (default : Move))]
  unfold missB
  rw [ex_iff]
  constructor
  · rintro ⟨i, hi, h⟩ hall
    rw [hasB, hall i hi] at h; simp at h
  · intro h
    refine Classical.byContradiction fun hno => h fun i hi => ?_
    cases hb : brought walk (ms.getD i default) with
    | true => rfl
    | false => exact absurd ⟨i, hi, by rw [hasB, hb]; simp⟩ hno

/-! ### All walks -/
theorem pick_right {r : Res} {a a' : List Res} (h : Pick r a a') (μ : List Res) : Pick r (μ ++ a) (μ ++ a') := by
  induction μ with
  | nil => exact h
  | cons x μ ih => exact .tail x ih
theorem repl_right {r r' : Res} {a a' : List Res} (h : Repl r r' a a') (μ : List Res) : Repl r r' (μ ++ a) (μ ++ a') := by
  induction μ with
  | nil => exact h
  | cons x μ ih => exact .tail x ih
theorem mem_mid {h : Mem} {A B : List Mem} : ∀ m ∈ h :: A, m ∈ A ++ h :: B := fun m hm => by
  rcases List.mem_cons.1 hm with rfl | hm
  · exact List.mem_append_right _ (.head _)
  · exact List.mem_append_left _ hm
theorem walksUpto_split {n f : Nat} {b : List Int} {k : Nat} : ∀ {n' : Nat}, k ≤ n' → ∃ t, walksUpto n f b n' = walksUpto n f b k ++ t
  | 0, h => by have : k = 0 := by omega
               subst this; exact ⟨[], by simp⟩
  | n' + 1, h => by
    rcases Nat.lt_or_eq_of_le h with h1 | rfl
    · obtain ⟨t, e⟩ := walksUpto_split (n := n) (f := f) (b := b) (k := k) (n' := n') (by omega)
      rw [walksUpto_succ, e, List.append_assoc]; exact ⟨_, rfl⟩
    · exact ⟨[], by simp⟩
theorem walksUpto_get {n f : Nat} {b : List Int} {k j : Nat} (hk : k < n) (hg : goes b k = true) (hj : j < (walksFrom n f (b ++ [(k : Int)])).length) : (walksFrom n (f + 1) b).getD ((walksUpto n f b k).length + j) [] = (walksFrom n f (b ++ [(k : Int)])).getD j [] ∧
    (walksUpto n f b k).length + (walksFrom n f (b ++ [(k : Int)])).length ≤ (walksFrom n (f + 1) b).length := by
  obtain ⟨t, e⟩ := walksUpto_split (n := n) (f := f) (b := b) (k := k + 1) (n' := n) (by omega)
  rw [walksUpto_succ, if_pos hg, List.append_assoc] at e
  rw [← walksUpto_all, e]
  refine ⟨?_, by simp only [List.length_append]; omega⟩
  simp only [List.getD_eq_getElem?_getD]
  rw [List.getElem?_append_right (by omega), Nat.add_sub_cancel_left, List.getElem?_append_left hj]
/-- walks, its innermost function -/
theorem extendE_any {r : Errand} (hn : r.n ≤ 50) {hm : Mem} {v : Value} (hv : IsErrand hm v r) {most : Nat} (h1000 : most ≤ 1000) {b1 b2 b3 b4 l0 : Nat}
    (hb1 : IsBox hm b1 #[.func (.yield l0) #[] #[]] 118) (hb2 : IsBox hm b2 v.cells 61) (hb3 : IsBox hm b3 #[vi most] 3) (hb4 : IsBox hm b4 #[.func (.func 113) #[] #[.pointer (some ⟨b1, 0, none⟩), .pointer (some ⟨b2, 0, none⟩), .pointer (some ⟨b3, 0, none⟩), .pointer (some ⟨b4, 0, none⟩)]] 118)
    {N : Nat} {A : Nat → Mem → Value → Prop} {St : Nat → List Mem → List Res → Prop} {Sp : List Mem → List Res → Prop} {F0 : List Nat} (hStF : ∀ k Ms μ, St k Ms μ → feet μ = F0) (hStm : ∀ k Ms μ, St k Ms μ → marksOf μ = []) (hSpm : ∀ Ms μ, Sp Ms μ → marksOf μ = [])
    (hY : ∀ k, k < N → ∀ m u, A k m u → ∀ Ms μ, St k Ms μ → YieldM Try.prog l0 #[u] (m :: Ms) μ fun v Ms' μ' => (v = .bool true ∧ St (k + 1) Ms' μ') ∨ (v = .bool false ∧ Sp Ms' μ')) :
    ∀ (f : Nat) (b : List Int), b.length + f = most → ∀ k0, k0 + (walksFrom r.n f b).length ≤ N → (∀ j, j < (walksFrom r.n f b).length → ∀ m u, IsInts m u ((walksFrom r.n f b).getD j []) → A (k0 + j) m u) →
    ∀ (h0 : Mem) (bv : Value), MLe hm h0 → IsInts h0 bv b → ∀ Ms μ, St k0 Ms μ → FnM Try.prog 113 #[bv, .pointer (some ⟨b1, 0, none⟩), .pointer (some ⟨b2, 0, none⟩), .pointer (some ⟨b3, 0, none⟩), .pointer (some ⟨b4, 0, none⟩)] (h0 :: Ms) μ
      fun v Ms' μ' => (v = .bool true ∧ St (k0 + (walksFrom r.n f b).length) Ms' μ') ∨ (v = .bool false ∧ Sp Ms' μ') := by
  obtain ⟨wv, pv, hov, sv, ff, rfl, hW, hP, hM, hH, hS⟩ := hv
  have hv' : IsErrand hm (.agg (ecs wv pv hov sv r)) r := ⟨wv, pv, hov, sv, ff, rfl, hW, hP, hM, hH, hS⟩
  intro f
  induction f with
  | zero =>
    intro b hlen k0 hN hA h0 bv hle hb Ms μ hSt
    have h1 := hb1.le hle
    have h2 := hb2.le hle
    have h3 := hb3.le hle
    have h4 := hb4.le hle
    have hbl : b.length = most := by omega
    have hbb := hb.bd
    refine FnM.of_W (n := 45) Try.func113 rfl rfl (Nat.le_of_ble_eq_true rfl) (hStm _ _ _ hSt) fun c hr hD hF => ?_
    refine W.seq ?_; refine W.region ?_; refine .o rfl ?_; refine WL.nil ?_
    refine Kseq.go (W.seq (W.seq ?_))
    have hyy := hY k0 (by have : (walksFrom r.n 0 b).length = 1 := rfl; omega) h0 bv (hA 0 (by show 0 < 1; omega) h0 bv hb) Ms μ hSt
    refine W.region ?_; refine .val (.loadP rfl (by assumption) (by repeat constructor) rfl) rfl rfl rfl ?_; refine .o rfl ?_; refine WL.yieldM rfl rfl (fun m hm => hm) (Split.all μ) (hStm _ _ _ hSt) hyy rfl rfl rfl ?_
    rintro v11 M1 a1 (⟨rfl, hQ⟩ | ⟨rfl, hQ⟩)
    · refine .o rfl ?_
      refine WL.nil ?_; refine Kseq.go ?_; refine W.condF rfl rfl ?_
      refine W.skip (Kseq.go (W.seq (W.seq ?_)))
      refine W.weaken [(0, bv), (1, .pointer (some ⟨b1, 0, none⟩)), (2, .pointer (some ⟨b2, 0, none⟩)), (3, .pointer (some ⟨b3, 0, none⟩)), (4, .pointer (some ⟨b4, 0, none⟩))] (h0 :: M1) a1 (by repeat (first | exact trivial | refine ⟨rfl, ?_⟩)) mem_mid (.refl _) ?_ rfl
      refine W.region ?_; refine .val (.loadPW rfl (by assumption) (by repeat constructor) (by rfl)) rfl rfl rfl ?_; refine .val (.call rfl (fun m hm => womenE_any (hv'.le (MLe.trans hle (by repeat first | exact hm.1 | replace hm := hm.2))))) rfl rfl rfl ?_; refine .o rfl ?_; refine WL.nil ?_
      refine Kseq.go (W.block ?_)
      refine W.loop (σ := Nat) (fun k => [(0, bv), (1, .pointer (some ⟨b1, 0, none⟩)), (2, .pointer (some ⟨b2, 0, none⟩)), (3, .pointer (some ⟨b3, 0, none⟩)), (4, .pointer (some ⟨b4, 0, none⟩)), (14, vi (r.n : Int)), (15, .int .i64 (k : Int))]) (fun _ => h0 :: M1) (fun _ => a1) (fun k => k ≤ r.n) (fun k => r.n - k) 0 ⟨rfl, rfl, rfl, rfl, rfl, rfl, rfl, trivial⟩ (fun _ h => h) (.refl _) (Nat.zero_le _) ?_ rfl
      intro k hk
      refine W.seq ?_; refine W.region ?_; refine .o rfl ?_; refine WL.nil ?_
      refine Kseq.go (W.seq ?_)
      refine W.condD rfl rfl (fun hlt => ?_) (fun hge => ?_)
      · refine W.skip (Kseq.go (W.seq (W.block (W.seq ?_))))
        refine W.region ?_
        iterate 2 refine .o rfl ?_
        refine WL.nil ?_
        refine Kseq.go (W.seq (W.seq ?_))
        refine W.region ?_; refine .o rfl ?_; refine .val (.len rfl hb) rfl rfl rfl ?_; refine .o rfl ?_; refine WL.nil ?_
        refine Kseq.go (W.seq ?_)
        have e : ((b.length : Int) - 1).toNat = b.length - 1 := by omega
        refine W.toS [(0, bv), (1, .pointer (some ⟨b1, 0, none⟩)), (2, .pointer (some ⟨b2, 0, none⟩)), (3, .pointer (some ⟨b3, 0, none⟩)), (4, .pointer (some ⟨b4, 0, none⟩)), (14, vi (r.n : Int)), (15, .int .i64 (k : Int)), (35, .bool (decide (b.length = most) || !goes b k))] ?_ ?_
        · skip
          refine W.region ?_; refine .o rfl ?_; refine .val (.loadP rfl (by assumption) (by repeat constructor) rfl) rfl rfl rfl ?_
          iterate 2 refine .o rfl ?_
          refine WL.split rfl rfl (fun g23 => ?_) (fun g23 => ?_)
          · refine WL.pass rfl rfl rfl ?_
            refine WL.pass rfl rfl rfl ?_; refine WL.pass rfl rfl rfl ?_; refine WL.pass rfl rfl rfl ?_; refine WL.pass rfl rfl rfl ?_; refine WL.pass rfl rfl rfl ?_; refine WL.pass rfl rfl rfl ?_; refine WL.pass rfl rfl rfl ?_; refine WL.pass rfl rfl rfl ?_; refine WL.pass rfl rfl rfl ?_; refine WL.pass rfl rfl rfl ?_; refine .o rfl ?_; refine WL.nil ?_
            exact Keff.intro ⟨rfl, rfl, rfl, rfl, rfl, rfl, rfl, congrArg (fun b => some (Value.bool b)) (by first | exact (by first | (simp [goes, -List.getD_eq_getElem?_getD]; done) | (simp_all [-List.getD_eq_getElem?_getD]; done) | (simp [goes, e, -List.getD_eq_getElem?_getD]; omega) | (rw [Bool.eq_iff_iff]; simp [goes, e, -List.getD_eq_getElem?_getD]; omega) | (simp [goes, e, -List.getD_eq_getElem?_getD] at *; omega)) | (simp [goes, show b.length = most from hbl]; done)), trivial⟩ (fun _ h => h) (by repeat first | exact .refl _ | refine .cons _ ?_)
          · refine .o rfl ?_
            iterate 2 refine .o rfl ?_
            refine WL.split rfl rfl (fun g26 => ?_) (fun g26 => ?_)
            · refine .o rfl ?_
              refine .o rfl ?_; refine .val (.sub rfl rfl (by omega) (by omega)) rfl rfl rfl ?_; refine .val (.indexAddr rfl rfl hb (by omega) (by omega)) rfl rfl rfl ?_; refine .val (.loadE rfl hb (by repeat constructor) (by omega) (by omega)) rfl rfl rfl ?_
              iterate 4 refine .o rfl ?_
              refine WL.nil ?_
              exact Keff.intro ⟨rfl, rfl, rfl, rfl, rfl, rfl, rfl, congrArg (fun b => some (Value.bool b)) (by first | exact (by first | (simp [goes, -List.getD_eq_getElem?_getD]; done) | (simp_all [-List.getD_eq_getElem?_getD]; done) | (simp [goes, e, -List.getD_eq_getElem?_getD]; omega) | (rw [Bool.eq_iff_iff]; simp [goes, e, -List.getD_eq_getElem?_getD]; omega) | (simp [goes, e, -List.getD_eq_getElem?_getD] at *; omega)) | (simp [goes, show b.length = most from hbl]; done)), trivial⟩ (fun _ h => h) (by repeat first | exact .refl _ | refine .cons _ ?_)
            · refine WL.pass rfl rfl rfl ?_
              refine WL.pass rfl rfl rfl ?_; refine WL.pass rfl rfl rfl ?_; refine WL.pass rfl rfl rfl ?_; refine WL.pass rfl rfl rfl ?_; refine WL.pass rfl rfl rfl ?_; refine WL.pass rfl rfl rfl ?_
              iterate 2 refine .o rfl ?_
              refine WL.nil ?_
              exact Keff.intro ⟨rfl, rfl, rfl, rfl, rfl, rfl, rfl, congrArg (fun b => some (Value.bool b)) (by first | exact (by first | (simp [goes, -List.getD_eq_getElem?_getD]; done) | (simp_all [-List.getD_eq_getElem?_getD]; done) | (simp [goes, e, -List.getD_eq_getElem?_getD]; omega) | (rw [Bool.eq_iff_iff]; simp [goes, e, -List.getD_eq_getElem?_getD]; omega) | (simp [goes, e, -List.getD_eq_getElem?_getD] at *; omega)) | (simp [goes, show b.length = most from hbl]; done)), trivial⟩ (fun _ h => h) (by repeat first | exact .refl _ | refine .cons _ ?_)
        refine Kseq.go ?_
        refine W.condT rfl (by show Value.bool _ = _; rw [decide_eq_true hbl]; rfl) ?_
        refine W.exit (Kseq.exit (Kblock.here (Kseq.go ?_)))
        refine W.region ?_; refine .val (.incr rfl (by omega)) rfl rfl rfl ?_; refine .o rfl ?_; refine WL.nil ?_
        exact Kloop.next (k + 1) (by omega) (by omega) ⟨rfl, rfl, rfl, rfl, rfl, rfl, rfl, trivial⟩ (fun _ h => h) (.refl _)
      · refine W.exit (Kseq.exit (Kloop.exit (Kblock.here (Kseq.go (W.seq ?_)))))
        refine W.region ?_; refine .o rfl ?_; refine WL.nil ?_; refine Kseq.go ?_
        refine W.ret ?_; skip
        exact ⟨.inl rfl, [_], M1, a1, ⟨.tmp rfl, trivial⟩, .inl ⟨rfl, hQ⟩, fun m hm => .tail _ hm, .refl _, none_of_marks (hStm _ _ _ hQ)⟩
    · refine .o rfl ?_
      refine WL.nil ?_; refine Kseq.go ?_; refine W.condT rfl rfl ?_; refine W.seq ?_; refine W.region ?_; refine .o rfl ?_; refine WL.nil ?_; refine Kseq.go ?_
      refine W.ret ?_; refine Kseq.ret ?_
      exact ⟨.inl rfl, [_], M1, a1, ⟨.tmp rfl, trivial⟩, .inr ⟨rfl, hQ⟩, fun m hm => List.mem_append_left _ hm, .refl _, none_of_marks (hSpm _ _ hQ)⟩
  | succ f ih =>
    intro b hlen k0 hN hA h0 bv hle hb Ms μ hSt
    have h1 := hb1.le hle
    have h2 := hb2.le hle
    have h3 := hb3.le hle
    have h4 := hb4.le hle
    have hbl : b.length < most := by omega
    have hbb := hb.bd
    refine FnM.of_W (n := 45) Try.func113 rfl rfl (Nat.le_of_ble_eq_true rfl) (hStm _ _ _ hSt) fun c hr hD hF => ?_
    refine W.seq ?_; refine W.region ?_; refine .o rfl ?_; refine WL.nil ?_
    refine Kseq.go (W.seq (W.seq ?_))
    have hpos : 0 < (walksFrom r.n (f + 1) b).length := by simp [walksFrom]
    have hyy := hY k0 (by omega) h0 bv (hA 0 hpos h0 bv (by simpa [walksFrom] using hb)) Ms μ hSt
    refine W.region ?_; refine .val (.loadP rfl (by assumption) (by repeat constructor) rfl) rfl rfl rfl ?_; refine .o rfl ?_; refine WL.yieldM rfl rfl (fun m hm => hm) (Split.all μ) (hStm _ _ _ hSt) hyy rfl rfl rfl ?_
    rintro v11 M1 a1 (⟨rfl, hQ⟩ | ⟨rfl, hQ⟩)
    · refine .o rfl ?_
      refine WL.nil ?_; refine Kseq.go ?_; refine W.condF rfl rfl ?_
      refine W.skip (Kseq.go (W.seq (W.seq ?_)))
      refine W.weaken [(0, bv), (1, .pointer (some ⟨b1, 0, none⟩)), (2, .pointer (some ⟨b2, 0, none⟩)), (3, .pointer (some ⟨b3, 0, none⟩)), (4, .pointer (some ⟨b4, 0, none⟩))] (h0 :: M1) a1 (by repeat (first | exact trivial | refine ⟨rfl, ?_⟩)) mem_mid (.refl _) ?_ rfl
      refine W.region ?_; refine .val (.loadPW rfl (by assumption) (by repeat constructor) (by rfl)) rfl rfl rfl ?_; refine .val (.call rfl (fun m hm => womenE_any (hv'.le (MLe.trans hle (by repeat first | exact hm.1 | replace hm := hm.2))))) rfl rfl rfl ?_; refine .o rfl ?_; refine WL.nil ?_
      refine Kseq.go (W.block ?_)
      refine W.loop (σ := Nat × List Mem × List Res) (fun s => [(0, bv), (1, .pointer (some ⟨b1, 0, none⟩)), (2, .pointer (some ⟨b2, 0, none⟩)), (3, .pointer (some ⟨b3, 0, none⟩)), (4, .pointer (some ⟨b4, 0, none⟩)), (14, vi (r.n : Int)), (15, .int .i64 (s.1 : Int))]) (fun s => h0 :: s.2.1) (fun s => s.2.2) (fun s => s.1 ≤ r.n ∧ St (k0 + (walksUpto r.n f b s.1).length) s.2.1 s.2.2) (fun s => r.n - s.1) (0, M1, a1) ⟨rfl, rfl, rfl, rfl, rfl, rfl, rfl, trivial⟩ (fun _ h => h) (.refl _) ⟨Nat.zero_le _, by simpa [walksUpto] using hQ⟩ ?_ rfl
      rintro ⟨k, M2, a2⟩ ⟨hk, hSt2⟩
      dsimp only at hk hSt2 ⊢
      refine W.seq ?_; refine W.region ?_; refine .o rfl ?_; refine WL.nil ?_
      refine Kseq.go (W.seq ?_)
      refine W.condD rfl rfl (fun hlt => ?_) (fun hge => ?_)
      · have hkn : k < r.n := by omega
        refine W.skip (Kseq.go (W.seq (W.block (W.seq ?_))))
        refine W.region ?_
        iterate 2 refine .o rfl ?_
        refine WL.nil ?_
        refine Kseq.go (W.seq (W.seq ?_))
        refine W.region ?_; refine .o rfl ?_; refine .val (.len rfl hb) rfl rfl rfl ?_; refine .o rfl ?_; refine WL.nil ?_
        refine Kseq.go (W.seq ?_)
        have e : ((b.length : Int) - 1).toNat = b.length - 1 := by omega
        refine W.toS [(0, bv), (1, .pointer (some ⟨b1, 0, none⟩)), (2, .pointer (some ⟨b2, 0, none⟩)), (3, .pointer (some ⟨b3, 0, none⟩)), (4, .pointer (some ⟨b4, 0, none⟩)), (7, .int .i64 (k : Int)), (14, vi (r.n : Int)), (15, .int .i64 (k : Int)), (35, .bool (!goes b k))] ?_ ?_
        · skip
          refine W.region ?_; refine .o rfl ?_; refine .val (.loadP rfl (by assumption) (by repeat constructor) rfl) rfl rfl rfl ?_
          iterate 2 refine .o rfl ?_
          refine WL.split rfl rfl (fun g23 => ?_) (fun g23 => ?_)
          · refine WL.pass rfl rfl rfl ?_
            refine WL.pass rfl rfl rfl ?_; refine WL.pass rfl rfl rfl ?_; refine WL.pass rfl rfl rfl ?_; refine WL.pass rfl rfl rfl ?_; refine WL.pass rfl rfl rfl ?_; refine WL.pass rfl rfl rfl ?_; refine WL.pass rfl rfl rfl ?_; refine WL.pass rfl rfl rfl ?_; refine WL.pass rfl rfl rfl ?_; refine WL.pass rfl rfl rfl ?_; refine .o rfl ?_; refine WL.nil ?_
            exact Keff.intro ⟨rfl, rfl, rfl, rfl, rfl, rfl, rfl, rfl, congrArg (fun b => some (Value.bool b)) (by first | exact (by first | (simp [goes, -List.getD_eq_getElem?_getD]; done) | (simp_all [-List.getD_eq_getElem?_getD]; done) | (simp [goes, -List.getD_eq_getElem?_getD]; omega) | (rw [Bool.eq_iff_iff]; simp [goes, e, -List.getD_eq_getElem?_getD]; omega) | (simp [goes, e, -List.getD_eq_getElem?_getD] at *; omega)) | (rw [goes, e, decide_eq_false (show ¬ b.length = 0 by omega)]; simp; done) | (rw [goes, decide_eq_true (show b.length = 0 by omega)]; rfl)), trivial⟩ (fun _ h => h) (by repeat first | exact .refl _ | refine .cons _ ?_)
          · refine .o rfl ?_
            iterate 2 refine .o rfl ?_
            refine WL.split rfl rfl (fun g26 => ?_) (fun g26 => ?_)
            · refine .o rfl ?_
              refine .o rfl ?_; refine .val (.sub rfl rfl (by omega) (by omega)) rfl rfl rfl ?_; refine .val (.indexAddr rfl rfl hb (by omega) (by omega)) rfl rfl rfl ?_; refine .val (.loadE rfl hb (by repeat constructor) (by omega) (by omega)) rfl rfl rfl ?_
              iterate 4 refine .o rfl ?_
              refine WL.nil ?_
              exact Keff.intro ⟨rfl, rfl, rfl, rfl, rfl, rfl, rfl, rfl, congrArg (fun b => some (Value.bool b)) (by first | exact (by first | (simp [goes, -List.getD_eq_getElem?_getD]; done) | (simp_all [-List.getD_eq_getElem?_getD]; done) | (simp [goes, -List.getD_eq_getElem?_getD]; omega) | (rw [Bool.eq_iff_iff]; simp [goes, -List.getD_eq_getElem?_getD]; omega) | (simp [goes, e, -List.getD_eq_getElem?_getD] at *; omega)) | (rw [goes, e, decide_eq_false (show ¬ b.length = 0 by omega)]; simp; done) | (rw [goes, decide_eq_true (show b.length = 0 by omega)]; rfl)), trivial⟩ (fun _ h => h) (by repeat first | exact .refl _ | refine .cons _ ?_)
            · refine WL.pass rfl rfl rfl ?_
              refine WL.pass rfl rfl rfl ?_; refine WL.pass rfl rfl rfl ?_; refine WL.pass rfl rfl rfl ?_; refine WL.pass rfl rfl rfl ?_; refine WL.pass rfl rfl rfl ?_; refine WL.pass rfl rfl rfl ?_
              iterate 2 refine .o rfl ?_
              refine WL.nil ?_
              exact Keff.intro ⟨rfl, rfl, rfl, rfl, rfl, rfl, rfl, rfl, congrArg (fun b => some (Value.bool b)) (by first | exact (by first | (simp [goes, -List.getD_eq_getElem?_getD]; done) | (simp_all [-List.getD_eq_getElem?_getD]; done) | (simp [goes, -List.getD_eq_getElem?_getD]; omega) | (rw [Bool.eq_iff_iff]; simp [goes, -List.getD_eq_getElem?_getD]; omega) | (simp [goes, e, -List.getD_eq_getElem?_getD] at *; omega)) | (rw [goes, e, decide_eq_false (show ¬ b.length = 0 by omega)]; simp; done) | (rw [goes, decide_eq_true (show b.length = 0 by omega)]; rfl)), trivial⟩ (fun _ h => h) (by repeat first | exact .refl _ | refine .cons _ ?_)
        refine Kseq.go ?_
        cases hgo : goes b k with
        | false =>
          refine W.condT rfl rfl ?_
          refine W.exit (Kseq.exit (Kblock.here (Kseq.go ?_)))
          refine W.region ?_; refine .val (.incr rfl (by omega)) rfl rfl rfl ?_; refine .o rfl ?_; refine WL.nil ?_
          refine Kloop.next (k + 1, M2, a2) ⟨hkn, ?_⟩ (by dsimp only; omega) ⟨rfl, rfl, rfl, rfl, rfl, rfl, rfl, trivial⟩ (fun _ h => h) (.refl _)
          dsimp only
          rw [walksUpto_succ, hgo]
          simpa using hSt2
        | true =>
          refine W.condF rfl rfl ?_
          let l1 : List (Nat × Value) := [(0, bv), (1, .pointer (some ⟨b1, 0, none⟩)), (2, .pointer (some ⟨b2, 0, none⟩)), (3, .pointer (some ⟨b3, 0, none⟩)), (4, .pointer (some ⟨b4, 0, none⟩)), (7, .int .i64 (k : Int)), (14, vi (r.n : Int)), (15, .int .i64 (k : Int))]
          refine W.skip (Kseq.go (W.seq ?_))
          refine W.weaken l1 (h0 :: M2) a2 (by repeat (first | exact trivial | refine ⟨rfl, ?_⟩)) (fun _ h => h) (.refl _) ?_ rfl
          have hX := walksUpto_get (f := f) hkn hgo (j := 0) (by have : 0 < (walksFrom r.n f (b ++ [(k : Int)])).length := by { cases f <;> simp [walksFrom] }; exact this)
          refine W.drawN (γ := Ph2 Value (Option Addr × Nat)) .a 6 [2, 5] (Ph2.sel l1 (fun q => (38, q) :: l1) (fun q g => (41, .slice g.1 (b.length + 1) g.2) :: (38, q) :: l1)) (Ph2.sel a2 (fun q => a2 ++ [ir 3 q b]) (fun q g => a2 ++ [ir 3 (.slice g.1 (b.length + 1) g.2) (b ++ [(k : Int)])])) Ph2.num (by kernel_rfl) (by kernel_rfl) (by kernel_rfl) rfl Ph2.le (Ph2.all rfl (fun _ => rfl) (fun _ _ => rfl)) rfl rfl ?_; refine DJN.val [] (Ph2.all (fun hg => (by first | exact OpVal.loadB rfl (.head _) rfl | exact OpVal.loadB rfl (.tail _ (.head _)) rfl | exact OpVal.loadB rfl (.tail _ (.tail _ (.head _))) rfl | exact OpVal.loadB rfl (.tail _ (.tail _ (.tail _ (.head _)))) rfl | exact OpVal.loadB rfl (.tail _ (.tail _ (.tail _ (.tail _ (.head _))))) rfl | exact OpVal.loadB rfl (.tail _ (.tail _ (.tail _ (.tail _ (.tail _ (.head _)))))) rfl | exact OpVal.loadP rfl (by assumption) (by repeat constructor) rfl)) (fun x1 hg => (by first | exact OpVal.loadB rfl (.head _) rfl | exact OpVal.loadB rfl (.tail _ (.head _)) rfl | exact OpVal.loadB rfl (.tail _ (.tail _ (.head _))) rfl | exact OpVal.loadB rfl (.tail _ (.tail _ (.tail _ (.head _)))) rfl | exact OpVal.loadB rfl (.tail _ (.tail _ (.tail _ (.tail _ (.head _))))) rfl | exact OpVal.loadB rfl (.tail _ (.tail _ (.tail _ (.tail _ (.tail _ (.head _)))))) rfl | exact OpVal.loadP rfl (by assumption) (by repeat constructor) rfl)) (fun x1 x2 hg => (by first | exact OpVal.loadB rfl (.head _) rfl | exact OpVal.loadB rfl (.tail _ (.head _)) rfl | exact OpVal.loadB rfl (.tail _ (.tail _ (.head _))) rfl | exact OpVal.loadB rfl (.tail _ (.tail _ (.tail _ (.head _)))) rfl | exact OpVal.loadB rfl (.tail _ (.tail _ (.tail _ (.tail _ (.head _))))) rfl | exact OpVal.loadB rfl (.tail _ (.tail _ (.tail _ (.tail _ (.tail _ (.head _)))))) rfl | exact OpVal.loadP rfl (by assumption) (by repeat constructor) rfl))) (Ph2.all (fun hg => rfl) (fun x1 hg => rfl) (fun x1 x2 hg => rfl)) rfl rfl (Ph2.all rfl (fun _ => rfl) (fun _ _ => rfl)) rfl ?_
          refine DJN.val [] (Ph2.all (fun hg => OpVal.opv rfl) (fun x1 hg => Bool.noConfusion (show false = true from hg)) (fun x1 x2 hg => Bool.noConfusion (show false = true from hg))) (Ph2.all (fun hg => rfl) (fun x1 hg => Bool.noConfusion (show false = true from hg)) (fun x1 x2 hg => Bool.noConfusion (show false = true from hg))) rfl rfl (Ph2.all rfl (fun _ => rfl) (fun _ _ => rfl)) rfl ?_; refine DJN.eff 0 [(37, _)] ⟨rfl, trivial⟩ rfl rfl [] trivial (Ph2.all (fun hg => ⟨rfl, fun M2 hM2 => ?_⟩) (fun x1 hg => absurd hg (by simp [Ph2.num])) (fun x1 x2 hg => absurd hg (by simp [Ph2.num]))) ?_
          · (refine WL.callM rfl rfl (M0 := [h0]) (fun x hx => hM2 x (by simp at hx; simp [hx])) (Split.none _) rfl (cloneM_any hb (by omega)) rfl rfl rfl ?_; rintro q M3 a3 ⟨rfl, rfl, hq⟩; exact WL.nil ⟨.b q, rfl, Keff.intro (by repeat (first | exact trivial | refine ⟨rfl, ?_⟩)) (fun x hx => hx) (.refl _)⟩)
          refine DJN.val [] (Ph2.all (fun hg => OpVal.opv rfl) (fun x1 hg => OpVal.opv rfl) (fun x1 x2 hg => OpVal.opv rfl)) (Ph2.all (fun hg => rfl) (fun x1 hg => rfl) (fun x1 x2 hg => rfl)) rfl rfl (Ph2.all rfl (fun _ => rfl) (fun _ _ => rfl)) rfl ?_; refine DJN.abs (A := fun m r => IsCells m 1 r 1 [vi k]) [] (Ph2.all (fun hg => (OpAbs.litI rfl)) (fun x1 hg => (OpAbs.litI rfl)) (fun x1 x2 hg => Bool.noConfusion (show false = true from hg))) (Ph2.all (fun hg => rfl) (fun x1 hg => rfl) (fun x1 x2 hg => Bool.noConfusion (show false = true from hg))) rfl rfl (Ph2.all rfl (fun _ => rfl) (fun _ _ => rfl)) rfl ?_; refine DJN.eff 1 [] trivial rfl rfl [(40, fun m r => IsCells m 1 r 1 [vi k])] ⟨(by repeat constructor), rfl, trivial⟩ (Ph2.all (fun hg => absurd hg (by simp [Ph2.num])) (fun x1 hg => ⟨rfl, fun M2 hM2 => ?_⟩) (fun x1 x2 hg => absurd hg (by simp [Ph2.num]))) ?_
          · intro m40 v40 h40
            (refine WL.appInt (k := (k : Int)) rfl (fun _ => repl_right (.head _) a2) rfl h40 (.head _) (by omega) rfl rfl rfl ?_; intro a41 c41; exact WL.nil ⟨.c x1 (a41, c41), rfl, Keff.intro (by repeat (first | exact trivial | refine ⟨rfl, ?_⟩)) (fun x hx => .tail _ hx) (.refl _)⟩)
          refine DJN.nil (Ph2.all (fun hg => absurd hg (by simp [Ph2.num])) (fun x1 hg => absurd hg (by simp [Ph2.num])) (fun x1 x2 hg => ?_))
          rintro m40 v40 h40
          (refine WL.freezeInts (pick_right (.head _) a2) (fun b hb => by rw [List.append_nil, hStF _ _ _ hSt2, ← hStF _ _ _ hSt]; exact hF b hb) fun mo hmo => ?_; refine WL.join fun mj hj => ?_; refine WL.callM rfl rfl (M0 := mj :: M2) ?_ (Split.all _) (by rw [List.append_nil]; exact hStm _ _ _ hSt2) (by rw [List.append_nil]; exact ih (b ++ [(k : Int)]) (by simp; omega) (k0 + (walksUpto r.n f b k).length) (by omega) (fun j hj m u hu => by rw [Nat.add_assoc]; exact hA _ (by have := (walksUpto_get (f := f) hkn hgo hj).2; omega) m u (by rw [(walksUpto_get (f := f) hkn hgo hj).1]; exact hu)) mj _ (MLe.trans hle (hj h0 (by simp))) (hmo.le (hj mo (by simp))) M2 a2 hSt2) rfl rfl rfl ?_)
          · intro m hm
            rcases List.mem_cons.1 hm with rfl | hm
            · exact .head _
            · exact .tail _ (.tail _ (.tail _ (.tail _ hm)))
          rintro v42 M3 a3 (⟨rfl, hQ3⟩ | ⟨rfl, hQ3⟩)
          · refine .o rfl ?_
            refine WL.nil ?_; refine Kseq.go ?_; refine W.condF rfl rfl ?_
            refine W.skip (Kblock.normal (Kseq.go ?_))
            refine W.region ?_; refine .val (.incr rfl (by omega)) rfl rfl rfl ?_; refine .o rfl ?_; refine WL.nil ?_
            refine Kloop.next (k + 1, M3, a3) ⟨hkn, ?_⟩ (by dsimp only; omega) ⟨rfl, rfl, rfl, rfl, rfl, rfl, rfl, trivial⟩ ?_ (.refl _) rfl
            · dsimp only
              rw [walksUpto_succ, if_pos hgo, List.length_append, ← Nat.add_assoc]
              exact hQ3
            · intro m hm
              rcases List.mem_cons.1 hm with rfl | hm
              · exact List.mem_append_right _ (.tail _ (.tail _ (.tail _ (.head _))))
              · exact List.mem_append_left _ hm
          · refine .o rfl ?_
            refine WL.nil ?_; refine Kseq.go ?_; refine W.condT rfl rfl ?_; refine W.seq ?_; refine W.region ?_; refine .o rfl ?_; refine WL.nil ?_; refine Kseq.go ?_
            refine W.ret ?_; refine Kblock.ret (Kseq.ret (Kloop.ret (Kblock.ret (Kseq.ret ?_))))
            exact ⟨.inl rfl, [_], M3, a3, ⟨.tmp rfl, trivial⟩, .inr ⟨rfl, hQ3⟩, fun m hm => List.mem_append_left _ hm, .refl _, none_of_marks (hSpm _ _ hQ3)⟩
      · have hkn : k = r.n := by omega
        subst hkn
        refine W.exit (Kseq.exit (Kloop.exit (Kblock.here (Kseq.go (W.seq ?_)))))
        refine W.region ?_; refine .o rfl ?_; refine WL.nil ?_; refine Kseq.go ?_
        refine W.ret ?_; skip
        exact ⟨.inl rfl, [_], M2, a2, ⟨.tmp rfl, trivial⟩, .inl ⟨rfl, hSt2⟩, fun m hm => .tail _ hm, .refl _, none_of_marks (hStm _ _ _ hSt2)⟩
    · refine .o rfl ?_
      refine WL.nil ?_; refine Kseq.go ?_; refine W.condT rfl rfl ?_; refine W.seq ?_; refine W.region ?_; refine .o rfl ?_; refine WL.nil ?_; refine Kseq.go ?_
      refine W.ret ?_; refine Kseq.ret ?_
      exact ⟨.inl rfl, [_], M1, a1, ⟨.tmp rfl, trivial⟩, .inr ⟨rfl, hQ⟩, fun m hm => List.mem_append_left _ hm, .refl _, none_of_marks (hSpm _ _ hQ)⟩
/-- walks, its inner function -/
theorem walks1E_any {r : Errand} (hn : r.n ≤ 50) {h : Mem} {v : Value} (hv : IsErrand h v r) {most : Nat} (h1000 : most ≤ 1000) {b1 b2 : Nat} (hb1 : IsBox h b1 v.cells 61) (hb2 : IsBox h b2 #[vi most] 3) :
    IterA Try.prog 112 #[.pointer (some ⟨b1, 0, none⟩), .pointer (some ⟨b2, 0, none⟩)] [h] (walks r.n most).length (fun k m u => IsInts m u ((walks r.n most).getD k [])) := by
  unfold IterA
  intro l0 F0 St Sp hSF hStm hSpm hY Ms μ hSt
  refine FnM.of_W (n := 8) Try.func112 rfl rfl (Nat.le_of_ble_eq_true rfl) (hStm _ _ _ hSt) fun c hr hD hF => ?_
  refine W.seq ?_; refine W.region ?_
  refine WL.box rfl rfl rfl rfl (fun b3 => ?_)
  refine WL.nil ?_
  refine Kseq.go (W.seq ?_)
  refine W.region ?_
  refine WL.alloc rfl rfl rfl (fun b4 => ?_)
  refine WL.nil ?_
  refine Kseq.go (W.seq ?_)
  refine W.region ?_; refine .o rfl ?_
  refine WL.store [_] rfl (.head _) rfl rfl rfl (Nat.le_of_ble_eq_true rfl) (by first | (simp [Value.cells, Value.oneCell']; done) | exact IsArr.ones hW (by omega) | exact IsArr.ones hP (by omega) | exact IsArr.ones hS (by omega) | exact IsArr.ones hH (by omega) | exact IsArr.ones hL (by omega) | exact IsArr.ones hB (by omega) | exact IsArr.ones hT (by omega) | exact IsArr.ones hm (by omega)) rfl ?_
  refine WL.nil ?_; refine Kseq.go ?_
  have hfe : ∀ b, c.F b → b ∈ feet μ := hF
  refine W.freezeBox (.head _) (fun b hb => ?_) fun m4 h4 => ?_
  · simp only [feet, List.filterMap_cons, Res.foot]; exact .tail _ (hfe b hb)
  refine W.freezeBox (.head _) (fun b hb => hfe b hb) fun m3 h3 => ?_
  refine W.join fun mj hj => ?_
  have hch := extendE_any (N := (walks r.n most).length) hn (hv.le (hj h (by simp))) h1000 (b1 := b3) (b2 := b1) (b3 := b2) (b4 := b4) (h3.le (hj m3 (by simp))) (hb1.le (hj h (by simp))) (hb2.le (hj h (by simp))) (h4.le (hj m4 (by simp))) hSF hStm hSpm hY most [] (by simp) 0 (by rw [Nat.zero_add]; exact Nat.le_refl _) (fun j _ m u hu => by rw [Nat.zero_add]; exact hu) mj (.slice none 0 0) (MLe.refl _) (IsInts.nil _) Ms μ hSt
  refine W.region ?_; refine .val (.loadP rfl (by assumption) (by repeat constructor) rfl) rfl rfl rfl ?_; refine WL.callM rfl rfl (M0 := mj :: Ms) ?_ (Split.all _) (hStm _ _ _ hSt) hch rfl rfl rfl ?_
  · intro m hm
    rcases List.mem_cons.1 hm with rfl | hm
    · exact .head _
    · exact .tail _ (.tail _ (.tail _ (.tail _ hm)))
  rintro v7 M1 a1 hQ
  refine WL.nil ?_
  refine ⟨.inr rfl, [], M1, a1, trivial, ?_, fun m hm => List.mem_append_left _ hm, .refl _, fun s hs => ?_⟩
  · rcases hQ with ⟨_, h⟩ | ⟨_, h⟩
    · rw [Nat.zero_add] at h; exact .inl h
    · exact .inr h
  · rcases hQ with ⟨_, h⟩ | ⟨_, h⟩
    · exact none_of_marks (hStm _ _ _ h) s hs
    · exact none_of_marks (hSpm _ _ h) s hs
/-- walks -/
theorem walksE_any {h : Mem} {v : Value} {r : Errand} (hv : IsErrand h v r) (most : Int) : FnR Try.prog 67 #[v, vi most] h (fun m q => ∃ b1 b2, q = .func (.func 112) #[] #[.pointer (some ⟨b1, 0, none⟩), .pointer (some ⟨b2, 0, none⟩)] ∧ IsBox m b1 v.cells 61 ∧ IsBox m b2 #[vi most] 3) := by
  obtain ⟨wv, pv, hov, sv, f, rfl, hW, hP, hM, hH, hS⟩ := hv
  refine FnR.of_W (n := 6) Try.func67 rfl rfl (Nat.le_of_ble_eq_true rfl) fun c hr hD hF => ?_
  refine W.seq ?_; refine W.region ?_
  refine WL.box rfl rfl rfl rfl (fun b2 => ?_)
  refine WL.box rfl rfl rfl rfl (fun b3 => ?_)
  refine .o rfl ?_; refine WL.nil ?_
  refine Kseq.go (W.seq ?_)
  refine W.freezeBox (.head _) (fun b hb => (hF b hb).elim) fun m3 h3 => ?_
  refine W.freezeBox (.head _) (fun b hb => (hF b hb).elim) fun m2 h2 => ?_
  refine W.join fun mj hj => ?_
  refine W.region ?_
  iterate 2 refine .o rfl ?_
  refine WL.nil ?_; refine Kseq.go ?_
  refine W.ret ?_; refine ⟨.inl rfl, [_], mj, ⟨.tmp rfl, trivial⟩, (by repeat constructor), ?_⟩
  exact ⟨_, _, rfl, h2.le (hj _ (by simp)), h3.le (hj _ (by simp))⟩
end Go.Proofs.Ytppkhehbkoeinaa

/- The program's questions of chapter 11: their contracts. -/
namespace Go.Proofs.Ytppkhehbkoeinaa
open Go Go.Eng Go.RowKit

end Go.Proofs.Ytppkhehbkoeinaa

/- The program's questions of chapter 11, on: their contracts. -/
namespace Go.Proofs.Ytppkhehbkoeinaa
open Go Go.Eng Go.RowKit

end Go.Proofs.Ytppkhehbkoeinaa

/- The program's questions of chapter 11, on: their contracts. -/
namespace Go.Proofs.Ytppkhehbkoeinaa
open Go Go.Eng Go.RowKit

end Go.Proofs.Ytppkhehbkoeinaa
