/- The program's function Best: its contract. -/
import Derived.Test.YtppkhehbkoeinaaT66
namespace Go.Proofs.Ytppkhehbkoeinaa
open Go Go.Eng Go.RowKit

/-- The calls and the ending that have been found. -/
def foundC (r : Errand) : Option (List Int) → Int × Int
  | none => (8, 0)
  | some b => (b.length, endingE r b)
def foundW : Option (List Int) → List Int
  | none => []
  | some b => b
abbrev allW (r : Errand) : List (List Int) := walks r.n r.calls.toNat
theorem allW_walk {r : Errand} (hV : ValidE r) {k : Nat} (hk : k < (allW r).length) : Walk r.n ((allW r).getD k []) ∧ (((allW r).getD k []).length : Int) ≤ r.calls := by
  have hc := hV.calls
  have h7 : r.calls.toNat ≤ 7 := by omega
  obtain ⟨h1, h2⟩ := (mem_walks h7).1 (getD_mem_nil hk)
  refine ⟨h1, ?_⟩
  show (((walks r.n r.calls.toNat).getD k []).length : Int) ≤ r.calls
  omega
/-- A round of Best. -/
theorem bestP_round {r : Errand} {ms : List Move} {all : List (List Int)} {k : Nat} (hl : (all.getD k []).length ≤ 7) :
    bestP r ms all (k + 1) = if (decide ((foundC r (bestP r ms all k)).1 < ((all.getD k []).length : Int)) || missB ms (all.getD k []) [] || !sureB r (all.getD k [])) = false ∧ (((all.getD k []).length : Int) < (foundC r (bestP r ms all k)).1 ∨ ((all.getD k []).length : Int) = (foundC r (bestP r ms all k)).1 ∧ endingE r (all.getD k []) < (foundC r (bestP r ms all k)).2) then some (all.getD k []) else bestP r ms all k := by
  have hs : servesB r ms (all.getD k []) = (!missB ms (all.getD k []) [] && sureB r (all.getD k [])) := by rw [missB_nil, Bool.not_not]; rfl
  simp only [bestP, hs]
  cases missB ms (all.getD k []) [] with
  | true => simp
  | false =>
    cases sureB r (all.getD k []) with
    | false => simp
    | true =>
      simp only [Bool.not_false, Bool.and_true, Bool.not_true, Bool.or_false, if_true]
      cases bestP r ms all k with
      | none => exact (if_pos ⟨decide_eq_false (show ¬ (8 : Int) < _ by omega), .inl (show _ < (8 : Int) by omega)⟩).symm
      | some b =>
        by_cases h : (all.getD k []).length < b.length ∨ (all.getD k []).length = b.length ∧ endingE r (all.getD k []) < endingE r b
        · exact (if_pos h).trans (if_pos ⟨decide_eq_false (show ¬ (b.length : Int) < _ by omega), (show (((all.getD k []).length : Int) < (b.length : Int) ∨ ((all.getD k []).length : Int) = (b.length : Int) ∧ endingE r (all.getD k []) < endingE r b) by omega)⟩).symm
        · refine (if_neg h).trans (if_neg fun hh => h ?_).symm
          have h2 : (((all.getD k []).length : Int) < (b.length : Int) ∨ ((all.getD k []).length : Int) = (b.length : Int) ∧ endingE r (all.getD k []) < endingE r b) := hh.2
          omega
def bestV (r : Errand) : Option (List Int) := bestP r (movesR r) (allW r) (allW r).length
def bestErr (r : Errand) : Int := if faultT r ≠ 0 then faultT r else if (bestV r).isSome = true then 0 else 10
/-- Best -/
theorem bestT_any {h : Mem} {v : Value} {r : Errand} (hv : IsErrand h v r) (hs : SmE r) : FnR Try.prog 19 #[v] h (fun m q => ∃ lv, q = .tuple #[lv, vi (if bestErr r = 0 then (foundC r (bestV r)).2 else 0), vi (bestErr r)] ∧ IsInts m lv (if bestErr r = 0 then foundW (bestV r) else [])) := by
  have hv' := hv
  obtain ⟨wv, pv, hov, sv, f, rfl, hW, hP, hM, hH, hS⟩ := hv
  have hn : r.n ≤ 50 := hs.table.1
  refine FnR.of_W (n := 53) Try.func19 rfl rfl (Nat.le_of_ble_eq_true rfl) fun c hr hD hF => ?_
  refine W.seq ?_; refine W.region ?_
  refine WL.box rfl rfl rfl rfl (fun b1 => ?_)
  refine WL.alloc rfl rfl rfl (fun b2 => ?_)
  iterate 2 refine .o rfl ?_
  refine WL.nil ?_
  refine Kseq.go (W.seq ?_)
  refine W.region ?_; refine .val (.loadBW rfl (.tail _ (.head _)) rfl) rfl rfl rfl ?_; refine WL.abs (OpAbs.call rfl (fun m hm => askedE_any (hv'.le (by repeat first | exact hm.1 | replace hm := hm.2)) hs (fs := #[]) (cs := #[]) (p := true) (fun _ m' hm' => always_any))) rfl rfl rfl ?_
  rintro m11 _ (⟨hE, rfl⟩ | ⟨hV, hp, rfl⟩ | ⟨hV, hp, b, rfl, hwk⟩)
  · have e : bestErr r = faultT r := by unfold bestErr; rw [if_pos hE]
    iterate 3 refine .o rfl ?_
    refine WL.alloc rfl rfl rfl (fun b5 => ?_)
    refine WL.store [_] rfl (.head _) rfl rfl rfl (Nat.le_of_ble_eq_true rfl) (by first | (simp [Value.cells, Value.oneCell']; done) | exact IsArr.ones hW (by omega) | exact IsArr.ones hP (by omega) | exact IsArr.ones hS (by omega) | exact IsArr.ones hH (by omega) | exact IsArr.ones hL (by omega) | exact IsArr.ones hB (by omega) | exact IsArr.ones hT (by omega) | exact IsArr.ones hm (by omega)) rfl ?_
    refine .o rfl ?_; refine WL.nil ?_
    refine Kseq.go (W.seq (W.seq ?_))
    refine W.region ?_
    iterate 2 refine .o rfl ?_
    refine WL.nil ?_; refine Kseq.go ?_
    refine W.cond rfl rfl (fun he => ?_) (fun he => absurd he (by simp [hE]))
    refine W.seq ?_; refine W.region ?_; refine .o rfl ?_
    refine WL.store [_] rfl (.tail _ (.head _)) rfl rfl rfl (Nat.le_of_ble_eq_true rfl) (by first | (simp [Value.cells, Value.oneCell']; done) | exact IsArr.ones hW (by omega) | exact IsArr.ones hP (by omega) | exact IsArr.ones hS (by omega) | exact IsArr.ones hH (by omega) | exact IsArr.ones hL (by omega) | exact IsArr.ones hB (by omega) | exact IsArr.ones hT (by omega) | exact IsArr.ones hm (by omega)) rfl ?_
    iterate 2 refine .o rfl ?_
    refine WL.nil ?_; refine Kseq.go ?_
    refine W.ret ?_; refine Kseq.ret ?_
    refine ⟨.inl rfl, [_, _, _], h, ⟨.one inferInstance rfl (.tail _ (.head _)) rfl, .tmp rfl, .tmp rfl, trivial⟩, (by repeat constructor), ?_⟩
    exact ⟨_, by rw [e, if_neg hE]; rfl, by rw [e, if_neg hE]; exact IsInts.nil _⟩
  · cases hp
  · have hok := movesR_ok hV
    have hcl := hV.calls
    iterate 3 refine .o rfl ?_
    refine WL.alloc rfl rfl rfl (fun b5 => ?_)
    refine WL.store [_] rfl (.head _) rfl rfl rfl (Nat.le_of_ble_eq_true rfl) (by first | (simp [Value.cells, Value.oneCell']; done) | exact IsArr.ones hW (by omega) | exact IsArr.ones hP (by omega) | exact IsArr.ones hS (by omega) | exact IsArr.ones hH (by omega) | exact IsArr.ones hL (by omega) | exact IsArr.ones hB (by omega) | exact IsArr.ones hT (by omega) | exact IsArr.ones hm (by omega)) rfl ?_
    refine .o rfl ?_; refine WL.nil ?_
    refine Kseq.go (W.seq (W.seq ?_))
    refine W.region ?_
    iterate 2 refine .o rfl ?_
    refine WL.nil ?_; refine Kseq.go ?_
    refine W.cond rfl rfl (fun he => absurd he (by simp)) (fun he => ?_)
    refine W.skip (Kseq.go (W.seq ?_))
    refine W.region ?_; refine .val (.build2 rfl rfl) rfl rfl rfl ?_
    refine WL.alloc rfl rfl rfl (fun b6 => ?_)
    refine WL.store [_, _] rfl (.head _) rfl rfl rfl (Nat.le_of_ble_eq_true rfl) (by first | (simp [Value.cells, Value.oneCell']; done) | exact IsArr.ones hW (by omega) | exact IsArr.ones hP (by omega) | exact IsArr.ones hS (by omega) | exact IsArr.ones hH (by omega) | exact IsArr.ones hL (by omega) | exact IsArr.ones hB (by omega) | exact IsArr.ones hT (by omega) | exact IsArr.ones hm (by omega)) rfl ?_
    refine WL.nil ?_
    refine Kseq.go (W.seq (W.seq ?_))
    refine W.freezeBox (.tail _ (.head _)) (fun b hb => (hF b hb).elim) fun m5 h5 => ?_
    refine W.freezeBox (.tail _ (.tail _ (.head _))) (fun b hb => (hF b hb).elim) fun m1 h1 => ?_
    refine W.region ?_; refine .val (.loadPW rfl h1 (by repeat constructor) (by rfl)) rfl rfl rfl ?_; refine .val (.fieldAddrB rfl) rfl rfl rfl ?_; refine .val (.loadP rfl h1 (by repeat constructor) rfl) rfl rfl rfl ?_; refine WL.abs (OpAbs.call rfl (fun m hm => walksE_any (hv'.le (by repeat first | exact hm.1 | replace hm := hm.2)) _)) rfl rfl rfl ?_
    rintro m21 v21 h21
    refine WL.nil ?_
    refine Kseq.go (W.block ?_)
    obtain ⟨c1, c2, rfl, hc1, hc2⟩ := h21
    refine W.join fun mj hj => ?_
    have hvj := hv'.le (hj h (by simp))
    have h5j := h5.le (hj m5 (by simp))
    have h1j := h1.le (hj m1 (by simp))
    have hwkj := hwk.le (hj m11 (by simp))
    have hc1j := hc1.le (hj m21 (by simp))
    have hc2j : IsBox mj c2 #[vi (r.calls.toNat : Int)] 3 := by rw [show ((r.calls.toNat : Nat) : Int) = r.calls by omega]; exact hc2.le (hj m21 (by simp))
    clear h5 h1 hc1 hc2 hwk
    let St : Nat → List Mem → List Res → Prop := fun k Ms μ => ∃ m0 w0, Ms = [m0] ∧ MLe mj m0 ∧ μ = [.blk b6 #[vi (foundC r (bestP r (movesR r) (allW r) k)).1, vi (foundC r (bestP r (movesR r) (allW r) k)).2] 125, .blk b2 #[w0] 33] ∧ IsInts m0 w0 (foundW (bestP r (movesR r) (allW r) k))
    refine W.rangeFuncA (M0 := [mj]) (M1 := [mj]) hr rfl (walks1E_any hn hvj (by omega) hc1j hc2j) (by simp) (Split.all _) rfl St (fun _ _ _ => False) [b6, b2] ?_ ⟨mj, .slice none 0 0, rfl, MLe.refl _, rfl, IsInts.nil _⟩ (by simp) (by rintro k Ms μ ⟨_, _, _, _, rfl, _⟩; rfl) (by rintro e Ms μ h; exact h.elim) rfl (by decide) (fun k hk m u hu l0 Ms' μ' hSt c' hr' hD' hF' => ?_) (fun D Ms' μ' hSt => ?_) (fun D Ms' μ' hXt => hXt.elim) (fun D id Ms' μ' hXt => hXt.elim)
    · rintro k Ms μ ⟨_, _, _, _, rfl, _⟩; rfl
    · obtain ⟨m0, w0, rfl, hm0, rfl, hI⟩ := hSt
      obtain ⟨hwlk, hwlc⟩ := allW_walk hV hk
      have h7 := hwlk.len
      have hround := bestP_round (r := r) (ms := movesR r) (all := allW r) (k := k) h7
      have hub := hu.bd
      generalize (allW r).getD k [] = wk at *
      obtain ⟨ua, uc, rfl⟩ := IsArr.form hu
      generalize bestP r (movesR r) (allW r) k = old at *
      refine W.region ?_; refine .o rfl ?_; refine WL.nil ?_
      refine ⟨rfl, fun c2' hr2 hD2 hF2 => ⟨rfl, ?_⟩⟩
      refine W.block (W.seq (W.seq ?_))
      refine W.join fun mk hmk => ?_
      have hvk := hvj.le (MLe.trans hm0 (hmk m0 (by simp)))
      have h5k := h5j.le (MLe.trans hm0 (hmk m0 (by simp)))
      have h1k := h1j.le (MLe.trans hm0 (hmk m0 (by simp)))
      have hwkk := hwkj.le (MLe.trans hm0 (hmk m0 (by simp)))
      have huk := hu.le (hmk m (by simp))
      have hIk := hI.le (hmk m0 (by simp))
      have hmk0 : MLe mj mk := MLe.trans hm0 (hmk m0 (by simp))
      refine W.weaken [(1, .pointer (some ⟨b1, 0, none⟩)), (2, .pointer (some ⟨b2, 0, none⟩)), (5, .pointer (some ⟨b5, 0, none⟩)), (6, .pointer (some ⟨b6, 0, none⟩)), (7, .slice ua wk.length uc)] [mk] [.blk b6 #[vi (foundC r old).1, vi (foundC r old).2] 125, .blk b2 #[w0] 33] (by repeat (first | exact trivial | refine ⟨rfl, ?_⟩)) (by simp) (.refl _) ?_; refine W.toS [(1, .pointer (some ⟨b1, 0, none⟩)), (2, .pointer (some ⟨b2, 0, none⟩)), (5, .pointer (some ⟨b5, 0, none⟩)), (6, .pointer (some ⟨b6, 0, none⟩)), (7, .slice ua wk.length uc), (38, .bool (decide ((foundC r old).1 < (wk.length : Int)) || missB (movesR r) wk [] || !sureB r wk))] ?_ ?_
      · skip
        refine W.region ?_; refine .o rfl ?_; refine .val (.len rfl huk) rfl rfl rfl ?_; refine .val (.fieldAddrB rfl) rfl rfl rfl ?_; refine .val (.loadB rfl (.head _) rfl) rfl rfl rfl ?_
        iterate 2 refine .o rfl ?_
        refine WL.split rfl rfl (fun g28 => ?_) (fun g28 => ?_)
        · refine WL.pass rfl rfl rfl ?_
          refine WL.pass rfl rfl rfl ?_; refine WL.pass rfl rfl rfl ?_
          iterate 2 refine .o rfl ?_
          refine WL.pass rfl rfl rfl ?_; refine WL.pass rfl rfl rfl ?_; refine WL.pass rfl rfl rfl ?_; refine WL.pass rfl rfl rfl ?_; refine .o rfl ?_; refine WL.nil ?_
          exact Keff.intro ⟨rfl, rfl, rfl, rfl, rfl, congrArg (fun b => some (Value.bool b)) (by first | exact (by first | (simp [-List.getD_eq_getElem?_getD]; done) | (simp_all [-List.getD_eq_getElem?_getD]; done) | (simp [-List.getD_eq_getElem?_getD]; omega) | (rw [Bool.eq_iff_iff]; simp [-List.getD_eq_getElem?_getD]; omega) | (simp [-List.getD_eq_getElem?_getD] at *; omega)) | (rw [decide_eq_false (by omega), show missB (movesR r) wk [] = false by assumption]; rfl)), trivial⟩ (fun _ h => h) (by repeat first | exact .refl _ | refine .cons _ ?_)
        · refine .val (.loadP rfl h5k (by repeat constructor) rfl) rfl rfl rfl ?_
          refine .o rfl ?_; refine .val (.call rfl (fun m hm => missingE_any (hwkk.le (by repeat first | exact hm.1 | replace hm := hm.2)) hok (huk.le (by repeat first | exact hm.1 | replace hm := hm.2)) (IsInts.nil m))) rfl rfl rfl ?_
          iterate 2 refine .o rfl ?_
          refine WL.splitB rfl rfl (fun g33 => ?_) (fun g33 => ?_)
          · refine WL.pass rfl rfl rfl ?_
            refine WL.pass rfl rfl rfl ?_; refine WL.pass rfl rfl rfl ?_; refine WL.pass rfl rfl rfl ?_; refine .o rfl ?_; refine WL.nil ?_
            exact Keff.intro ⟨rfl, rfl, rfl, rfl, rfl, congrArg (fun b => some (Value.bool b)) (by first | exact (by first | (simp [-List.getD_eq_getElem?_getD]; done) | (simp_all [-List.getD_eq_getElem?_getD]; done) | (simp [-List.getD_eq_getElem?_getD]; omega) | (rw [Bool.eq_iff_iff]; simp [-List.getD_eq_getElem?_getD]; omega) | (simp [-List.getD_eq_getElem?_getD] at *; omega)) | (rw [decide_eq_false (by omega), show missB (movesR r) wk [] = false by assumption]; rfl)), trivial⟩ (fun _ h => h) (by repeat first | exact .refl _ | refine .cons _ ?_)
          · refine .val (.loadPW rfl h1k (by repeat constructor) (by rfl)) rfl rfl rfl ?_
            refine .o rfl ?_; refine .val (.call rfl (fun m hm => sureE_any (hvk.le (by repeat first | exact hm.1 | replace hm := hm.2)) hV hwlk (huk.le (by repeat first | exact hm.1 | replace hm := hm.2)))) rfl rfl rfl ?_
            iterate 2 refine .o rfl ?_
            refine WL.nil ?_
            exact Keff.intro ⟨rfl, rfl, rfl, rfl, rfl, congrArg (fun b => some (Value.bool b)) (by first | exact (by first | (simp [-List.getD_eq_getElem?_getD]; done) | (simp_all [-List.getD_eq_getElem?_getD]; done) | (simp [-List.getD_eq_getElem?_getD]; omega) | (rw [Bool.eq_iff_iff]; simp [-List.getD_eq_getElem?_getD]; omega) | (simp [-List.getD_eq_getElem?_getD] at *; omega)) | (rw [decide_eq_false (by omega), show missB (movesR r) wk [] = false by assumption]; rfl)), trivial⟩ (fun _ h => h) (by repeat first | exact .refl _ | refine .cons _ ?_)
      refine Kseq.go ?_
      refine W.cond rfl rfl (fun h38 => ?_) (fun h38 => ?_)
      · have e : bestP r (movesR r) (allW r) (k + 1) = old := by rw [hround, h38, if_neg (by simp)]
        refine W.exit (Kseq.exit (Kblock.here ?_))
        exact ⟨[mk], _, ⟨mk, w0, rfl, hmk0, by rw [e], by rw [e]; exact hIk⟩, by simp, .refl _, by simp [markOf]⟩
      · refine W.skip (Kseq.go (W.seq ?_))
        refine W.region ?_; refine .val (.loadPW rfl h1k (by repeat constructor) (by rfl)) rfl rfl rfl ?_; refine .o rfl ?_; refine .val (.call rfl (fun m hm => rankE_any (hvk.le (by repeat first | exact hm.1 | replace hm := hm.2)) hV hwlk (huk.le (by repeat first | exact hm.1 | replace hm := hm.2)))) rfl rfl rfl ?_
        refine WL.alloc rfl rfl rfl (fun b8 => ?_)
        refine WL.store [_, _] rfl (.head _) rfl rfl rfl (Nat.le_of_ble_eq_true rfl) (by first | (simp [Value.cells, Value.oneCell']; done) | exact IsArr.ones hW (by omega) | exact IsArr.ones hP (by omega) | exact IsArr.ones hS (by omega) | exact IsArr.ones hH (by omega) | exact IsArr.ones hL (by omega) | exact IsArr.ones hB (by omega) | exact IsArr.ones hT (by omega) | exact IsArr.ones hm (by omega)) rfl ?_
        refine WL.nil ?_
        refine Kseq.go (W.seq ?_)
        refine W.region ?_; refine .val (.loadBW rfl (.head _) rfl) rfl rfl rfl ?_; refine .val (.loadBW rfl (.tail _ (.head _)) rfl) rfl rfl rfl ?_; refine .val (.call rfl (fun m hm => rankBefore_any _ _ _ _)) rfl rfl rfl ?_; refine WL.nil ?_; refine Kseq.go ?_
        refine W.condD rfl rfl (fun hlt => ?_) (fun hge => ?_)
        · have e : bestP r (movesR r) (allW r) (k + 1) = some wk := by rw [hround, if_pos ⟨h38, hlt⟩]
          refine W.draw2s 3 2 [.blk b8 #[vi (wk.length : Int), vi (endingE r wk)] 125, .blk b6 #[vi (foundC r old).1, vi (foundC r old).2] 125, .blk b2 #[.slice ua wk.length uc] 33] (by kernel_rfl) (by kernel_rfl) (by kernel_rfl) rfl ?_; refine DJ2.val [] (.inr (OpVal.opv rfl)) (.inl rfl) rfl (fun _ => rfl) rfl rfl rfl (fun _ => rfl) rfl ?_; refine DJ2.val [] (.inr (OpVal.loadBW rfl (.head _) rfl)) (.inr (fun g => OpVal.loadBW rfl (.head _) rfl)) rfl (fun _ => rfl) rfl rfl rfl (fun _ => rfl) rfl ?_; refine DJ2.eff [(45, _)] ⟨rfl, trivial⟩ rfl rfl rfl (fun M2 hM2 => ?_) ?_
          · (refine WL.store [_] rfl (.tail _ (.tail _ (.head _))) rfl rfl rfl (Nat.le_of_ble_eq_true rfl) (by simp [Value.cells, Value.oneCell']) rfl ?_; exact WL.nil ⟨(), Keff.intro (by repeat (first | exact trivial | refine ⟨rfl, ?_⟩)) (fun _ h => h) (.refl _)⟩)
          refine DJ2.nil (fun g => ?_)
          (refine WL.store [_, _] rfl (.tail _ (.head _)) rfl rfl rfl (Nat.le_of_ble_eq_true rfl) (by simp [Value.cells, Value.oneCell']) rfl ?_)
          refine WL.nil ?_; refine Kblock.normal ?_
          exact ⟨[mk], _, ⟨mk, .slice ua wk.length uc, rfl, hmk0, by rw [e]; rfl, by rw [e]; exact huk⟩, by simp, .cons _ (.refl _), by simp [markOf]⟩
        · have e : bestP r (movesR r) (allW r) (k + 1) = old := by rw [hround, if_neg (fun hh => hge hh.2)]
          refine W.skip (Kblock.normal ?_)
          exact ⟨[mk], _, ⟨mk, w0, rfl, hmk0, by rw [e], by rw [e]; exact hIk⟩, by simp, .cons _ (.refl _), by simp [markOf]⟩
    · obtain ⟨m0, w0, rfl, hm0, rfl, hI⟩ := hSt
      have e0 : bestP r (movesR r) (allW r) (allW r).length = bestV r := rfl
      rw [e0] at hI ⊢
      obtain ⟨wa, wc, rfl⟩ := IsArr.form hI
      refine Kblock.normal (Kseq.go (W.seq (W.seq ?_)))
      refine W.region ?_; refine .val (.fieldAddrB rfl) rfl rfl rfl ?_; refine .val (.loadB rfl (.tail _ (.head _)) rfl) rfl rfl rfl ?_; refine .o rfl ?_; refine WL.nil ?_; refine Kseq.go ?_
      refine W.condD rfl rfl (fun hgt => ?_) (fun hle => ?_)
      · have hno : bestV r = none := by
          cases hb : bestV r with
          | none => rfl
          | some w =>
            rw [hb] at hgt
            obtain ⟨j, hj, rfl, _⟩ := bestP_spec hb
            have := (allW_walk hV hj).1.len
            have h2 : (7 : Int) < (((allW r).getD j []).length : Int) := hgt
            omega
        have e : bestErr r = 10 := by unfold bestErr; rw [if_neg (by rw [faultT_zero.2 hV]; simp), hno]; rfl
        refine W.seq ?_; refine W.region ?_
        refine WL.store [_] rfl (.tail _ (.tail _ (.head _))) rfl rfl rfl (Nat.le_of_ble_eq_true rfl) (by first | (simp [Value.cells, Value.oneCell']; done) | exact IsArr.ones hW (by omega) | exact IsArr.ones hP (by omega) | exact IsArr.ones hS (by omega) | exact IsArr.ones hH (by omega) | exact IsArr.ones hL (by omega) | exact IsArr.ones hB (by omega) | exact IsArr.ones hT (by omega) | exact IsArr.ones hm (by omega)) rfl ?_
        iterate 2 refine .o rfl ?_
        refine WL.nil ?_; refine Kseq.go ?_
        refine W.ret ?_; refine Kseq.ret ?_
        refine ⟨.inl rfl, [_, _, _], m0, ⟨.one inferInstance rfl (.tail _ (.tail _ (.head _))) rfl, .tmp rfl, .tmp rfl, trivial⟩, .head _, ?_⟩
        exact ⟨_, by rw [e, if_neg (by simp)]; rfl, by rw [e, if_neg (by simp)]; exact IsInts.nil _⟩
      · obtain ⟨w, hb⟩ : ∃ w, bestV r = some w := by
          cases hb : bestV r with
          | none => rw [hb] at hle; exact absurd (show (7 : Int) < 8 by omega) hle
          | some w => exact ⟨w, rfl⟩
        have e : bestErr r = 0 := by unfold bestErr; rw [if_neg (by rw [faultT_zero.2 hV]; simp), hb]; rfl
        refine W.skip (Kseq.go (W.seq ?_))
        refine W.draw2s 4 3 [.obj D (.deferred (some [])), .blk b6 #[vi (foundC r (bestV r)).1, vi (foundC r (bestV r)).2] 125, .blk b2 #[.slice wa (foundW (bestV r)).length wc] 33] (by kernel_rfl) (by kernel_rfl) (by kernel_rfl) rfl ?_; refine DJ2.val [] (.inr (OpVal.loadB rfl (.tail _ (.tail _ (.head _))) rfl)) (.inl rfl) rfl (fun _ => rfl) rfl rfl rfl (fun _ => rfl) rfl ?_; refine DJ2.val [] (.inr (OpVal.fieldAddrB rfl)) (.inr (fun g => OpVal.fieldAddrB rfl)) rfl (fun _ => rfl) rfl rfl rfl (fun _ => rfl) rfl ?_; refine DJ2.val [] (.inr (OpVal.loadB rfl (.tail _ (.head _)) rfl)) (.inr (fun g => OpVal.loadB rfl (.tail _ (.head _)) rfl)) rfl (fun _ => rfl) rfl rfl rfl (fun _ => rfl) rfl ?_; refine DJ2.eff [(50, _)] ⟨rfl, trivial⟩ rfl rfl rfl (fun M2 hM2 => ?_) ?_
        · (refine WL.store [_] rfl (.tail _ (.tail _ (.head _))) rfl rfl rfl (Nat.le_of_ble_eq_true rfl) (by simp [Value.cells, Value.oneCell']) rfl ?_; exact WL.nil ⟨(), Keff.intro (by repeat (first | exact trivial | refine ⟨rfl, ?_⟩)) (fun _ h => h) (.refl _)⟩)
        refine DJ2.nil (fun g => ?_)
        iterate 2 refine .o rfl ?_
        refine WL.nil ?_; refine Kseq.go ?_
        refine W.ret ?_; skip
        refine ⟨.inl rfl, [_, _, _], m0, ⟨.one inferInstance rfl (.tail _ (.tail _ (.head _))) rfl, .tmp rfl, .tmp rfl, trivial⟩, .head _, ?_⟩
        exact ⟨_, by rw [e, if_pos rfl]; rfl, by rw [e, if_pos rfl]; exact hI⟩
end Go.Proofs.Ytppkhehbkoeinaa

/- The program's functions Fewest and Wait: their contracts. -/
namespace Go.Proofs.Ytppkhehbkoeinaa
open Go Go.Eng Go.RowKit

/-- The marks of loops that are behind. -/
def dq (ds : List Nat) : List Res := ds.map fun D => .obj D (.deferred (some []))
theorem split_right (a : List Res) : ∀ x : List Res, Split (x ++ a) a x
  | [] => Split.all a
  | y :: x => .r y (split_right a x)
/-- Fewest -/
theorem fewestT11_any {h : Mem} {v : Value} {r : Errand} (hv : IsErrand h v r) (hs : SmE r) : FnV Try.prog 25 #[v] h (.tuple #[vi (if faultT r = 0 then (fewestP r.n (movesR r) : Int) else 0), vi (faultT r)]) := by
  have hv' := hv
  obtain ⟨wv, pv, hov, sv, f, rfl, hW, hP, hM, hH, hS⟩ := hv
  have hn : r.n ≤ 50 := hs.table.1
  refine FnR.val ?_
  refine FnR.of_W (n := 29) Try.func25 rfl rfl (Nat.le_of_ble_eq_true rfl) fun c hr hD hF => ?_
  refine W.seq ?_; refine W.region ?_
  refine WL.box rfl rfl rfl rfl (fun b1 => ?_)
  refine WL.alloc rfl rfl rfl (fun b2 => ?_)
  refine WL.alloc rfl rfl rfl (fun b3 => ?_)
  refine WL.nil ?_
  refine Kseq.go (W.seq ?_)
  refine W.region ?_; refine .val (.loadBW rfl (.tail _ (.tail _ (.head _))) rfl) rfl rfl rfl ?_; refine WL.abs (OpAbs.call rfl (fun m hm => askedE_any (hv'.le (by repeat first | exact hm.1 | replace hm := hm.2)) hs (fs := #[]) (cs := #[]) (p := true) (fun _ m' hm' => always_any))) rfl rfl rfl ?_
  rintro m10 _ (⟨hE, rfl⟩ | ⟨hV, hp, rfl⟩ | ⟨hV, hp, b, rfl, hwk⟩)
  · refine .o rfl ?_
    iterate 2 refine .o rfl ?_
    refine WL.alloc rfl rfl rfl (fun b4 => ?_)
    refine WL.store [_] rfl (.head _) rfl rfl rfl (Nat.le_of_ble_eq_true rfl) (by first | (simp [Value.cells, Value.oneCell']; done) | exact IsArr.ones hW (by omega) | exact IsArr.ones hP (by omega) | exact IsArr.ones hS (by omega) | exact IsArr.ones hH (by omega) | exact IsArr.ones hL (by omega) | exact IsArr.ones hB (by omega) | exact IsArr.ones hT (by omega) | exact IsArr.ones hm (by omega)) rfl ?_
    refine .o rfl ?_; refine WL.nil ?_
    refine Kseq.go (W.seq (W.seq ?_))
    refine W.region ?_
    iterate 2 refine .o rfl ?_
    refine WL.nil ?_; refine Kseq.go ?_
    refine W.cond rfl rfl (fun he => ?_) (fun he => absurd he (by simp [hE]))
    refine W.seq ?_; refine W.region ?_; refine .o rfl ?_
    refine WL.store [_] rfl (.tail _ (.tail _ (.head _))) rfl rfl rfl (Nat.le_of_ble_eq_true rfl) (by first | (simp [Value.cells, Value.oneCell']; done) | exact IsArr.ones hW (by omega) | exact IsArr.ones hP (by omega) | exact IsArr.ones hS (by omega) | exact IsArr.ones hH (by omega) | exact IsArr.ones hL (by omega) | exact IsArr.ones hB (by omega) | exact IsArr.ones hT (by omega) | exact IsArr.ones hm (by omega)) rfl ?_
    refine WL.store [_] rfl (.tail _ (.head _)) rfl rfl rfl (Nat.le_of_ble_eq_true rfl) (by first | (simp [Value.cells, Value.oneCell']; done) | exact IsArr.ones hW (by omega) | exact IsArr.ones hP (by omega) | exact IsArr.ones hS (by omega) | exact IsArr.ones hH (by omega) | exact IsArr.ones hL (by omega) | exact IsArr.ones hB (by omega) | exact IsArr.ones hT (by omega) | exact IsArr.ones hm (by omega)) rfl ?_
    refine WL.nil ?_; refine Kseq.go ?_
    refine W.ret ?_; refine Kseq.ret ?_
    refine ⟨.inl rfl, [_, _], h, ⟨.one inferInstance rfl (.tail _ (.tail _ (.head _))) rfl, .one inferInstance rfl (.tail _ (.head _)) rfl, trivial⟩, (by repeat constructor), ?_⟩
    rw [if_neg hE]; rfl
  · cases hp
  · have hok := movesR_ok hV
    have hf0 : faultT r = 0 := faultT_zero.2 hV
    rw [hf0, if_pos rfl]
    iterate 3 refine .o rfl ?_
    refine WL.alloc rfl rfl rfl (fun b4 => ?_)
    refine WL.store [_] rfl (.head _) rfl rfl rfl (Nat.le_of_ble_eq_true rfl) (by first | (simp [Value.cells, Value.oneCell']; done) | exact IsArr.ones hW (by omega) | exact IsArr.ones hP (by omega) | exact IsArr.ones hS (by omega) | exact IsArr.ones hH (by omega) | exact IsArr.ones hL (by omega) | exact IsArr.ones hB (by omega) | exact IsArr.ones hT (by omega) | exact IsArr.ones hm (by omega)) rfl ?_
    refine .o rfl ?_; refine WL.nil ?_
    refine Kseq.go (W.seq (W.seq ?_))
    refine W.region ?_
    iterate 2 refine .o rfl ?_
    refine WL.nil ?_; refine Kseq.go ?_
    refine W.cond rfl rfl (fun he => absurd he (by simp)) (fun he => ?_)
    refine W.skip (Kseq.go (W.seq (W.seq ?_)))
    refine W.freezeBox (.head _) (fun b hb => (hF b hb).elim) fun m4 h4 => ?_
    refine W.freezeBox (.tail _ (.tail _ (.head _))) (fun b hb => (hF b hb).elim) fun m1 h1 => ?_
    refine W.join fun mj hj => ?_
    have hvj := hv'.le (hj h (by simp))
    have h4j := h4.le (hj m4 (by simp))
    have h1j := h1.le (hj m1 (by simp))
    have hwkj := hwk.le (hj m10 (by simp))
    clear h4 h1 hwk
    refine W.region ?_; refine .o rfl ?_; refine WL.nil ?_
    refine Kseq.go (W.block ?_)
    refine W.loop (σ := Nat × List Nat) (fun s => [(1, .pointer (some ⟨b1, 0, none⟩)), (2, .pointer (some ⟨b2, 0, none⟩)), (3, .pointer (some ⟨b3, 0, none⟩)), (4, .pointer (some ⟨b4, 0, none⟩)), (16, .int .i64 (s.1 : Int))]) (fun _ => [mj]) (fun s => dq s.2 ++ [.blk b3 #[vi 0] 37, .blk b2 #[vi 0] 3]) (fun s => s.1 ≤ 7 ∧ ∀ j, j < s.1 → (!canIn r.n (movesR r) j) = true) (fun s => 7 - s.1) (0, []) ⟨rfl, rfl, rfl, rfl, rfl, trivial⟩ (by simp) (.refl _) ⟨Nat.zero_le _, fun j hj => absurd hj (Nat.not_lt_zero _)⟩ ?_
    rintro ⟨k, ds⟩ ⟨hk, hall⟩
    dsimp only at hk hall ⊢
    refine W.seq ?_; refine W.region ?_; refine .o rfl ?_; refine WL.nil ?_
    refine Kseq.go (W.seq ?_)
    refine W.condD rfl rfl (fun hlt => ?_) (fun hge => ?_)
    · have hk7 : k < 7 := by omega
      refine W.skip (Kseq.go (W.seq (W.block (W.seq ?_))))
      refine W.region ?_; refine .o rfl ?_
      refine WL.alloc rfl rfl rfl (fun b6 => ?_)
      refine WL.store [_] rfl (.head _) rfl rfl rfl (Nat.le_of_ble_eq_true rfl) (by first | (simp [Value.cells, Value.oneCell']; done) | exact IsArr.ones hW (by omega) | exact IsArr.ones hP (by omega) | exact IsArr.ones hS (by omega) | exact IsArr.ones hH (by omega) | exact IsArr.ones hL (by omega) | exact IsArr.ones hB (by omega) | exact IsArr.ones hT (by omega) | exact IsArr.ones hm (by omega)) rfl ?_
      refine WL.nil ?_
      refine Kseq.go (W.seq ?_)
      refine W.freezeBox (.head _) (fun b hb => (hF b hb).elim) fun m6 h6 => ?_
      refine W.region ?_; refine .val (.loadPW rfl h1j (by repeat constructor) (by rfl)) rfl rfl rfl ?_; refine .val (.loadP rfl h6 (by repeat constructor) rfl) rfl rfl rfl ?_; refine WL.abs (OpAbs.call rfl (fun m hm => walksE_any (hvj.le (by repeat first | exact hm.1 | replace hm := hm.2)) _)) rfl rfl rfl ?_
      rintro m21 v21 h21
      refine WL.nil ?_
      refine Kseq.go (W.block ?_)
      obtain ⟨c1, c2, rfl, hc1, hc2⟩ := h21
      refine W.join fun mk hmk => ?_
      have hvk := hvj.le (hmk mj (by simp))
      have h4k := h4j.le (hmk mj (by simp))
      have hwkk := hwkj.le (hmk mj (by simp))
      have h6k := h6.le (hmk m6 (by simp))
      have hc1k := hc1.le (hmk m21 (by simp))
      have hc2k := hc2.le (hmk m21 (by simp))
      let St : Nat → List Mem → List Res → Prop := fun i Ms μ => Ms = [mk] ∧ μ = [.blk b3 #[vi 0] 37, .blk b2 #[vi 0] 3] ∧ ∀ j, j < i → missB (movesR r) ((walks r.n k).getD j []) [] = true
      let Xt : Exit → List Mem → List Res → Prop := fun e Ms μ => e = .ret ∧ Ms = [mk] ∧ μ = [.blk b3 #[vi 0] 37, .blk b2 #[vi (k : Int)] 3] ∧ canIn r.n (movesR r) k = true
      refine W.rangeFuncA (M0 := [mk]) (M1 := [mk]) hr rfl (walks1E_any hn hvk (by omega) hc1k hc2k) (by simp) (split_right _ (dq ds)) rfl St Xt [b3, b2] ?_ ⟨rfl, rfl, fun j hj => absurd hj (Nat.not_lt_zero _)⟩ (by simp) (by rintro k Ms μ ⟨_, rfl, _⟩; rfl) (by rintro e Ms μ ⟨_, _, rfl, _⟩; rfl) rfl (by decide) (fun i hi m u hu l0 Ms' μ' hSt c' hr' hD' hF' => ?_) (fun D Ms' μ' hSt => ?_) (fun D Ms' μ' hXt => ?_) (fun D id Ms' μ' hXt => ?_)
      · rintro k Ms μ ⟨_, rfl, _⟩; rfl
      · obtain ⟨rfl, rfl, hno⟩ := hSt
        refine W.region ?_; refine .o rfl ?_; refine WL.nil ?_
        refine ⟨rfl, fun c2' hr2 hD2 hF2 => ⟨rfl, ?_⟩⟩
        refine W.block (W.seq ?_)
        refine W.region ?_; refine .val (.loadP rfl h4k (by repeat constructor) rfl) rfl rfl rfl ?_; refine .o rfl ?_; refine .val (.call rfl (fun m hm => missingE_any (hwkk.le (by repeat first | exact hm.1 | replace hm := hm.2)) hok (hu.le (by repeat first | exact hm.1 | replace hm := hm.2)) (IsInts.nil m))) rfl rfl rfl ?_; refine .o rfl ?_; refine WL.nil ?_; refine Kseq.go ?_
        refine W.cond rfl rfl (fun he => ?_) (fun he => ?_)
        · refine W.seq ?_
          refine W.region ?_; refine .val (.loadP rfl h6k (by repeat constructor) rfl) rfl rfl rfl ?_
          refine WL.store [_] rfl (.tail _ (.head _)) rfl rfl rfl (Nat.le_of_ble_eq_true rfl) (by first | (simp [Value.cells, Value.oneCell']; done) | exact IsArr.ones hW (by omega) | exact IsArr.ones hP (by omega) | exact IsArr.ones hS (by omega) | exact IsArr.ones hH (by omega) | exact IsArr.ones hL (by omega) | exact IsArr.ones hB (by omega) | exact IsArr.ones hT (by omega) | exact IsArr.ones hm (by omega)) rfl ?_
          refine WL.store [_] rfl (.head _) rfl rfl rfl (Nat.le_of_ble_eq_true rfl) (by first | (simp [Value.cells, Value.oneCell']; done) | exact IsArr.ones hW (by omega) | exact IsArr.ones hP (by omega) | exact IsArr.ones hS (by omega) | exact IsArr.ones hH (by omega) | exact IsArr.ones hL (by omega) | exact IsArr.ones hB (by omega) | exact IsArr.ones hT (by omega) | exact IsArr.ones hm (by omega)) rfl ?_
          refine WL.nil ?_; refine Kseq.go ?_
          refine W.ret ?_; refine Kblock.ret ?_
          refine ⟨[mk], _, ⟨rfl, rfl, rfl, canIn_iff.2 ⟨_, getD_mem_nil hi, ?_⟩⟩, by simp, .refl _, by simp [markOf]⟩
          rw [missB_nil] at he
          simpa using he
        · refine W.skip (Kblock.normal ?_)
          refine ⟨[mk], _, ⟨rfl, rfl, fun j hj => ?_⟩, by simp, .refl _, by simp [markOf]⟩
          rcases Nat.lt_succ_iff_lt_or_eq.1 hj with h | rfl
          · exact hno j h
          · simpa using he
      · obtain ⟨rfl, rfl, hno⟩ := hSt
        have hcan : canIn r.n (movesR r) k = false := by
          refine ex_no.2 fun j hj => ?_
          have := hno j hj
          rw [missB_nil] at this
          simpa using this
        refine Kblock.normal (Kblock.normal (Kseq.go ?_))
        refine W.region ?_; refine .val (.incr rfl (by omega)) rfl rfl rfl ?_; refine .o rfl ?_; refine WL.nil ?_
        refine Kloop.next (k + 1, D :: ds) ⟨by dsimp only; omega, fun j hj => ?_⟩ (by dsimp only; omega) ⟨rfl, rfl, rfl, rfl, rfl, trivial⟩ (by simp) (.refl _)
        rcases Nat.lt_succ_iff_lt_or_eq.1 hj with h | rfl
        · exact hall j h
        · rw [hcan]; rfl
      · obtain ⟨_, rfl, rfl, hcan⟩ := hXt
        (repeat (first | refine Kseq.ret ?_ | refine Kblock.ret ?_ | refine Kloop.ret ?_))
        refine ⟨.inl rfl, [_, _], mk, ⟨.one inferInstance rfl (.tail _ (List.mem_append_right _ (.tail _ (.head _)))) rfl, .one inferInstance rfl (.tail _ (List.mem_append_right _ (.head _))) rfl, trivial⟩, .head _, ?_⟩
        have e : fewestP r.n (movesR r) = k := fstNo_at hk7 hall (by rw [hcan]; rfl)
        rw [e]; rfl
      · exact absurd hXt.1 (by simp)
    · have hk7 : k = 7 := by omega
      subst hk7
      have e : fewestP r.n (movesR r) = 7 := fstNo_all hall
      rw [e]
      refine W.exit (Kseq.exit (Kloop.exit (Kblock.here (Kseq.go (W.seq ?_)))))
      refine W.region ?_
      (refine WL.store [_] rfl (repl_right (.tail _ (.head _)) (dq ds)) rfl rfl rfl (Nat.le_of_ble_eq_true rfl) (by simp [Value.cells, Value.oneCell']) rfl ?_)
      (refine WL.store [_] rfl (repl_right (.head _) (dq ds)) rfl rfl rfl (Nat.le_of_ble_eq_true rfl) (by simp [Value.cells, Value.oneCell']) rfl ?_)
      refine WL.nil ?_; refine Kseq.go ?_
      refine W.ret ?_; skip
      exact ⟨.inl rfl, [_, _], mj, ⟨.one inferInstance rfl (List.mem_append_right _ (.tail _ (.head _))) rfl, .one inferInstance rfl (List.mem_append_right _ (.head _)) rfl, trivial⟩, .head _, rfl⟩
end Go.Proofs.Ytppkhehbkoeinaa

/- The program's function Wait: its contract. -/
namespace Go.Proofs.Ytppkhehbkoeinaa
open Go Go.Eng Go.RowKit

end Go.Proofs.Ytppkhehbkoeinaa
