/- The reference's function of the pieces that must wait: its contract; the statement ErrandWaits. -/
import Derived.Test.YtjligncpaeeljaaGreatT86
namespace Go.Proofs.YtjligncpaeeljaaGreat
open Go Go.Eng Go.RowKit

def covI (ms : List Move) (br : List Nat) (k i : Nat) : Bool := decide (br.getD i 0 ||| k = fullM ms)
def vn (l : List Nat) : List Int := l.map Int.ofNat
theorem vn_get {l : List Nat} {i : Nat} : (vn l).getD i 0 = ((l.getD i 0 : Nat) : Int) := by
  unfold vn
  simp only [List.getD_eq_getElem?_getD, List.getElem?_map]
  cases l[i]? <;> rfl
theorem broughtTo_lt (r : Errand) (ms : List Move) (all : List (List Int)) : ∀ k, ∀ x ∈ broughtTo r ms all k, x < 2 ^ ms.length
  | 0, x, h => by simp [broughtTo] at h
  | k + 1, x, h => by
    simp only [broughtTo] at h
    split at h
    · rcases List.mem_append.1 h with h | h
      · exact broughtTo_lt r ms all k x h
      · rw [List.mem_singleton.1 h]; exact bset_lt _ _
    · exact broughtTo_lt r ms all k x h
theorem broughtTo_len (r : Errand) (ms : List Move) (all : List (List Int)) : ∀ k, (broughtTo r ms all k).length ≤ k
  | 0 => by simp [broughtTo]
  | k + 1 => by
    have := broughtTo_len r ms all k
    simp only [broughtTo]
    split
    · simp; omega
    · omega
/-- ref.Wait -/
theorem waitRef_any {h : Mem} {v mv : Value} {r : Errand} {ms : List Move} (hv : IsErrand h v r) (hV : ValidE r) (hmv : IsMoves h mv ms) (h7 : ms.length ≤ 7) : FnR Tryz.prog 44 #[v, mv] h (fun m q => IsInts m q (waitTo ms (broughtTo r ms (walks r.n r.calls.toNat) (walks r.n r.calls.toNat).length) (fullM ms + 1))) := by
  have hv' := hv
  obtain ⟨wv, pv, hov, sv, f, rfl, hW, hP, hM, hH, hS⟩ := hv
  have hc := hV.calls
  have hpow := Nat.pow_le_pow_right (n := 2) (by omega) h7
  have hpos := Nat.two_pow_pos ms.length
  have e : (1 * 2 ^ ms.length : Int) = ((2 ^ ms.length : Nat) : Int) := by simp
  have hfull : fullM ms + 1 = 2 ^ ms.length := by unfold fullM; omega
  refine FnR.of_W (n := 80) Tryz.func44 rfl rfl (Nat.le_of_ble_eq_true rfl) fun c hr hD hF => ?_
  refine W.seq ?_
  refine W.region ?_
  refine WL.box rfl rfl rfl rfl (fun b2 => ?_)
  refine WL.val (OpVal.opv rfl) rfl rfl rfl ?_
  refine WL.nil ?_
  refine Kseq.go (W.seq ?_)
  refine W.freezeBox (.head _) (fun b hb => (hF b hb).elim) fun m1 h1 => ?_
  skip
  refine W.region ?_
  refine WL.val (OpVal.opv rfl) rfl rfl rfl ?_
  refine WL.val (OpVal.len rfl hmv) rfl rfl rfl ?_
  refine WL.val (OpVal.conv rfl (wrap_u64 (by omega) (by omega))) rfl rfl rfl ?_
  refine WL.val ((OpVal.shl rfl rfl (by omega) (by rw [e]; omega) (by rw [e]; omega)).cast (congrArg (Value.int .i64) e)) rfl rfl rfl ?_
  refine WL.val (OpVal.cast (OpVal.sub rfl rfl (by omega) (by omega)) (show _ = vi (fullM ms : Int) from congrArg (Value.int .i64) (by omega))) rfl rfl rfl ?_
  refine WL.val (OpVal.opv rfl) rfl rfl rfl ?_
  refine WL.nil ?_
  refine Kseq.go (W.seq ?_)
  skip
  refine W.region ?_
  refine WL.val (OpVal.opv rfl) rfl rfl rfl ?_
  refine WL.nil ?_
  refine Kseq.go (W.seq ?_)
  skip
  refine W.region ?_
  refine WL.val (OpVal.loadPW rfl (by assumption) (by repeat (first | exact .head _ | refine .tail _ ?_)) (by rfl)) rfl rfl rfl ?_
  refine WL.val (OpVal.fieldAddrB rfl) rfl rfl rfl ?_
  refine WL.val (OpVal.loadP rfl (by assumption) (by repeat (first | exact .head _ | refine .tail _ ?_)) rfl) rfl rfl rfl ?_
  refine WL.abs (OpAbs.call rfl (fun m hm => walksR_any hV.women r.calls.toNat (b := []) (by simp; omega) (by simp; omega) (hv'.le (by repeat (first | exact hm.1 | replace hm := hm.2))) (show IsInts m (.slice none 0 0) [] from IsArr.nil m 1 _))) rfl rfl rfl ?_
  rintro m22 v22 h22
  refine WL.val (OpVal.opv rfl) rfl rfl rfl ?_
  refine WL.nil ?_
  refine Kseq.go (W.seq (W.seq ?_))
  obtain ⟨vs, hvs, hA⟩ := h22
  have hwb := walksFrom_len hV.women r.calls.toNat []
  have hp7 : 5 ^ r.calls.toNat ≤ 5 ^ 7 := Nat.pow_le_pow_right (by omega) (by omega)
  have hwn : walksFrom r.n r.calls.toNat [] = walks r.n r.calls.toNat := rfl
  rw [hwn] at hvs hA hwb
  have hwk : ∀ k, k < (walks r.n r.calls.toNat).length → Walk r.n ((walks r.n r.calls.toNat).getD k []) := fun k hk => ((mem_walks (n := r.n) (most := r.calls.toNat) (by omega)).1 (by rw [List.getD_eq_getElem?_getD, List.getElem?_eq_getElem hk]; exact List.getElem_mem hk)).1
  generalize walks r.n r.calls.toNat = all at *
  skip
  refine W.region ?_
  refine WL.val (OpVal.opv rfl) rfl rfl rfl ?_
  refine WL.nil ?_
  refine Kseq.go (W.block ?_)
  refine W.nilRow 3 1 ?_
  refine W.loopA (σ := Nat × Value) (fun s => [(1, mv), (2, .pointer (some ⟨b2, 0, none⟩)), (5, vi (fullM ms : Int)), (6, s.2), (7, v22), (8, .int .i64 (s.1 : Int))]) (fun s => ir 3 s.2 (vn (broughtTo r ms all s.1))) (fun s => s.1 ≤ all.length) (fun s => all.length - s.1) (0, .slice none 0 0) ⟨rfl, rfl, rfl, rfl, rfl, rfl, trivial⟩ rfl (Nat.zero_le _) ?_
  rintro ⟨k, a⟩ hk
  dsimp only at hk ⊢
  have hbl := broughtTo_len r ms all k
  have hvl : (vn (broughtTo r ms all k)).length = (broughtTo r ms all k).length := by simp [vn]
  refine W.seq (W.seq ?_)
  refine W.region ?_
  refine WL.val (OpVal.opv rfl) rfl rfl rfl ?_
  refine WL.val (OpVal.opv rfl) rfl rfl rfl ?_
  refine WL.val (OpVal.len rfl hA) rfl rfl rfl ?_
  refine WL.val (OpVal.opv rfl) rfl rfl rfl ?_
  refine WL.nil ?_
  refine Kseq.go ?_
  refine W.condD rfl rfl (fun hlt => ?_) (fun hge => ?_)
  · have hkl : k < all.length := by omega
    have hwj := hvs.2 k hkl
    refine W.skip (Kseq.go (W.seq (W.block (W.seq ?_))))
    refine W.draw 5 (by kernel_rfl) (by kernel_rfl) (by kernel_rfl) rfl ?_
    refine DJ.val [] (OpVal.loadPW rfl (by assumption) (by repeat (first | exact .head _ | refine .tail _ ?_)) (by rfl)) rfl rfl rfl rfl ?_
    refine DJ.val [] (OpVal.opv rfl) rfl rfl rfl rfl ?_
    refine DJ.val [] (OpVal.opv rfl) rfl rfl rfl rfl ?_
    refine DJ.val [] (OpVal.indexAddrN rfl rfl hA hkl) rfl rfl rfl rfl ?_
    refine DJ.val [] (OpVal.loadE rfl hA (by repeat (first | exact .head _ | refine .tail _ ?_)) hkl (by omega)) rfl rfl rfl rfl ?_
    refine DJ.nil ?_
    refine WL.val (OpVal.call rfl (fun m hm => isSureR_any (hv'.le (by repeat (first | exact hm.1 | replace hm := hm.2))) hV (hwk k hkl) (hwj.le (by repeat (first | exact hm.1 | replace hm := hm.2))))) rfl rfl rfl ?_
    refine WL.nil ?_
    refine Kseq.go ?_
    refine W.cond rfl rfl (fun he => ?_) (fun hne => ?_)
    · skip
      refine W.region ?_
      refine WL.val (OpVal.opv rfl) rfl rfl rfl ?_
      refine WL.val (OpVal.opv rfl) rfl rfl rfl ?_
      refine WL.val (OpVal.opv rfl) rfl rfl rfl ?_
      refine WL.val (OpVal.opv rfl) rfl rfl rfl ?_
      refine WL.val (OpVal.indexAddrN rfl rfl hA hkl) rfl rfl rfl ?_
      refine WL.val (OpVal.loadE rfl hA (by repeat (first | exact .head _ | refine .tail _ ?_)) hkl (by omega)) rfl rfl rfl ?_
      refine WL.val (OpVal.call rfl (fun m hm => bringsR_any (hmv.le (by repeat (first | exact hm.1 | replace hm := hm.2))) (by omega) (hwj.le (by repeat (first | exact hm.1 | replace hm := hm.2))))) rfl rfl rfl ?_
      refine WL.abs (OpAbs.lit [_] rfl (Nat.le_of_ble_eq_true rfl) rfl rfl (by simp [Value.cells]) (Nat.le_of_ble_eq_true rfl) rfl (by first | (simp [Value.oneCell']; done) | exact List.all_eq_true.1 rfl)) rfl rfl rfl ?_
      rintro m42 _ ⟨hc42, a42, rfl⟩
      refine WL.appInt rfl (fun _ => (.head _)) rfl (by assumption) (by repeat (first | exact .head _ | refine .tail _ ?_)) (by omega) rfl rfl rfl ?_
      intro a43 cp43
      refine WL.val (OpVal.opv rfl) rfl rfl rfl ?_
      refine WL.nil ?_
      refine Kblock.normal (Kseq.go ?_)
      skip
      refine W.region ?_
      refine WL.val (OpVal.opv rfl) rfl rfl rfl ?_
      refine WL.val (OpVal.incr rfl (by omega)) rfl rfl rfl ?_
      refine WL.val (OpVal.opv rfl) rfl rfl rfl ?_
      refine WL.nil ?_
      skip
      refine Kloop.next (k + 1, .slice a43 ((vn (broughtTo r ms all k)).length + 1) cp43) (by dsimp only; omega) (by dsimp only; omega) ⟨rfl, rfl, rfl, rfl, rfl, rfl, trivial⟩ (by simp) ?_
      dsimp only
      rw [show vn (broughtTo r ms all (k + 1)) = vn (broughtTo r ms all k) ++ [((bringsN ms (all.getD k []) : Nat) : Int)] by simp only [broughtTo, if_pos he, vn, List.map_append]; rfl]
      exact (by repeat (first | exact List.Sublist.refl _ | refine List.Sublist.cons _ ?_ | refine List.Sublist.cons_cons _ ?_))
    · refine W.skip (Kblock.normal (Kseq.go ?_))
      skip
      refine W.region ?_
      refine WL.val (OpVal.opv rfl) rfl rfl rfl ?_
      refine WL.val (OpVal.incr rfl (by omega)) rfl rfl rfl ?_
      refine WL.val (OpVal.opv rfl) rfl rfl rfl ?_
      refine WL.nil ?_
      skip
      refine Kloop.next (k + 1, a) (by dsimp only; omega) (by dsimp only; omega) ⟨rfl, rfl, rfl, rfl, rfl, rfl, trivial⟩ (by simp) ?_
      dsimp only
      rw [show broughtTo r ms all (k + 1) = broughtTo r ms all k by simp only [broughtTo, hne]; rfl]
      exact (by repeat (first | exact List.Sublist.refl _ | refine List.Sublist.cons _ ?_ | refine List.Sublist.cons_cons _ ?_))
  have : k = all.length := by omega
  subst this
  refine W.exit (Kseq.exit (Kloop.exit (Kblock.here (Kseq.go (W.seq ?_)))))
  have hbr := broughtTo_lt r ms all all.length
  generalize broughtTo r ms all all.length = br at *
  refine W.freezeInts (.head _) (fun b hb => (hF b hb).elim) fun mr hmr => ?_
  have hgb : ∀ j, br.getD j 0 < 2 ^ ms.length := fun j => by
    rw [List.getD_eq_getElem?_getD]
    cases hx : br[j]? with
    | none => exact hpos
    | some y => exact hbr y (List.mem_of_getElem? hx)
  skip
  refine W.region ?_
  refine WL.val (OpVal.opv rfl) rfl rfl rfl ?_
  refine WL.val (OpVal.opv rfl) rfl rfl rfl ?_
  refine WL.abs (OpAbs.call rfl (fun m hm => piecesR_any (b := fullM ms) (hmv.le (by repeat (first | exact hm.1 | replace hm := hm.2))) (by omega))) rfl rfl rfl ?_
  rintro m46 v46 h46
  refine WL.val (OpVal.opv rfl) rfl rfl rfl ?_
  refine WL.nil ?_
  refine Kseq.go (W.seq (W.seq ?_))
  skip
  refine W.region ?_
  refine WL.val (OpVal.opv rfl) rfl rfl rfl ?_
  refine WL.nil ?_
  refine Kseq.go (W.block ?_)
  refine W.loop (σ := Nat × Value × Mem) (fun s => [(1, mv), (5, vi (fullM ms : Int)), (6, a), (9, s.2.1), (10, .int .i64 (s.1 : Int))]) (fun s => [h, mr, s.2.2]) (fun _ => []) (fun s => s.1 ≤ fullM ms + 1 ∧ IsInts s.2.2 s.2.1 (waitTo ms br s.1)) (fun s => fullM ms + 1 - s.1) (0, v46, m46) ⟨rfl, rfl, rfl, rfl, rfl, trivial⟩ (by simp) (by simp) ⟨Nat.zero_le _, h46⟩ ?_
  rintro ⟨k, q, m0⟩ ⟨hk, hq⟩
  dsimp only at hk hq ⊢
  refine W.seq (W.seq ?_)
  refine W.region ?_
  refine WL.val (OpVal.opv rfl) rfl rfl rfl ?_
  refine WL.val (OpVal.opv rfl) rfl rfl rfl ?_
  refine WL.val (OpVal.opv rfl) rfl rfl rfl ?_
  refine WL.nil ?_
  refine Kseq.go ?_
  refine W.condD rfl rfl (fun hlt => ?_) (fun hge => ?_)
  · have hkf : k ≤ fullM ms := by omega
    refine W.skip (Kseq.go (W.seq (W.block (W.seq ?_))))
    refine W.region ?_
    refine WL.val (OpVal.opv rfl) rfl rfl rfl ?_
    refine WL.nil ?_
    refine Kseq.go (W.seq (W.seq ?_))
    skip
    refine W.region ?_
    refine WL.val (OpVal.opv rfl) rfl rfl rfl ?_
    refine WL.nil ?_
    refine Kseq.go (W.block ?_)
    refine W.loopC (σ := Nat) (fun j => [(1, mv), (5, vi (fullM ms : Int)), (6, a), (9, q), (10, .int .i64 (k : Int)), (11, .bool (ex j (covI ms br k))), (12, .int .i64 (j : Int))]) (fun j => j ≤ br.length) (fun j => br.length - j) 0 ⟨rfl, rfl, rfl, rfl, rfl, rfl, rfl, trivial⟩ (Nat.zero_le _) ?_
    intro j hj
    refine W.seq (W.seq ?_)
    refine W.region ?_
    refine WL.val (OpVal.opv rfl) rfl rfl rfl ?_
    refine WL.val (OpVal.opv rfl) rfl rfl rfl ?_
    refine WL.val (OpVal.len rfl hmr) rfl rfl rfl ?_
    refine WL.val (OpVal.opv rfl) rfl rfl rfl ?_
    refine WL.nil ?_
    refine Kseq.go ?_
    refine W.condD rfl rfl (fun hlt2 => ?_) (fun hge2 => ?_)
    · have hjl : j < br.length := by omega
      have hjb := hgb j
      refine W.skip (Kseq.go (W.seq (W.block ?_)))
      refine W.toS [(1, mv), (5, vi (fullM ms : Int)), (6, a), (9, q), (10, .int .i64 (k : Int)), (11, .bool (ex (j + 1) (covI ms br k))), (12, .int .i64 (j : Int))] ?_ ?_
      · rw [ex_succ]
        skip
        refine W.region ?_
        refine WL.val (OpVal.opv rfl) rfl rfl rfl ?_
        refine WL.val (OpVal.opv rfl) rfl rfl rfl ?_
        refine WL.splitB rfl rfl (fun g59 => ?_) (fun g59 => ?_)
        · refine WL.pass rfl rfl rfl ?_
          refine WL.pass rfl rfl rfl ?_
          refine WL.pass rfl rfl rfl ?_
          refine WL.pass rfl rfl rfl ?_
          refine WL.pass rfl rfl rfl ?_
          refine WL.pass rfl rfl rfl ?_
          refine WL.pass rfl rfl rfl ?_
          refine WL.pass rfl rfl rfl ?_
          refine WL.val (OpVal.opv rfl) rfl rfl rfl ?_
          refine WL.val (OpVal.opv rfl) rfl rfl rfl ?_
          refine WL.nil ?_
          skip
          exact Keff.intro ⟨rfl, rfl, rfl, rfl, rfl, congrArg (fun b => some (Value.bool b)) (by simp_all [-List.getD_eq_getElem?_getD]), rfl, trivial⟩ (by simp) (by repeat (first | exact List.Sublist.refl _ | refine List.Sublist.cons _ ?_ | refine List.Sublist.cons_cons _ ?_))
        · refine WL.val (OpVal.opv rfl) rfl rfl rfl ?_
          refine WL.val (OpVal.opv rfl) rfl rfl rfl ?_
          refine WL.val (OpVal.indexAddrN rfl rfl hmr (by omega)) rfl rfl rfl ?_
          refine WL.val (OpVal.cast (OpVal.loadE rfl hmr (by repeat (first | exact .head _ | refine .tail _ ?_)) (by omega) (by omega)) (congrArg (Value.int .i64) vn_get)) rfl rfl rfl ?_
          refine WL.val (OpVal.opv rfl) rfl rfl rfl ?_
          refine WL.val (OpVal.bor rfl rfl (by omega) (by omega)) rfl rfl rfl ?_
          refine WL.val (OpVal.opv rfl) rfl rfl rfl ?_
          refine WL.val (OpVal.cast (OpVal.opv rfl) (show _ = Value.bool (covI ms br k j) from congrArg Value.bool (decide_eq_decide.2 (by omega)))) rfl rfl rfl ?_
          refine WL.val (OpVal.opv rfl) rfl rfl rfl ?_
          refine WL.val (OpVal.opv rfl) rfl rfl rfl ?_
          refine WL.nil ?_
          skip
          exact Keff.intro ⟨rfl, rfl, rfl, rfl, rfl, congrArg (fun b => some (Value.bool b)) (by simp_all [-List.getD_eq_getElem?_getD]), rfl, trivial⟩ (by simp) (by repeat (first | exact List.Sublist.refl _ | refine List.Sublist.cons _ ?_ | refine List.Sublist.cons_cons _ ?_))
      refine Kblock.normal (Kseq.go ?_)
      skip
      refine W.region ?_
      refine WL.val (OpVal.opv rfl) rfl rfl rfl ?_
      refine WL.val (OpVal.incr rfl (by omega)) rfl rfl rfl ?_
      refine WL.val (OpVal.opv rfl) rfl rfl rfl ?_
      refine WL.nil ?_
      skip
      exact Kloop.nextC (j + 1) (by omega) (by omega) ⟨rfl, rfl, rfl, rfl, rfl, rfl, rfl, trivial⟩ (by simp) (by repeat (first | exact List.Sublist.refl _ | refine List.Sublist.cons _ ?_ | refine List.Sublist.cons_cons _ ?_))
    · have : j = br.length := by omega
      subst this
      refine W.exit (Kseq.exit (Kloop.exit (Kblock.here (Kseq.go (W.seq ?_)))))
      skip
      refine W.region ?_
      refine WL.val (OpVal.opv rfl) rfl rfl rfl ?_
      refine WL.val (OpVal.opv rfl) rfl rfl rfl ?_
      refine WL.abs (OpAbs.call rfl (fun m hm => piecesR_any (b := k) (hmv.le (by repeat (first | exact hm.1 | replace hm := hm.2))) (by omega))) rfl rfl rfl ?_
      rintro m71 v71 h71
      refine WL.val (OpVal.opv rfl) rfl rfl rfl ?_
      refine WL.nil ?_
      refine Kseq.go (W.seq ?_)
      skip
      refine W.toS [(1, mv), (5, vi (fullM ms : Int)), (6, a), (9, q), (10, .int .i64 (k : Int)), (11, .bool (ex br.length (covI ms br k))), (13, v71), (77, .bool (ex br.length (covI ms br k) && shorter (pieces ms k) (waitTo ms br k)))] ?_ ?_
      · skip
        refine W.region ?_
        refine WL.val (OpVal.opv rfl) rfl rfl rfl ?_
        refine WL.val (OpVal.opv rfl) rfl rfl rfl ?_
        refine WL.splitB rfl rfl (fun g73 => ?_) (fun g73 => ?_)
        · refine WL.val (OpVal.opv rfl) rfl rfl rfl ?_
          refine WL.val (OpVal.opv rfl) rfl rfl rfl ?_
          refine WL.val (OpVal.call rfl (fun m hm => shorter_any (h71.le (by repeat (first | exact hm.1 | replace hm := hm.2))) (hq.le (by repeat (first | exact hm.1 | replace hm := hm.2))))) rfl rfl rfl ?_
          refine WL.val (OpVal.opv rfl) rfl rfl rfl ?_
          refine WL.nil ?_
          skip
          exact Keff.intro ⟨rfl, rfl, rfl, rfl, rfl, rfl, rfl, congrArg (fun b => some (Value.bool b)) (by simp_all [-List.getD_eq_getElem?_getD]), trivial⟩ (by simp) (by repeat (first | exact List.Sublist.refl _ | refine List.Sublist.cons _ ?_ | refine List.Sublist.cons_cons _ ?_))
        · refine WL.pass rfl rfl rfl ?_
          refine WL.pass rfl rfl rfl ?_
          refine WL.pass rfl rfl rfl ?_
          refine WL.val (OpVal.opv rfl) rfl rfl rfl ?_
          refine WL.nil ?_
          skip
          exact Keff.intro ⟨rfl, rfl, rfl, rfl, rfl, rfl, rfl, congrArg (fun b => some (Value.bool b)) (by simp_all [-List.getD_eq_getElem?_getD]), trivial⟩ (by simp) (by repeat (first | exact List.Sublist.refl _ | refine List.Sublist.cons _ ?_ | refine List.Sublist.cons_cons _ ?_))
      refine Kseq.go ?_
      refine W.cond rfl rfl (fun he => ?_) (fun hne => ?_)
      · skip
        refine W.region ?_
        refine WL.val (OpVal.opv rfl) rfl rfl rfl ?_
        refine WL.val (OpVal.opv rfl) rfl rfl rfl ?_
        refine WL.nil ?_
        refine Kblock.normal (Kseq.go ?_)
        skip
        refine W.region ?_
        refine WL.val (OpVal.opv rfl) rfl rfl rfl ?_
        refine WL.val (OpVal.incr rfl (by omega)) rfl rfl rfl ?_
        refine WL.val (OpVal.opv rfl) rfl rfl rfl ?_
        refine WL.nil ?_
        skip
        exact Kloop.next (k + 1, v71, m71) ⟨by dsimp only; omega, by simp only [waitTo]; rw [if_pos (by rw [← Bool.and_eq_true]; exact he)]; exact h71⟩ (by dsimp only; omega) ⟨rfl, rfl, rfl, rfl, rfl, trivial⟩ (by simp) (by simp)
      · refine W.skip (Kblock.normal (Kseq.go ?_))
        skip
        refine W.region ?_
        refine WL.val (OpVal.opv rfl) rfl rfl rfl ?_
        refine WL.val (OpVal.incr rfl (by omega)) rfl rfl rfl ?_
        refine WL.val (OpVal.opv rfl) rfl rfl rfl ?_
        refine WL.nil ?_
        skip
        exact Kloop.next (k + 1, q, m0) ⟨by dsimp only; omega, by simp only [waitTo]; rw [if_neg (by rw [← Bool.and_eq_true, show (coverB ms br k && shorter (pieces ms k) (waitTo ms br k)) = false from hne]; simp)]; exact hq⟩ (by dsimp only; omega) ⟨rfl, rfl, rfl, rfl, rfl, trivial⟩ (by simp) (by simp)
  · have : k = fullM ms + 1 := by omega
    subst this
    refine W.exit (Kseq.exit (Kloop.exit (Kblock.here (Kseq.go (W.seq ?_)))))
    skip
    refine W.region ?_
    refine WL.val (OpVal.opv rfl) rfl rfl rfl ?_
    refine WL.val (OpVal.opv rfl) rfl rfl rfl ?_
    refine WL.nil ?_
    refine Kseq.go ?_
    refine W.ret ?_; skip; refine ⟨.inl rfl, [_], m0, ⟨.tmp rfl, trivial⟩, (by repeat (first | exact .head _ | refine .tail _ ?_)), ?_⟩
    exact hq
/-- ErrandWaits -/
theorem errandWaits_any {h : Mem} {v : Value} {r : Errand} (hv : IsErrand h v r) : FnV Tryz.prog 7 #[v] h (.bool true) := by
  have hv' := hv
  obtain ⟨wv, pv, hov, sv, f, rfl, hW, hP, hM, hH, hS⟩ := hv
  refine FnR.val ?_
  refine FnR.of_W (n := 44) Tryz.func7 rfl rfl (Nat.le_of_ble_eq_true rfl) fun c hr hD hF => ?_
  refine W.seq ?_
  refine W.region ?_
  refine WL.box rfl rfl rfl rfl (fun b1 => ?_)
  refine WL.val (OpVal.opv rfl) rfl rfl rfl ?_
  refine WL.nil ?_
  refine Kseq.go (W.seq (W.seq ?_))
  refine W.freezeBox (.head _) (fun b hb => (hF b hb).elim) fun m1 h1 => ?_
  skip
  refine W.region ?_
  refine WL.val (OpVal.loadPW rfl (by assumption) (by repeat (first | exact .head _ | refine .tail _ ?_)) (by rfl)) rfl rfl rfl ?_
  refine WL.val (OpVal.call rfl (fun m hm => thin11_any (hv'.le (by repeat (first | exact hm.1 | replace hm := hm.2))))) rfl rfl rfl ?_
  refine WL.val (OpVal.opv rfl) rfl rfl rfl ?_
  refine WL.nil ?_
  refine Kseq.go ?_
  refine W.cond rfl rfl (fun he => ?_) (fun hne => ?_)
  · refine W.seq ?_
    refine W.region ?_
    refine WL.val (OpVal.call rfl (fun m hm => awake11_any)) rfl rfl rfl ?_
    refine WL.val (OpVal.opv rfl) rfl rfl rfl ?_
    refine WL.nil ?_
    refine Kseq.go ?_
    refine W.ret ?_; refine Kseq.ret ?_; refine ⟨.inl rfl, [_], h, ⟨.tmp rfl, trivial⟩, (by repeat (first | exact .head _ | refine .tail _ ?_)), ?_⟩
    rfl
  have hs : SmE r := ThinE.sm (by simpa using hne)
  refine W.skip (Kseq.go (W.seq ?_))
  skip
  refine W.region ?_
  refine WL.val (OpVal.loadPW rfl (by assumption) (by repeat (first | exact .head _ | refine .tail _ ?_)) (by rfl)) rfl rfl rfl ?_
  refine WL.abs (OpAbs.call rfl (fun m hm => errand_any (hv'.le (by repeat (first | exact hm.1 | replace hm := hm.2))) hs)) rfl rfl rfl ?_
  rintro m12 v12 h12
  refine WL.abs (OpAbs.call rfl (fun m hm => waitT_any (h12.le (by repeat (first | exact hm.1 | replace hm := hm.2))) hs)) rfl rfl rfl ?_
  rintro m13 _ ⟨cv, rfl, hcv⟩
  refine WL.val (OpVal.opv rfl) rfl rfl rfl ?_
  refine WL.val (OpVal.opv rfl) rfl rfl rfl ?_
  refine WL.val (OpVal.opv rfl) rfl rfl rfl ?_
  refine WL.val (OpVal.opv rfl) rfl rfl rfl ?_
  refine WL.val (OpVal.opv rfl) rfl rfl rfl ?_
  refine WL.nil ?_
  refine Kseq.go (W.seq (W.seq ?_))
  skip
  refine W.region ?_
  refine WL.val (OpVal.loadPW rfl (by assumption) (by repeat (first | exact .head _ | refine .tail _ ?_)) (by rfl)) rfl rfl rfl ?_
  refine WL.val (OpVal.call rfl (fun m hm => fault11_any (hv'.le (by repeat (first | exact hm.1 | replace hm := hm.2))) hs)) rfl rfl rfl ?_
  refine WL.val (OpVal.opv rfl) rfl rfl rfl ?_
  refine WL.nil ?_
  refine Kseq.go (W.seq ?_)
  skip
  refine W.region ?_
  refine WL.val (OpVal.opv rfl) rfl rfl rfl ?_
  refine WL.val (OpVal.opv rfl) rfl rfl rfl ?_
  refine WL.nil ?_
  refine Kseq.go ?_
  refine W.cond rfl rfl (fun he => ?_) (fun hne => ?_)
  · have he : faultT r ≠ 0 := by simpa using he
    rw [if_neg he] at hcv
    refine W.seq ?_
    refine W.region ?_
    refine WL.val (OpVal.opv rfl) rfl rfl rfl ?_
    refine WL.val (OpVal.opv rfl) rfl rfl rfl ?_
    refine WL.val (OpVal.cast (OpVal.opv rfl) (congrArg Value.bool (decide_eq_true rfl))) rfl rfl rfl ?_
    refine WL.val (OpVal.opv rfl) rfl rfl rfl ?_
    refine WL.val (OpVal.opv rfl) rfl rfl rfl ?_
    refine WL.val (OpVal.len rfl hcv) rfl rfl rfl ?_
    refine WL.val (OpVal.opv rfl) rfl rfl rfl ?_
    refine WL.val (OpVal.opv rfl) rfl rfl rfl ?_
    refine WL.val (OpVal.opv rfl) rfl rfl rfl ?_
    refine WL.val (OpVal.call rfl (fun m hm => awake11_any)) rfl rfl rfl ?_
    refine WL.val (OpVal.opv rfl) rfl rfl rfl ?_
    refine WL.val (OpVal.opv rfl) rfl rfl rfl ?_
    refine WL.nil ?_
    refine Kseq.go ?_
    refine W.ret ?_; refine Kseq.ret ?_; refine ⟨.inl rfl, [_], h, ⟨.tmp rfl, trivial⟩, (by repeat (first | exact .head _ | refine .tail _ ?_)), ?_⟩
    rfl
  have h0 : faultT r = 0 := by simpa using hne
  have hV := faultT_zero.1 h0
  have hok := movesR_ok hV
  have h7 := hok.len
  rw [if_pos h0] at hcv
  rw [h0]
  unfold waitV allW at hcv
  rw [← wait_eq] at hcv
  change IsInts _ _ (waitR r) at hcv
  refine W.skip (Kseq.go (W.seq ?_))
  skip
  refine W.draw 8 (by kernel_rfl) (by kernel_rfl) (by kernel_rfl) rfl ?_
  refine DJ.val [] (OpVal.opv rfl) rfl rfl rfl rfl ?_
  refine DJ.val [] (OpVal.opv rfl) rfl rfl rfl rfl ?_
  refine DJ.val [] (OpVal.opv rfl) rfl rfl rfl rfl ?_
  refine DJ.val [] (OpVal.opv rfl) rfl rfl rfl rfl ?_
  refine DJ.val [] (OpVal.loadPW rfl (by assumption) (by repeat (first | exact .head _ | refine .tail _ ?_)) (by rfl)) rfl rfl rfl rfl ?_
  refine DJ.val [] (OpVal.loadPW rfl (by assumption) (by repeat (first | exact .head _ | refine .tail _ ?_)) (by rfl)) rfl rfl rfl rfl ?_
  refine DJ.abs (A := fun m q => IsMoves m q (movesR r)) [] (OpAbs.call rfl (fun m hm => movesRef_any (hv'.le (by repeat (first | exact hm.1 | replace hm := hm.2))) hs hV)) rfl rfl rfl rfl ?_
  refine DJ.abs (A := fun m q => IsInts m q (waitR r)) [(37, fun m q => IsMoves m q (movesR r))] (fun m37 v37 h37 => OpAbs.call rfl (fun m hm => waitRef_any (hv'.le (by repeat (first | exact hm.1 | replace hm := hm.2))) hV (h37.le (by repeat (first | exact hm.1 | replace hm := hm.2))) (by omega))) rfl rfl rfl rfl ?_ (hG := ⟨(by repeat (first | exact .head _ | refine .tail _ ?_)), rfl, trivial⟩)
  refine DJ.nil ?_
  rintro m38 v38 h38
  rintro m37 v37 h37
  refine WL.val (OpVal.call rfl (fun m hm => ints11_same (hcv.le (by repeat (first | exact hm.1 | replace hm := hm.2))) (h38.le (by repeat (first | exact hm.1 | replace hm := hm.2))))) rfl rfl rfl ?_
  refine WL.val (OpVal.opv rfl) rfl rfl rfl ?_
  refine WL.val (OpVal.opv rfl) rfl rfl rfl ?_
  refine WL.val (OpVal.call rfl (fun m hm => awake11_any)) rfl rfl rfl ?_
  refine WL.val (OpVal.opv rfl) rfl rfl rfl ?_
  refine WL.val (OpVal.opv rfl) rfl rfl rfl ?_
  refine WL.nil ?_
  refine Kseq.go ?_
  refine W.ret ?_; skip; refine ⟨.inl rfl, [_], h, ⟨.tmp rfl, trivial⟩, (by repeat (first | exact .head _ | refine .tail _ ?_)), ?_⟩
  rfl
end Go.Proofs.YtjligncpaeeljaaGreat
