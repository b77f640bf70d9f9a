/- The statement ErrandWaited: its contract. -/
import Derived.Test.YtdjkokpbeaapoaaGreatP27
import Derived.Test.YtdjkokpbeaapoaaGreatT78
import Derived.Test.YtdjkokpbeaapoaaGreatT80
import Derived.Test.YtdjkokpbeaapoaaGreatT86
namespace Go.Proofs.YtdjkokpbeaapoaaGreat
open Go Go.Eng Go.RowKit

section
variable {P : Program} {n : Nat} {c : Cx P n} {l : List (Nat × Value)} {Ms : List Mem} {μ : List Res} {dst : Option Tmp} {x y : Operand} {t t' ty : TypeId} {pos : String} {af : Array Edge} {gd : Option (Nat × Bool)}
theorem OpVal.neqB98 {p q : Bool} [ht : TU P t .bool] (hx : lk l x = some (.bool p)) (hy : lk l y = some (.bool q)) : OpVal c ⟨dst, .binOp .neq t x y t', ty, pos, af, gd⟩ l Ms μ (.bool (!decide (p = q))) :=
  OpVal.of_runs (by simp) (by simp) fun a w hh => by
    have h1 : (Op.equal t (.bool p) (.bool q)).run P w = .ok (p == q) w := run_equalIn_bool' w 9999 t p q ht.u
    simp [execOp, hh.lk hx, hh.lk hy, eqGuard, binOp, h1]
    cases p <;> cases q <;> rfl
end
/-- pieces -/
theorem pieces11_any {h : Mem} {v : Value} {r : Errand} (hv : IsErrand h v r) (hs : SmE r) (hV : ValidE r) : FnR Tryz.prog 20 #[v] h (fun m q => IsInts m q ((movesR r).map (·.piece))) := by
  have hv' := hv
  obtain ⟨wov, pv, hov, sv, f, rfl, hW, hP, hM, hH, hS⟩ := hv
  have h7 := (movesR_ok hV).len
  have hpow := Nat.pow_le_pow_right (n := 2) (by omega) h7
  have hpos := Nat.two_pow_pos (movesR r).length
  have e : (1 * 2 ^ (movesR r).length : Int) = ((2 ^ (movesR r).length : Nat) : Int) := by simp
  refine FnR.of_W (n := 13) Tryz.func20 rfl rfl (Nat.le_of_ble_eq_true rfl) fun c hr hD hF => ?_
  refine W.seq ?_
  refine W.region ?_
  refine WL.box rfl rfl rfl rfl (fun b1 => ?_)
  refine WL.val (OpVal.opv rfl) rfl rfl rfl ?_
  refine WL.nil ?_
  refine Kseq.go (W.seq ?_)
  refine W.freezeBox (.head _) (fun b hb => (hF b hb).elim) fun m1 h1 => ?_
  skip
  refine W.region ?_
  refine WL.val (OpVal.loadPW rfl (by assumption) (by repeat (first | exact .head _ | refine .tail _ ?_)) (by rfl)) rfl rfl rfl ?_
  refine WL.abs (OpAbs.call rfl (fun m hm => movesRef_any (hv'.le (by repeat (first | exact hm.1 | replace hm := hm.2))) hs hV)) rfl rfl rfl ?_
  rintro m5 v5 h5
  refine WL.val (OpVal.opv rfl) rfl rfl rfl ?_
  refine WL.nil ?_
  refine Kseq.go (W.seq ?_)
  skip
  refine W.region ?_
  refine WL.val (OpVal.opv rfl) rfl rfl rfl ?_
  refine WL.val (OpVal.opv rfl) rfl rfl rfl ?_
  refine WL.val (OpVal.len rfl h5) rfl rfl rfl ?_
  refine WL.val (OpVal.conv rfl (wrap_u64 (by omega) (by omega))) rfl rfl rfl ?_
  refine WL.val ((OpVal.shl rfl rfl (by omega) (by rw [e]; omega) (by rw [e]; omega)).cast (congrArg (Value.int .i64) e)) rfl rfl rfl ?_
  refine WL.val (OpVal.cast (OpVal.sub rfl rfl (by omega) (by omega)) (show _ = vi (fullM (movesR r) : Int) from congrArg (Value.int .i64) (by unfold fullM; omega))) rfl rfl rfl ?_
  refine WL.abs (OpAbs.call rfl (fun m hm => piecesR_any (h5.le (by repeat (first | exact hm.1 | replace hm := hm.2))) (by omega))) rfl rfl rfl ?_
  rintro m12 v12 h12
  refine WL.val (OpVal.opv rfl) rfl rfl rfl ?_
  refine WL.nil ?_
  refine Kseq.go ?_
  refine W.ret ?_; skip; refine ⟨.inl rfl, [_], m12, ⟨.tmp rfl, trivial⟩, (by repeat (first | exact .head _ | refine .tail _ ?_)), ?_⟩
  rw [← pieces_full]
  exact h12
/-- Are all pieces brought back, but some? -/
def allB (r : Errand) (w wait : List Int) : Bool := !ex (movesR r).length fun i => !brought w ((movesR r).getD i default) && !decide (((movesR r).getD i default).piece ∈ wait)
/-- all -/
theorem all11_any {h : Mem} {v wv lv : Value} {r : Errand} {w l : List Int} (hv : IsErrand h v r) (hs : SmE r) (hV : ValidE r) (hw : IsInts h wv w) (hWk : Walk r.n w) (hl : IsInts h lv l) : FnV Tryz.prog 25 #[v, wv, lv] h (.bool (allB r w l)) := by
  have hv' := hv
  obtain ⟨wov, pv, hov, sv, f, rfl, hW, hP, hM, hH, hS⟩ := hv
  have hinc := (movesR_ok hV).inc
  have h7 := (movesR_ok hV).len
  have hw7 := hWk.len
  refine FnR.val ?_
  refine FnR.of_W (n := 45) Tryz.func25 rfl rfl (Nat.le_of_ble_eq_true rfl) fun c hr hD hF => ?_
  refine W.seq ?_
  refine W.region ?_
  refine WL.box rfl rfl rfl rfl (fun b3 => ?_)
  refine WL.val (OpVal.opv rfl) rfl rfl rfl ?_
  refine WL.nil ?_
  refine Kseq.go (W.seq ?_)
  refine W.freezeBox (.head _) (fun b hb => (hF b hb).elim) fun m1 h1 => ?_
  skip
  refine W.region ?_
  refine WL.val (OpVal.loadPW rfl (by assumption) (by repeat (first | exact .head _ | refine .tail _ ?_)) (by rfl)) rfl rfl rfl ?_
  refine WL.abs (OpAbs.call rfl (fun m hm => errand_any (hv'.le (by repeat (first | exact hm.1 | replace hm := hm.2))) hs)) rfl rfl rfl ?_
  rintro m13 v13 h13
  refine WL.val (OpVal.opv rfl) rfl rfl rfl ?_
  refine WL.abs (OpAbs.call rfl (fun m hm => list11_any (hw.le (by repeat (first | exact hm.1 | replace hm := hm.2))) (by omega))) rfl rfl rfl ?_
  rintro m15 v15 h15
  refine WL.abs (OpAbs.call rfl (fun m hm => brings11_ok hV hWk hs (h13.le (by repeat (first | exact hm.1 | replace hm := hm.2))) (h15.le (by repeat (first | exact hm.1 | replace hm := hm.2))))) rfl rfl rfl ?_
  rintro m16 _ ⟨bv, rfl, hbv⟩
  refine WL.val (OpVal.opv rfl) rfl rfl rfl ?_
  refine WL.val (OpVal.opv rfl) rfl rfl rfl ?_
  refine WL.val (OpVal.opv rfl) rfl rfl rfl ?_
  refine WL.val (OpVal.opv rfl) rfl rfl rfl ?_
  refine WL.val (OpVal.opv rfl) rfl rfl rfl ?_
  refine WL.nil ?_
  refine Kseq.go (W.seq ?_)
  skip
  refine W.region ?_
  refine WL.val (OpVal.loadPW rfl (by assumption) (by repeat (first | exact .head _ | refine .tail _ ?_)) (by rfl)) rfl rfl rfl ?_
  refine WL.abs (OpAbs.call rfl (fun m hm => pieces11_any (hv'.le (by repeat (first | exact hm.1 | replace hm := hm.2))) hs hV)) rfl rfl rfl ?_
  rintro m20 v20 h20
  refine WL.val (OpVal.opv rfl) rfl rfl rfl ?_
  refine WL.nil ?_
  refine Kseq.go (W.seq (W.seq ?_))
  have hmem : ∀ i, i < (movesR r).length → (decide (((movesR r).getD i default).piece ∈ piecesB (movesR r) fun i => brought w ((movesR r).getD i default)) = brought w ((movesR r).getD i default)) := fun i hi => by
    have := mem_piecesB hinc (q := fun i => brought w ((movesR r).getD i default)) hi
    cases hb : brought w ((movesR r).getD i default) with
    | true => exact decide_eq_true (this.2 hb)
    | false => exact decide_eq_false (fun hm => by rw [this.1 hm] at hb; cases hb)
  have hget := fun k hk => pcs_get' (ms := movesR r) (k := k) hk
  have hlen : ((movesR r).map (·.piece)).length = (movesR r).length := by simp
  skip
  refine W.region ?_
  refine WL.val (OpVal.opv rfl) rfl rfl rfl ?_
  refine WL.nil ?_
  refine Kseq.go (W.block ?_)
  refine W.loopC (σ := Nat) (fun k => [(2, lv), (7, bv), (8, vi 0), (9, v20), (10, .int .i64 (k : Int))]) (fun k => k ≤ (movesR r).length ∧ ∀ i, i < k → (!brought w ((movesR r).getD i default) && !decide (((movesR r).getD i default).piece ∈ l)) = false) (fun k => (movesR r).length - k) 0 ⟨rfl, rfl, rfl, rfl, rfl, trivial⟩ ⟨Nat.zero_le _, fun i hi => absurd hi (Nat.not_lt_zero _)⟩ ?_
  rintro k ⟨hk, hall⟩
  refine W.seq (W.seq ?_)
  refine W.region ?_
  refine WL.val (OpVal.opv rfl) rfl rfl rfl ?_
  refine WL.val (OpVal.opv rfl) rfl rfl rfl ?_
  refine WL.val (OpVal.len rfl h20) rfl rfl rfl ?_
  refine WL.val (OpVal.opv rfl) rfl rfl rfl ?_
  refine WL.nil ?_
  refine Kseq.go ?_
  refine W.condD rfl rfl (fun hlt => ?_) (fun hge => ?_)
  · have hkl : k < (movesR r).length := by omega
    refine W.skip (Kseq.go (W.seq (W.block (W.seq ?_))))
    refine W.toS [(2, lv), (7, bv), (8, vi 0), (9, v20), (10, .int .i64 (k : Int)), (42, .bool (!brought w ((movesR r).getD k default) && !decide (((movesR r).getD k default).piece ∈ l)))] ?_ ?_
    · skip
      refine W.region ?_
      refine WL.val (OpVal.opv rfl) rfl rfl rfl ?_
      refine WL.val (OpVal.opv rfl) rfl rfl rfl ?_
      refine WL.val (OpVal.opv rfl) rfl rfl rfl ?_
      refine WL.val (OpVal.indexAddrN rfl rfl h20 (by omega)) rfl rfl rfl ?_
      refine WL.val (OpVal.cast (OpVal.loadE rfl h20 (by repeat (first | exact .head _ | refine .tail _ ?_)) (by omega) (by omega)) (congrArg (Value.int .i64) (hget k hkl))) rfl rfl rfl ?_
      refine WL.val (OpVal.cast (OpVal.call rfl (fun m hm => has_any _ (hbv.le (by repeat (first | exact hm.1 | replace hm := hm.2))))) (congrArg Value.bool (hmem k hkl))) rfl rfl rfl ?_
      refine WL.val (OpVal.opv rfl) rfl rfl rfl ?_
      refine WL.val (OpVal.opv rfl) rfl rfl rfl ?_
      refine WL.splitB rfl rfl (fun g34 => ?_) (fun g34 => ?_)
      · refine WL.val (OpVal.opv rfl) rfl rfl rfl ?_
        refine WL.val (OpVal.opv rfl) rfl rfl rfl ?_
        refine WL.val (OpVal.opv rfl) rfl rfl rfl ?_
        refine WL.val (OpVal.indexAddrN rfl rfl h20 (by omega)) rfl rfl rfl ?_
        refine WL.val (OpVal.cast (OpVal.loadE rfl h20 (by repeat (first | exact .head _ | refine .tail _ ?_)) (by omega) (by omega)) (congrArg (Value.int .i64) (hget k hkl))) rfl rfl rfl ?_
        refine WL.val (OpVal.call rfl (fun m hm => has_any _ (hl.le (by repeat (first | exact hm.1 | replace hm := hm.2))))) rfl rfl rfl ?_
        refine WL.val (OpVal.opv rfl) rfl rfl rfl ?_
        refine WL.val (OpVal.opv rfl) rfl rfl rfl ?_
        refine WL.nil ?_
        skip
        exact Keff.intro ⟨rfl, rfl, rfl, rfl, rfl, congrArg (fun b => some (Value.bool b)) (by simp_all), trivial⟩ (by simp) (by repeat (first | exact List.Sublist.refl _ | refine List.Sublist.cons _ ?_ | refine List.Sublist.cons_cons _ ?_))
      · refine WL.pass rfl rfl rfl ?_
        refine WL.pass rfl rfl rfl ?_
        refine WL.pass rfl rfl rfl ?_
        refine WL.pass rfl rfl rfl ?_
        refine WL.pass rfl rfl rfl ?_
        refine WL.pass rfl rfl rfl ?_
        refine WL.pass rfl rfl rfl ?_
        refine WL.val (OpVal.opv rfl) rfl rfl rfl ?_
        refine WL.nil ?_
        skip
        exact Keff.intro ⟨rfl, rfl, rfl, rfl, rfl, congrArg (fun b => some (Value.bool b)) (by simp_all), trivial⟩ (by simp) (by repeat (first | exact List.Sublist.refl _ | refine List.Sublist.cons _ ?_ | refine List.Sublist.cons_cons _ ?_))
    refine Kseq.go ?_
    refine W.cond rfl rfl (fun hb => ?_) (fun hb => ?_)
    · refine W.seq ?_
      refine W.region ?_
      refine WL.val (OpVal.opv rfl) rfl rfl rfl ?_
      refine WL.nil ?_
      refine Kseq.go ?_
      refine W.ret ?_; refine Kblock.ret (Kseq.ret (Kloop.ret (Kblock.ret (Kseq.ret ?_)))); refine ⟨.inl rfl, [_], h, ⟨.tmp rfl, trivial⟩, (by repeat (first | exact .head _ | refine .tail _ ?_)), ?_⟩
      exact congrArg Value.bool (show false = allB r w l by unfold allB; rw [ex_iff.2 ⟨k, hkl, hb⟩]; rfl)
    · refine W.skip (Kblock.normal (Kseq.go ?_))
      skip
      refine W.region ?_
      refine WL.val (OpVal.opv rfl) rfl rfl rfl ?_
      refine WL.val (OpVal.incr rfl (by omega)) rfl rfl rfl ?_
      refine WL.val (OpVal.opv rfl) rfl rfl rfl ?_
      refine WL.nil ?_
      skip
      exact Kloop.nextC (k + 1) ⟨by omega, fun i hi => by
        rcases Nat.lt_succ_iff_lt_or_eq.1 hi with h2 | rfl
        · exact hall i h2
        · exact hb⟩ (by omega) ⟨rfl, rfl, rfl, rfl, rfl, trivial⟩ (by simp) (by repeat (first | exact List.Sublist.refl _ | refine List.Sublist.cons _ ?_ | refine List.Sublist.cons_cons _ ?_))
  · have hkk : k = (movesR r).length := by omega
    subst hkk
    refine W.exit (Kseq.exit (Kloop.exit (Kblock.here (Kseq.go (W.seq ?_)))))
    skip
    refine W.region ?_
    refine WL.val (OpVal.opv rfl) rfl rfl rfl ?_
    refine WL.val (OpVal.opv rfl) rfl rfl rfl ?_
    refine WL.val (OpVal.opv rfl) rfl rfl rfl ?_
    refine WL.nil ?_
    refine Kseq.go ?_
    refine W.ret ?_; skip; refine ⟨.inl rfl, [_], h, ⟨.tmp rfl, trivial⟩, (by repeat (first | exact .head _ | refine .tail _ ?_)), ?_⟩
    exact congrArg Value.bool (show _ = allB r w l by unfold allB; rw [ex_no.2 hall]; rfl)
set_option maxHeartbeats 1600000 in
/-- ErrandWaited -/
theorem errandWaited_any {h : Mem} {v wv : Value} {r : Errand} {ws : List Nat} (hv : IsErrand h v r) (hws : IsWds h wv ws) : FnV Tryz.prog 4 #[v, wv] h (.bool true) := by
  have hv' := hv
  obtain ⟨wov, pv, hov, sv, f, rfl, hW, hP, hM, hH, hS⟩ := hv
  refine FnR.val ?_
  refine FnR.of_W (n := 137) Tryz.func4 rfl rfl (Nat.le_of_ble_eq_true rfl) fun c hr hD hF => ?_
  refine W.seq ?_
  refine W.region ?_
  refine WL.box rfl rfl rfl rfl (fun b2 => ?_)
  refine WL.val (OpVal.opv rfl) rfl rfl rfl ?_
  refine WL.nil ?_
  refine Kseq.go (W.seq (W.seq ?_))
  refine W.freezeBox (.head _) (fun b hb => (hF b hb).elim) fun m1 h1 => ?_
  skip
  refine W.region ?_
  refine WL.val (OpVal.loadPW rfl (by assumption) (by repeat (first | exact .head _ | refine .tail _ ?_)) (by rfl)) rfl rfl rfl ?_
  refine WL.val (OpVal.call rfl (fun m hm => ready11_any (hv'.le (by repeat (first | exact hm.1 | replace hm := hm.2))))) rfl rfl rfl ?_
  refine WL.val (OpVal.opv rfl) rfl rfl rfl ?_
  refine WL.nil ?_
  refine Kseq.go ?_
  refine W.cond rfl rfl (fun he => ?_) (fun hne => ?_)
  · refine W.seq ?_
    refine W.region ?_
    refine WL.val (OpVal.call rfl (fun m hm => awake11_any)) rfl rfl rfl ?_
    refine WL.val (OpVal.opv rfl) rfl rfl rfl ?_
    refine WL.nil ?_
    refine Kseq.go ?_
    refine W.ret ?_; refine Kseq.ret ?_; refine ⟨.inl rfl, [_], h, ⟨.tmp rfl, trivial⟩, (by repeat (first | exact .head _ | refine .tail _ ?_)), ?_⟩
    rfl
  obtain ⟨hth, hV⟩ := readyE_iff.1 (show readyE r = true by simpa using hne)
  have hs : SmE r := ThinE.sm hth
  have f0 := faultT_zero.2 hV
  have hinc := (movesR_ok hV).inc
  have h7 := (movesR_ok hV).len
  have hcal := hV.calls
  have hwn := wait_nil hV
  have hwno := fun w hw hsw => wait_no hV (w := w) hw hsw
  obtain ⟨w1, hw1, hsw1, hall1⟩ := wait_some hV
  refine W.skip (Kseq.go (W.seq ?_))
  skip
  refine W.region ?_
  refine WL.val (OpVal.loadPW rfl (by assumption) (by repeat (first | exact .head _ | refine .tail _ ?_)) (by rfl)) rfl rfl rfl ?_
  refine WL.abs (OpAbs.call rfl (fun m hm => errand_any (hv'.le (by repeat (first | exact hm.1 | replace hm := hm.2))) hs)) rfl rfl rfl ?_
  rintro m26 v26 h26
  refine WL.abs (OpAbs.call rfl (fun m hm => waitT_any (h26.le (by repeat (first | exact hm.1 | replace hm := hm.2))) hs)) rfl rfl rfl ?_
  rintro m27 _ ⟨lv, rfl, hlv⟩
  rw [if_pos f0] at hlv
  rw [f0]
  refine WL.val (OpVal.opv rfl) rfl rfl rfl ?_
  refine WL.val (OpVal.opv rfl) rfl rfl rfl ?_
  refine WL.val (OpVal.opv rfl) rfl rfl rfl ?_
  refine WL.val (OpVal.opv rfl) rfl rfl rfl ?_
  refine WL.val (OpVal.opv rfl) rfl rfl rfl ?_
  refine WL.nil ?_
  refine Kseq.go (W.seq ?_)
  skip
  refine W.region ?_
  refine WL.val (OpVal.loadPW rfl (by assumption) (by repeat (first | exact .head _ | refine .tail _ ?_)) (by rfl)) rfl rfl rfl ?_
  refine WL.abs (OpAbs.call rfl (fun m hm => errand_any (hv'.le (by repeat (first | exact hm.1 | replace hm := hm.2))) hs)) rfl rfl rfl ?_
  rintro m32 v32 h32
  refine WL.abs (OpAbs.call rfl (fun m hm => bestT_any (h32.le (by repeat (first | exact hm.1 | replace hm := hm.2))) hs)) rfl rfl rfl ?_
  rintro m33 _ ⟨cv, rfl, hcv⟩
  have hbe : bestErr r = if (bestV r).isSome = true then 0 else 10 := by unfold bestErr; rw [if_neg (by omega)]
  generalize (if bestErr r = 0 then (foundC r (bestV r)).2 else 0) = bn
  refine WL.val (OpVal.opv rfl) rfl rfl rfl ?_
  refine WL.val (OpVal.opv rfl) rfl rfl rfl ?_
  refine WL.val (OpVal.opv rfl) rfl rfl rfl ?_
  refine WL.val (OpVal.opv rfl) rfl rfl rfl ?_
  refine WL.val (OpVal.opv rfl) rfl rfl rfl ?_
  refine WL.val (OpVal.opv rfl) rfl rfl rfl ?_
  refine WL.val (OpVal.opv rfl) rfl rfl rfl ?_
  refine WL.nil ?_
  refine Kseq.go (W.seq ?_)
  skip
  refine W.region ?_
  refine WL.val (OpVal.loadPW rfl (by assumption) (by repeat (first | exact .head _ | refine .tail _ ?_)) (by rfl)) rfl rfl rfl ?_
  refine WL.val (OpVal.opv rfl) rfl rfl rfl ?_
  refine WL.abs (OpAbs.call rfl (fun m hm => walked11_any (hv'.le (by repeat (first | exact hm.1 | replace hm := hm.2))) (hws.le (by repeat (first | exact hm.1 | replace hm := hm.2))))) rfl rfl rfl ?_
  rintro m39 v39 h39
  refine WL.val (OpVal.opv rfl) rfl rfl rfl ?_
  refine WL.nil ?_
  refine Kseq.go (W.seq ?_)
  obtain ⟨l, hl, hw, hl6⟩ := h39
  skip
  refine W.region ?_
  refine WL.val (OpVal.loadPW rfl (by assumption) (by repeat (first | exact .head _ | refine .tail _ ?_)) (by rfl)) rfl rfl rfl ?_
  refine WL.abs (OpAbs.call rfl (fun m hm => errand_any (hv'.le (by repeat (first | exact hm.1 | replace hm := hm.2))) hs)) rfl rfl rfl ?_
  rintro m42 v42 h42
  refine WL.val (OpVal.opv rfl) rfl rfl rfl ?_
  refine WL.abs (OpAbs.call rfl (fun m hm => list11_any (hl.le (by repeat (first | exact hm.1 | replace hm := hm.2))) (by omega))) rfl rfl rfl ?_
  rintro m44 v44 h44
  refine WL.val (OpVal.call rfl (fun m hm => lateT_any (h42.le (by repeat (first | exact hm.1 | replace hm := hm.2))) hs (h44.le (by repeat (first | exact hm.1 | replace hm := hm.2))))) rfl rfl rfl ?_
  refine WL.val (OpVal.opv rfl) rfl rfl rfl ?_
  refine WL.val (OpVal.opv rfl) rfl rfl rfl ?_
  refine WL.val (OpVal.opv rfl) rfl rfl rfl ?_
  refine WL.val (OpVal.opv rfl) rfl rfl rfl ?_
  refine WL.val (OpVal.opv rfl) rfl rfl rfl ?_
  refine WL.nil ?_
  refine Kseq.go (W.seq ?_)
  skip
  refine W.region ?_
  refine WL.val (OpVal.loadPW rfl (by assumption) (by repeat (first | exact .head _ | refine .tail _ ?_)) (by rfl)) rfl rfl rfl ?_
  refine WL.abs (OpAbs.call rfl (fun m hm => errand_any (hv'.le (by repeat (first | exact hm.1 | replace hm := hm.2))) hs)) rfl rfl rfl ?_
  rintro m50 v50 h50
  refine WL.val (OpVal.opv rfl) rfl rfl rfl ?_
  refine WL.abs (OpAbs.call rfl (fun m hm => list11_any (hl.le (by repeat (first | exact hm.1 | replace hm := hm.2))) (by omega))) rfl rfl rfl ?_
  rintro m52 v52 h52
  refine WL.abs (OpAbs.call rfl (fun m hm => brings11_ok hV hw hs (h50.le (by repeat (first | exact hm.1 | replace hm := hm.2))) (h52.le (by repeat (first | exact hm.1 | replace hm := hm.2))))) rfl rfl rfl ?_
  rintro m53 _ ⟨bv, rfl, hbv⟩
  refine WL.val (OpVal.opv rfl) rfl rfl rfl ?_
  refine WL.val (OpVal.opv rfl) rfl rfl rfl ?_
  refine WL.val (OpVal.opv rfl) rfl rfl rfl ?_
  refine WL.val (OpVal.opv rfl) rfl rfl rfl ?_
  refine WL.val (OpVal.opv rfl) rfl rfl rfl ?_
  refine WL.nil ?_
  refine Kseq.go (W.seq (W.seq ?_))
  have hlate : (lateV r l).2 = 7 → sureB r l = true ∨ ¬ ((l.length : Int) ≤ r.calls) := fun e => by
    have h0 := walkedE_of hV hw
    unfold lateV at e
    rw [if_neg (by omega)] at e
    split at e
    · rename_i hn
      by_cases hc : (l.length : Int) ≤ r.calls
      · exact .inl (sureB_iff.2 ⟨hc, fstNo_all_iff.1 hn⟩)
      · exact .inr hc
    · cases e
  have heq : decide ((waitV r).length = 0) = decide (bestErr r = 0) := by
    have h1 : (waitV r).length = 0 ↔ waitV r = [] := List.length_eq_zero_iff
    rw [hbe]
    by_cases hx : (bestV r).isSome = true
    · rw [if_pos hx, decide_eq_true (h1.2 (hwn.2 hx))]; rfl
    · rw [if_neg hx, decide_eq_false (fun e => hx (hwn.1 (h1.1 e)))]; rfl
  have heq' : decide (((waitV r).length : Int) = 0) = decide (bestErr r = 0) := by
    rw [← heq]
    by_cases hx : (waitV r).length = 0
    · rw [decide_eq_true hx, decide_eq_true (by omega)]
    · rw [decide_eq_false hx, decide_eq_false (by omega)]
  skip
  refine W.region ?_
  refine WL.val (OpVal.opv rfl) rfl rfl rfl ?_
  refine WL.val (OpVal.opv rfl) rfl rfl rfl ?_
  refine WL.val (OpVal.opv rfl) rfl rfl rfl ?_
  refine WL.val (OpVal.opv rfl) rfl rfl rfl ?_
  refine WL.val (OpVal.opv rfl) rfl rfl rfl ?_
  refine WL.val (OpVal.opv rfl) rfl rfl rfl ?_
  refine WL.val (OpVal.opv rfl) rfl rfl rfl ?_
  refine WL.val (OpVal.opv rfl) rfl rfl rfl ?_
  refine WL.val (OpVal.len rfl hlv) rfl rfl rfl ?_
  refine WL.val (OpVal.opv rfl) rfl rfl rfl ?_
  refine WL.val (OpVal.opv rfl) rfl rfl rfl ?_
  refine WL.val (OpVal.opv rfl) rfl rfl rfl ?_
  refine WL.val (OpVal.cast (OpVal.neqB98 rfl rfl) (congrArg Value.bool (show _ = false from by rw [heq']; simp))) rfl rfl rfl ?_
  refine WL.val (OpVal.opv rfl) rfl rfl rfl ?_
  refine WL.nil ?_
  refine Kseq.go ?_
  refine W.cond rfl rfl (fun he => absurd he (by simp)) (fun _ => ?_)
  refine W.skip (Kseq.go (W.seq ?_))
  skip
  refine W.region ?_
  refine WL.val (OpVal.loadPW rfl (by assumption) (by repeat (first | exact .head _ | refine .tail _ ?_)) (by rfl)) rfl rfl rfl ?_
  refine WL.abs (OpAbs.call rfl (fun m hm => pieces11_any (hv'.le (by repeat (first | exact hm.1 | replace hm := hm.2))) hs hV)) rfl rfl rfl ?_
  rintro m71 v71 h71
  refine WL.val (OpVal.opv rfl) rfl rfl rfl ?_
  refine WL.nil ?_
  refine Kseq.go (W.seq ?_)
  have hget := fun k hk => pcs_get' (ms := movesR r) (k := k) hk
  have hlen : ((movesR r).map (·.piece)).length = (movesR r).length := by simp
  have hsl := stay_left hinc l
  generalize hbl : (piecesB (movesR r) fun i => brought l ((movesR r).getD i default)) = bl at *
  skip
  refine W.region ?_
  refine WL.val (OpVal.opv rfl) rfl rfl rfl ?_
  refine WL.nil ?_
  refine Kseq.go (W.seq (W.seq ?_))
  skip
  refine W.region ?_
  refine WL.val (OpVal.opv rfl) rfl rfl rfl ?_
  refine WL.nil ?_
  refine Kseq.go (W.block ?_)
  refine W.nilRow 3 1 ?_
  refine W.loopA (σ := Nat × Value) (fun s => [(2, .pointer (some ⟨b2, 0, none⟩)), (5, lv), (10, v39), (12, vi (lateV r l).2), (13, bv), (15, v71), (16, s.2), (17, .int .i64 (s.1 : Int))]) (fun s => ir 3 s.2 (stay (movesR r) bl s.1)) (fun s => s.1 ≤ (movesR r).length) (fun s => (movesR r).length - s.1) (0, .slice none 0 0) ⟨rfl, rfl, rfl, rfl, rfl, rfl, rfl, rfl, trivial⟩ rfl (Nat.zero_le _) ?_
  rintro ⟨k, a⟩ hk
  dsimp only at hk ⊢
  have hsb := stay_len (movesR r) bl k
  refine W.seq (W.seq ?_)
  refine W.region ?_
  refine WL.val (OpVal.opv rfl) rfl rfl rfl ?_
  refine WL.val (OpVal.opv rfl) rfl rfl rfl ?_
  refine WL.val (OpVal.len rfl h71) rfl rfl rfl ?_
  refine WL.val (OpVal.opv rfl) rfl rfl rfl ?_
  refine WL.nil ?_
  refine Kseq.go ?_
  refine W.condD rfl rfl (fun hlt => ?_) (fun hge => ?_)
  · have hkm : k < (movesR r).length := by omega
    refine W.skip (Kseq.go (W.seq (W.block (W.seq ?_))))
    refine W.region ?_
    refine WL.val (OpVal.opv rfl) rfl rfl rfl ?_
    refine WL.val (OpVal.opv rfl) rfl rfl rfl ?_
    refine WL.val (OpVal.opv rfl) rfl rfl rfl ?_
    refine WL.val (OpVal.indexAddrN rfl rfl h71 (by omega)) rfl rfl rfl ?_
    refine WL.val (OpVal.cast (OpVal.loadE rfl h71 (by repeat (first | exact .head _ | refine .tail _ ?_)) (by omega) (by omega)) (congrArg (Value.int .i64) (hget k hkm))) rfl rfl rfl ?_
    refine WL.val (OpVal.call rfl (fun m hm => has_any _ (hbv.le (by repeat (first | exact hm.1 | replace hm := hm.2))))) rfl rfl rfl ?_
    refine WL.val (OpVal.opv rfl) rfl rfl rfl ?_
    refine WL.nil ?_
    refine Kseq.go ?_
    refine W.cond rfl rfl (fun ha => ?_) (fun ha => ?_)
    · have ha : ((movesR r).getD k default).piece ∉ bl := by rw [Bool.not_eq_true'] at ha; exact of_decide_eq_false ha
      skip
      refine W.region ?_
      refine WL.val (OpVal.opv rfl) rfl rfl rfl ?_
      refine WL.val (OpVal.opv rfl) rfl rfl rfl ?_
      refine WL.val (OpVal.opv rfl) rfl rfl rfl ?_
      refine WL.val (OpVal.indexAddrN rfl rfl h71 (by omega)) rfl rfl rfl ?_
      refine WL.val (OpVal.cast (OpVal.loadE rfl h71 (by repeat (first | exact .head _ | refine .tail _ ?_)) (by omega) (by omega)) (congrArg (Value.int .i64) (hget k hkm))) rfl rfl rfl ?_
      refine WL.abs (OpAbs.litI rfl) rfl rfl rfl ?_
      rintro m90 v90 h90
      (refine WL.appInt (k := ((movesR r).getD k default).piece) rfl (fun _ => .head _) rfl h90 (by repeat (first | exact .head _ | refine .tail _ ?_)) (by omega) rfl rfl rfl ?_; intro a91 c91)
      refine WL.val (OpVal.opv rfl) rfl rfl rfl ?_
      refine WL.nil ?_
      refine Kblock.normal (Kseq.go ?_)
      skip
      refine W.region ?_
      refine WL.val (OpVal.opv rfl) rfl rfl rfl ?_
      refine WL.val (OpVal.incr rfl (by omega)) rfl rfl rfl ?_
      refine WL.val (OpVal.opv rfl) rfl rfl rfl ?_
      refine WL.nil ?_
      skip
      refine Kloop.next (k + 1, .slice a91 ((stay (movesR r) bl k).length + 1) c91) (by dsimp only; omega) (by dsimp only; omega) ⟨rfl, rfl, rfl, rfl, rfl, rfl, rfl, rfl, trivial⟩ (by simp) ?_
      dsimp only
      rw [stay_no hkm ha]
      exact (by repeat (first | exact List.Sublist.refl _ | refine List.Sublist.cons _ ?_ | refine List.Sublist.cons_cons _ ?_))
    · have ha : ((movesR r).getD k default).piece ∈ bl := by rw [Bool.not_eq_false'] at ha; exact of_decide_eq_true ha
      refine W.skip (Kblock.normal (Kseq.go ?_))
      skip
      refine W.region ?_
      refine WL.val (OpVal.opv rfl) rfl rfl rfl ?_
      refine WL.val (OpVal.incr rfl (by omega)) rfl rfl rfl ?_
      refine WL.val (OpVal.opv rfl) rfl rfl rfl ?_
      refine WL.nil ?_
      skip
      refine Kloop.next (k + 1, a) (by dsimp only; omega) (by dsimp only; omega) ⟨rfl, rfl, rfl, rfl, rfl, rfl, rfl, rfl, trivial⟩ (by simp) ?_
      dsimp only
      rw [stay_yes hkm ha]
      exact (by repeat (first | exact List.Sublist.refl _ | refine List.Sublist.cons _ ?_ | refine List.Sublist.cons_cons _ ?_))
  refine W.exit (Kseq.exit (Kloop.exit (Kblock.here (Kseq.go (W.seq (W.seq ?_))))))
  have hkk : k = (movesR r).length := by omega
  subst hkk
  rw [hsl]
  refine W.freezeInts (.head _) (fun b hb => (hF b hb).elim) fun mr hmr => ?_
  have hno : sureB r l = true → shorter (leftP (movesR r) l) (waitV r) = false := hwno l hw
  have hc5 : (l.length : Int) ≤ r.calls → (lateV r l).2 = 7 → shorter (leftP (movesR r) l) (waitV r) = false := fun c1 c2 => by
    rcases hlate c2 with h3 | h3
    · exact hno h3
    · exact absurd c1 h3
  generalize shorter (leftP (movesR r) l) (waitV r) = sh at *
  skip
  refine W.toS [(2, .pointer (some ⟨b2, 0, none⟩)), (5, lv), (105, .bool false)] ?_ ?_
  · skip
    refine W.region ?_
    refine WL.val (OpVal.opv rfl) rfl rfl rfl ?_
    refine WL.val (OpVal.len rfl hl) rfl rfl rfl ?_
    refine WL.val (OpVal.fieldAddrB rfl) rfl rfl rfl ?_
    refine WL.val (OpVal.loadP rfl h1 (by repeat (first | exact .head _ | refine .tail _ ?_)) rfl) rfl rfl rfl ?_
    refine WL.val (OpVal.opv rfl) rfl rfl rfl ?_
    refine WL.val (OpVal.opv rfl) rfl rfl rfl ?_
    refine WL.split rfl rfl (fun g97 => ?_) (fun g97 => ?_)
    · refine WL.val (OpVal.opv rfl) rfl rfl rfl ?_
      refine WL.val (OpVal.opv rfl) rfl rfl rfl ?_
      refine WL.val (OpVal.opv rfl) rfl rfl rfl ?_
      refine WL.val (OpVal.opv rfl) rfl rfl rfl ?_
      refine WL.split rfl rfl (fun g101 => ?_) (fun g101 => ?_)
      · refine WL.val (OpVal.opv rfl) rfl rfl rfl ?_
        refine WL.val (OpVal.opv rfl) rfl rfl rfl ?_
        refine WL.val (OpVal.call rfl (fun m hm => shorter_any (hmr.le (by repeat (first | exact hm.1 | replace hm := hm.2))) (hlv.le (by repeat (first | exact hm.1 | replace hm := hm.2))))) rfl rfl rfl ?_
        refine WL.val (OpVal.opv rfl) rfl rfl rfl ?_
        refine WL.nil ?_
        skip
        exact Keff.intro ⟨rfl, rfl, congrArg (fun b => some (Value.bool b)) (by first | rfl | (simp_all; done) | skip), trivial⟩ (by simp) (by repeat (first | exact List.Sublist.refl _ | refine List.Sublist.cons _ ?_ | refine List.Sublist.cons_cons _ ?_))
      · refine WL.pass rfl rfl rfl ?_
        refine WL.pass rfl rfl rfl ?_
        refine WL.pass rfl rfl rfl ?_
        refine WL.val (OpVal.opv rfl) rfl rfl rfl ?_
        refine WL.nil ?_
        skip
        exact Keff.intro ⟨rfl, rfl, congrArg (fun b => some (Value.bool b)) (by first | rfl | (simp_all; done) | skip), trivial⟩ (by simp) (by repeat (first | exact List.Sublist.refl _ | refine List.Sublist.cons _ ?_ | refine List.Sublist.cons_cons _ ?_))
    · refine WL.pass rfl rfl rfl ?_
      refine WL.pass rfl rfl rfl ?_
      refine WL.val (OpVal.opv rfl) rfl rfl rfl ?_
      refine WL.val (OpVal.opv rfl) rfl rfl rfl ?_
      refine WL.pass rfl rfl rfl ?_
      refine WL.pass rfl rfl rfl ?_
      refine WL.pass rfl rfl rfl ?_
      refine WL.val (OpVal.opv rfl) rfl rfl rfl ?_
      refine WL.nil ?_
      skip
      exact Keff.intro ⟨rfl, rfl, congrArg (fun b => some (Value.bool b)) (by first | rfl | (simp_all; done) | skip), trivial⟩ (by simp) (by repeat (first | exact List.Sublist.refl _ | refine List.Sublist.cons _ ?_ | refine List.Sublist.cons_cons _ ?_))
  refine Kseq.go ?_
  refine W.cond rfl rfl (fun he => absurd he (by simp)) (fun _ => ?_)
  obtain ⟨d, hd⟩ : ∃ d : Nat, (d : Int) = min 3 r.calls := ⟨(min 3 r.calls).toNat, by omega⟩
  refine W.skip (Kseq.go (W.seq ?_))
  skip
  refine W.region ?_
  refine WL.val (OpVal.loadPW rfl (by assumption) (by repeat (first | exact .head _ | refine .tail _ ?_)) (by rfl)) rfl rfl rfl ?_
  refine WL.val (OpVal.fieldAddrB rfl) rfl rfl rfl ?_
  refine WL.val (OpVal.loadP rfl h1 (by repeat (first | exact .head _ | refine .tail _ ?_)) rfl) rfl rfl rfl ?_
  refine WL.val (OpVal.cast (OpVal.min2 rfl rfl) (congrArg (Value.int .i64) hd.symm)) rfl rfl rfl ?_
  refine WL.abs (OpAbs.call rfl (fun m hm => walksR_any hV.women d (b := []) (by simp) (by simp; omega) (hv'.le (by repeat (first | exact hm.1 | replace hm := hm.2))) (show IsInts m (.slice none 0 0) [] from IsArr.nil m 1 _))) rfl rfl rfl ?_
  rintro m110 v110 ⟨vs, hvs, hA⟩
  refine WL.val (OpVal.opv rfl) rfl rfl rfl ?_
  refine WL.nil ?_
  refine Kseq.go (W.seq (W.seq ?_))
  have hwf : walksFrom r.n d [] = walks r.n d := rfl
  rw [hwf] at hvs hA
  skip
  refine W.region ?_
  refine WL.val (OpVal.fieldAddrB rfl) rfl rfl rfl ?_
  refine WL.val (OpVal.loadP rfl h1 (by repeat (first | exact .head _ | refine .tail _ ?_)) rfl) rfl rfl rfl ?_
  refine WL.val (OpVal.opv rfl) rfl rfl rfl ?_
  refine WL.nil ?_
  refine Kseq.go ?_
  refine W.condD rfl rfl (fun he => ?_) (fun hne => ?_)
  · refine W.seq ?_
    refine W.region ?_
    refine WL.val (OpVal.call rfl (fun m hm => awake11_any)) rfl rfl rfl ?_
    refine WL.val (OpVal.opv rfl) rfl rfl rfl ?_
    refine WL.nil ?_
    refine Kseq.go ?_
    refine W.ret ?_; refine Kseq.ret ?_; refine ⟨.inl rfl, [_], h, ⟨.tmp rfl, trivial⟩, (by repeat (first | exact .head _ | refine .tail _ ?_)), ?_⟩
    rfl
  have hdc : d = r.calls.toNat := by omega
  have hw1' : w1 ∈ walks r.n d := by rw [hdc]; exact hw1
  have hwk : ∀ k, k < (walks r.n d).length → Walk r.n ((walks r.n d).getD k []) := fun k hk => ((mem_walks (n := r.n) (most := d) (by omega)).1 (getD_mem_nil hk)).1
  have hgood : ∃ k, k < (walks r.n d).length ∧ (sureB r ((walks r.n d).getD k []) && allB r ((walks r.n d).getD k []) (waitV r)) = true := by
    obtain ⟨k, hk, e⟩ := mem_getD_nil hw1'
    refine ⟨k, hk, ?_⟩
    rw [e, hsw1, Bool.true_and]
    unfold allB
    rw [Bool.not_eq_true', ex_no]
    intro i hi
    rcases hall1 i hi with h2 | h2
    · rw [h2]; rfl
    · rw [decide_eq_true h2]; simp
  have hwb := walksFrom_len hV.women d []
  rw [hwf] at hwb
  have hp7 : 5 ^ d ≤ 5 ^ 3 := Nat.pow_le_pow_right (by omega) (by omega)
  clear hw1' hw1
  generalize walks r.n d = all at *
  refine W.skip (Kseq.go (W.seq (W.seq ?_)))
  skip
  refine W.region ?_
  refine WL.val (OpVal.opv rfl) rfl rfl rfl ?_
  refine WL.nil ?_
  refine Kseq.go (W.block ?_)
  refine W.loopC (σ := Nat) (fun k => [(2, .pointer (some ⟨b2, 0, none⟩)), (5, lv), (18, v110), (19, .int .i64 (k : Int))]) (fun k => k ≤ all.length ∧ ∀ i, i < k → (sureB r (all.getD i []) && allB r (all.getD i []) (waitV r)) = false) (fun k => all.length - k) 0 ⟨rfl, rfl, rfl, rfl, trivial⟩ ⟨Nat.zero_le _, fun i hi => absurd hi (Nat.not_lt_zero _)⟩ ?_
  rintro k ⟨hk, hprev⟩
  refine W.seq (W.seq ?_)
  refine W.region ?_
  refine WL.val (OpVal.opv rfl) rfl rfl rfl ?_
  refine WL.val (OpVal.opv rfl) rfl rfl rfl ?_
  refine WL.val (OpVal.len rfl hA) rfl rfl rfl ?_
  refine WL.val (OpVal.opv rfl) rfl rfl rfl ?_
  refine WL.nil ?_
  refine Kseq.go ?_
  refine W.condD rfl rfl (fun hlt => ?_) (fun hge => ?_)
  · have hkl : k < all.length := by omega
    have hlk := hvs.2 k hkl
    refine W.skip (Kseq.go (W.seq (W.block (W.seq ?_))))
    refine W.toS [(2, .pointer (some ⟨b2, 0, none⟩)), (5, lv), (18, v110), (19, .int .i64 (k : Int)), (135, .bool (sureB r (all.getD k []) && allB r (all.getD k []) (waitV r)))] ?_ ?_
    · skip
      refine W.draw 13 (by kernel_rfl) (by kernel_rfl) (by kernel_rfl) rfl ?_
      refine DJ.val [] (OpVal.loadPW rfl (by assumption) (by repeat (first | exact .head _ | refine .tail _ ?_)) (by rfl)) rfl rfl rfl rfl ?_
      refine DJ.val [] (OpVal.opv rfl) rfl rfl rfl rfl ?_
      refine DJ.val [] (OpVal.opv rfl) rfl rfl rfl rfl ?_
      refine DJ.val [] (OpVal.indexAddrN rfl rfl hA hkl) rfl rfl rfl rfl ?_
      refine DJ.val [] (OpVal.loadE rfl hA (by repeat (first | exact .head _ | refine .tail _ ?_)) hkl (by omega)) rfl rfl rfl rfl ?_
      refine DJ.val [] (OpVal.call rfl (fun m hm => isSureR_any (hv'.le (by repeat (first | exact hm.1 | replace hm := hm.2))) hV (hwk k hkl) (hlk.le (by repeat (first | exact hm.1 | replace hm := hm.2))))) rfl rfl rfl rfl ?_
      refine DJ.val [] (OpVal.opv rfl) rfl rfl rfl rfl ?_
      refine DJ.splitB rfl rfl (fun g127 => ?_) (fun g127 => ?_)
      · refine DJ.val [] (OpVal.loadPW rfl (by assumption) (by repeat (first | exact .head _ | refine .tail _ ?_)) (by rfl)) rfl rfl rfl rfl ?_
        refine DJ.val [] (OpVal.opv rfl) rfl rfl rfl rfl ?_
        refine DJ.val [] (OpVal.opv rfl) rfl rfl rfl rfl ?_
        refine DJ.val [] (OpVal.indexAddrN rfl rfl hA hkl) rfl rfl rfl rfl ?_
        refine DJ.val [] (OpVal.loadE rfl hA (by repeat (first | exact .head _ | refine .tail _ ?_)) hkl (by omega)) rfl rfl rfl rfl ?_
        refine DJ.val [] (OpVal.opv rfl) rfl rfl rfl rfl ?_
        refine DJ.nil ?_
        refine WL.val (OpVal.call rfl (fun m hm => all11_any (hv'.le (by repeat (first | exact hm.1 | replace hm := hm.2))) hs hV (hlk.le (by repeat (first | exact hm.1 | replace hm := hm.2))) (hwk k hkl) (hlv.le (by repeat (first | exact hm.1 | replace hm := hm.2))))) rfl rfl rfl ?_
        refine WL.val (OpVal.opv rfl) rfl rfl rfl ?_
        refine WL.nil ?_
        skip
        exact Keff.intro ⟨rfl, rfl, rfl, rfl, congrArg (fun b => some (Value.bool b)) (by first | (rw [show sureB r (all.getD k []) = true from by assumption, Bool.true_and]; done) | (rw [show sureB r (all.getD k []) = false from by assumption, Bool.false_and]; done)), trivial⟩ (by simp) (by repeat (first | exact List.Sublist.refl _ | refine List.Sublist.cons _ ?_ | refine List.Sublist.cons_cons _ ?_))
      · refine DJ.pass rfl rfl rfl rfl ?_
        refine DJ.pass rfl rfl rfl rfl ?_
        refine DJ.pass rfl rfl rfl rfl ?_
        refine DJ.pass rfl rfl rfl rfl ?_
        refine DJ.pass rfl rfl rfl rfl ?_
        refine DJ.pass rfl rfl rfl rfl ?_
        refine DJ.nil ?_
        refine WL.pass rfl rfl rfl ?_
        refine WL.val (OpVal.opv rfl) rfl rfl rfl ?_
        refine WL.nil ?_
        skip
        exact Keff.intro ⟨rfl, rfl, rfl, rfl, congrArg (fun b => some (Value.bool b)) (by first | (rw [show sureB r (all.getD k []) = true from by assumption, Bool.true_and]; done) | (rw [show sureB r (all.getD k []) = false from by assumption, Bool.false_and]; done)), trivial⟩ (by simp) (by repeat (first | exact List.Sublist.refl _ | refine List.Sublist.cons _ ?_ | refine List.Sublist.cons_cons _ ?_))
    refine Kseq.go ?_
    refine W.cond rfl rfl (fun hb => ?_) (fun hb => ?_)
    · refine W.seq ?_
      refine W.region ?_
      refine WL.val (OpVal.call rfl (fun m hm => awake11_any)) rfl rfl rfl ?_
      refine WL.val (OpVal.opv rfl) rfl rfl rfl ?_
      refine WL.nil ?_
      refine Kseq.go ?_
      refine W.ret ?_; refine Kblock.ret (Kseq.ret (Kloop.ret (Kblock.ret (Kseq.ret ?_)))); refine ⟨.inl rfl, [_], h, ⟨.tmp rfl, trivial⟩, (by repeat (first | exact .head _ | refine .tail _ ?_)), ?_⟩
      rfl
    · refine W.skip (Kblock.normal (Kseq.go ?_))
      skip
      refine W.region ?_
      refine WL.val (OpVal.opv rfl) rfl rfl rfl ?_
      refine WL.val (OpVal.incr rfl (by omega)) rfl rfl rfl ?_
      refine WL.val (OpVal.opv rfl) rfl rfl rfl ?_
      refine WL.nil ?_
      skip
      exact Kloop.nextC (k + 1) ⟨by omega, fun i hi => by
        rcases Nat.lt_succ_iff_lt_or_eq.1 hi with h2 | rfl
        · exact hprev i h2
        · exact hb⟩ (by omega) ⟨rfl, rfl, rfl, rfl, trivial⟩ (by simp) (by repeat (first | exact List.Sublist.refl _ | refine List.Sublist.cons _ ?_ | refine List.Sublist.cons_cons _ ?_))
  · obtain ⟨i, hi, e⟩ := hgood
    have := hprev i (by omega)
    rw [e] at this; cases this
end Go.Proofs.YtdjkokpbeaapoaaGreat
