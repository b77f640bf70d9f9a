/- The reference's functions of chapter 6: At, Row, Boil; the statement SickBoils. -/
import Derived.Test.YtdnbkjgbehakpaaGreatT147
import Derived.Test.YtdnbkjgbehakpaaGreatT125
namespace Go.Proofs.YtdnbkjgbehakpaaGreat
open Go Go.Eng Go.RowKit

def rowTo (x : List Int) (hour : Int) (k : Nat) : List Boil := (List.range k).map fun i => ⟨x.getD i 0, hour + (i : Int)⟩
theorem rowTo_succ (x : List Int) (hour : Int) (k : Nat) : (rowTo x hour (k + 1)).map bv2 = (rowTo x hour k).map bv2 ++ [bv2 ⟨x.getD k 0, hour + (k : Int)⟩] := by
  unfold rowTo
  rw [List.range_succ, List.map_append, List.map_append]; rfl
/-- Row -/
theorem rowR_any {h : Mem} {lv : Value} {x : List Int} {hour : Int} (h0 : 0 ≤ hour ∧ hour ≤ 1000) (hl : IsInts h lv x) (hx : x.length ≤ 1000) : FnR Tryz.prog 61 #[lv, vi hour] h (fun m q => IsBoils m q (rowL x hour)) := by
  refine FnR.of_W (n := 25) Tryz.func61 rfl rfl (Nat.le_of_ble_eq_true rfl) fun c hr hD hF => ?_
  refine W.seq ?_; refine W.region ?_; refine .o rfl ?_; refine WL.nil ?_
  refine Kseq.go (W.seq ?_)
  refine W.region ?_; refine .o rfl ?_; refine WL.nil ?_
  refine Kseq.go (W.seq (W.seq ?_))
  refine W.region ?_; refine .o rfl ?_; refine WL.nil ?_
  refine Kseq.go (W.block ?_)
  refine W.nilRow 81 2 ?_; refine W.loop (σ := Nat × Value) (fun s => [(0, lv), (1, vi hour), (5, s.2), (6, vi (s.1 : Int))]) (fun _ => [h]) (fun s => [kr 81 2 s.2 ((rowTo x hour s.1).map bv2)]) (fun s => s.1 ≤ x.length) (fun s => x.length - s.1) (0, .slice none 0 0) ⟨rfl, rfl, rfl, rfl, trivial⟩ (by simp) (.refl _) (Nat.zero_le _) ?_
  rintro ⟨k, a⟩ hk
  dsimp only at hk ⊢
  have hN : ((rowTo x hour k).map bv2).length = k := by simp [rowTo]
  refine W.seq (W.seq ?_)
  refine W.region ?_
  iterate 2 refine .o rfl ?_
  refine .val (.len rfl hl) rfl rfl rfl ?_; refine .o rfl ?_; refine WL.nil ?_; refine Kseq.go ?_
  refine W.condD rfl rfl (fun hlt => ?_) (fun hge => ?_)
  · have hkl : k < x.length := by omega
    have ht := rowTo_succ x hour k
    refine W.skip (Kseq.go (W.seq (W.block ?_)))
    refine W.region ?_
    iterate 3 refine .o rfl ?_
    refine .val (.indexAddrN rfl rfl hl hkl) rfl rfl rfl ?_; refine .val (.loadE rfl hl (by repeat constructor) hkl (by omega)) rfl rfl rfl ?_
    iterate 2 refine .o rfl ?_
    refine .val (.add rfl rfl (by omega) (by omega)) rfl rfl rfl ?_; refine .val (.build2 rfl rfl) rfl rfl rfl ?_; refine WL.abs (OpAbs.mono (OpAbs.lit [vi (x.getD k 0), vi (hour + (k : Int))] rfl (Nat.le_of_ble_eq_true rfl) rfl rfl (by simp [Value.cells]) (Nat.le_of_ble_eq_true rfl) rfl (by simp [Value.oneCell'])) (fun m' v' h' => h'.1)) rfl rfl rfl ?_
    rintro m22 v22 h22
    (refine WL.appK (bv2 ⟨x.getD k 0, hour + (k : Int)⟩) rfl (fun _ => .head _) rfl h22 (by repeat constructor) rfl rfl (by omega) (by omega) (Nat.le_of_ble_eq_true rfl) rfl rfl rfl ?_; intro a23 c23)
    refine .o rfl ?_; refine WL.nil ?_
    refine Kblock.normal (Kseq.go ?_)
    refine W.region ?_; refine .o rfl ?_; refine .val (.incr rfl (by omega)) rfl rfl rfl ?_; refine .o rfl ?_; refine WL.nil ?_
    refine Kloop.next (k + 1, .slice a23 (((rowTo x hour k).map bv2).length + 1) c23) (by dsimp only; omega) (by dsimp only; omega) ⟨rfl, rfl, rfl, rfl, trivial⟩ (by simp) ?_
    dsimp only
    rw [ht]
    exact (by repeat first | exact .refl _ | refine .cons _ ?_)
  refine W.exit (Kseq.exit (Kloop.exit (Kblock.here (Kseq.go (W.seq ?_)))))
  have hkk : k = x.length := by omega
  subst hkk
  refine W.freezeK (.head _) (fun b hb => (hF b hb).elim) (by omega) (fun u hu => by obtain ⟨w, _, rfl⟩ := List.mem_map.1 hu; rfl) (fun u hu => by obtain ⟨w, _, rfl⟩ := List.mem_map.1 hu; simp [bv2, Value.cells, Value.oneCell']) fun m3 hm3 => ?_
  refine W.region ?_
  iterate 2 refine .o rfl ?_
  refine WL.nil ?_; refine Kseq.go ?_
  refine W.ret ?_; refine ⟨.inl rfl, [_], m3, ⟨.tmp rfl, trivial⟩, (by repeat constructor), ?_⟩
  exact boils_of hm3
end Go.Proofs.YtdnbkjgbehakpaaGreat
