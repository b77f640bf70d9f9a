/- The statements ErrandBrings: its contract. -/
import Derived.Test.YtjligncpaeeljaaGreatT77
import Derived.Test.YtjligncpaeeljaaGreatT78
namespace Go.Proofs.YtjligncpaeeljaaGreat
open Go Go.Eng Go.RowKit

theorem pieces_brings (ms : List Move) (l : List Int) : pieces ms (bringsN ms l) = piecesB ms (fun i => brought l (ms.getD i default)) :=
  pieces_congr fun i hi => by unfold bringsN; rw [bset_bit]; simp [hi]
/-- ErrandBrings -/
theorem errandBrings_any {h : Mem} {v lv : Value} {r : Errand} {l : List Int} (hv : IsErrand h v r) (hl : IsInts h lv l) : FnV Tryz.prog 5 #[v, lv] h (.bool true) := by
  have hv' := hv
  obtain ⟨wv, pv, hov, sv, f, rfl, hW, hP, hM, hH, hS⟩ := hv
  have hlb := hl.bd
  refine FnR.val ?_
  refine FnR.of_W (n := 58) Tryz.func5 rfl rfl (Nat.le_of_ble_eq_true rfl) fun c hr hD hF => ?_
  refine W.seq ?_
  refine W.region ?_
  refine WL.box rfl rfl rfl rfl (fun b2 => ?_)
  refine WL.val (OpVal.opv rfl) rfl rfl rfl ?_
  refine WL.nil ?_
  refine Kseq.go (W.seq (W.seq ?_))
  refine W.freezeBox (.head _) (fun b hb => (hF b hb).elim) fun m1 h1 => ?_
  skip
  refine W.toS [(1, lv), (2, .pointer (some ⟨b2, 0, none⟩)), (16, .bool (!ThinE r || decide ((l.length : Int) > 16)))] ?_ ?_
  · skip
    refine W.region ?_
    refine WL.val (OpVal.loadPW rfl (by assumption) (by repeat (first | exact .head _ | refine .tail _ ?_)) (by rfl)) rfl rfl rfl ?_
    refine WL.val (OpVal.call rfl (fun m hm => thin11_any (hv'.le (by repeat (first | exact hm.1 | replace hm := hm.2))))) rfl rfl rfl ?_
    refine WL.val (OpVal.opv rfl) rfl rfl rfl ?_
    refine WL.val (OpVal.opv rfl) rfl rfl rfl ?_
    refine WL.splitB rfl rfl (fun g12 => ?_) (fun g12 => ?_)
    · refine WL.pass rfl rfl rfl ?_
      refine WL.pass rfl rfl rfl ?_
      refine WL.pass rfl rfl rfl ?_
      refine WL.val (OpVal.opv rfl) rfl rfl rfl ?_
      refine WL.nil ?_
      skip
      exact Keff.intro ⟨rfl, rfl, congrArg (fun b => some (Value.bool b)) (by simp_all), trivial⟩ (by simp) (by repeat (first | exact List.Sublist.refl _ | refine List.Sublist.cons _ ?_ | refine List.Sublist.cons_cons _ ?_))
    · refine WL.val (OpVal.opv rfl) rfl rfl rfl ?_
      refine WL.val (OpVal.len rfl (by assumption)) rfl rfl rfl ?_
      refine WL.val (OpVal.opv rfl) rfl rfl rfl ?_
      refine WL.val (OpVal.opv rfl) rfl rfl rfl ?_
      refine WL.nil ?_
      skip
      exact Keff.intro ⟨rfl, rfl, congrArg (fun b => some (Value.bool b)) (by simp_all), trivial⟩ (by simp) (by repeat (first | exact List.Sublist.refl _ | refine List.Sublist.cons _ ?_ | refine List.Sublist.cons_cons _ ?_))
  refine Kseq.go ?_
  refine W.cond rfl rfl (fun he => ?_) (fun hne => ?_)
  · refine W.seq ?_
    refine W.region ?_
    refine WL.val (OpVal.call rfl (fun m hm => awake11_any)) rfl rfl rfl ?_
    refine WL.val (OpVal.opv rfl) rfl rfl rfl ?_
    refine WL.nil ?_
    refine Kseq.go ?_
    refine W.ret ?_; refine Kseq.ret ?_; refine ⟨.inl rfl, [_], h, ⟨.tmp rfl, trivial⟩, (by repeat (first | exact .head _ | refine .tail _ ?_)), ?_⟩
    rfl
  simp only [Bool.or_eq_false_iff, Bool.not_eq_false', decide_eq_false_iff_not] at hne
  obtain ⟨hth, h16⟩ := hne
  have hs : SmE r := ThinE.sm hth
  refine W.skip (Kseq.go (W.seq ?_))
  skip
  refine W.region ?_
  refine WL.val (OpVal.loadPW rfl (by assumption) (by repeat (first | exact .head _ | refine .tail _ ?_)) (by rfl)) rfl rfl rfl ?_
  refine WL.abs (OpAbs.call rfl (fun m hm => errand_any (hv'.le (by repeat (first | exact hm.1 | replace hm := hm.2))) hs)) rfl rfl rfl ?_
  rintro m20 v20 h20
  refine WL.val (OpVal.opv rfl) rfl rfl rfl ?_
  refine WL.abs (OpAbs.call rfl (fun m hm => list11_any (hl.le (by repeat (first | exact hm.1 | replace hm := hm.2))) (by omega))) rfl rfl rfl ?_
  rintro m22 v22 h22
  refine WL.abs (OpAbs.call rfl (fun m hm => bringsT_any (h20.le (by repeat (first | exact hm.1 | replace hm := hm.2))) hs (h22.le (by repeat (first | exact hm.1 | replace hm := hm.2))))) rfl rfl rfl ?_
  rintro m23 _ ⟨cv, rfl, hcv⟩
  refine WL.val (OpVal.opv rfl) rfl rfl rfl ?_
  refine WL.val (OpVal.opv rfl) rfl rfl rfl ?_
  refine WL.val (OpVal.opv rfl) rfl rfl rfl ?_
  refine WL.val (OpVal.opv rfl) rfl rfl rfl ?_
  refine WL.val (OpVal.opv rfl) rfl rfl rfl ?_
  refine WL.nil ?_
  refine Kseq.go (W.seq (W.seq ?_))
  skip
  refine W.region ?_
  refine WL.val (OpVal.loadPW rfl (by assumption) (by repeat (first | exact .head _ | refine .tail _ ?_)) (by rfl)) rfl rfl rfl ?_
  refine WL.val (OpVal.opv rfl) rfl rfl rfl ?_
  refine WL.val (OpVal.call rfl (fun m hm => walked_any (hv'.le (by repeat (first | exact hm.1 | replace hm := hm.2))) hs (hl.le (by repeat (first | exact hm.1 | replace hm := hm.2))))) rfl rfl rfl ?_
  refine WL.val (OpVal.opv rfl) rfl rfl rfl ?_
  refine WL.nil ?_
  refine Kseq.go (W.seq ?_)
  skip
  refine W.region ?_
  refine WL.val (OpVal.opv rfl) rfl rfl rfl ?_
  refine WL.val (OpVal.opv rfl) rfl rfl rfl ?_
  refine WL.nil ?_
  refine Kseq.go ?_
  refine W.cond rfl rfl (fun he => ?_) (fun hne => ?_)
  · have he : walkedE r l ≠ 0 := by simpa using he
    rw [if_neg he] at hcv
    refine W.seq ?_
    refine W.region ?_
    refine WL.val (OpVal.opv rfl) rfl rfl rfl ?_
    refine WL.val (OpVal.opv rfl) rfl rfl rfl ?_
    refine WL.val (OpVal.cast (OpVal.opv rfl) (congrArg Value.bool (decide_eq_true rfl))) rfl rfl rfl ?_
    refine WL.val (OpVal.opv rfl) rfl rfl rfl ?_
    refine WL.val (OpVal.opv rfl) rfl rfl rfl ?_
    refine WL.val (OpVal.len rfl hcv) rfl rfl rfl ?_
    refine WL.val (OpVal.opv rfl) rfl rfl rfl ?_
    refine WL.val (OpVal.opv rfl) rfl rfl rfl ?_
    refine WL.val (OpVal.opv rfl) rfl rfl rfl ?_
    refine WL.val (OpVal.call rfl (fun m hm => awake11_any)) rfl rfl rfl ?_
    refine WL.val (OpVal.opv rfl) rfl rfl rfl ?_
    refine WL.val (OpVal.opv rfl) rfl rfl rfl ?_
    refine WL.nil ?_
    refine Kseq.go ?_
    refine W.ret ?_; refine Kseq.ret ?_; refine ⟨.inl rfl, [_], h, ⟨.tmp rfl, trivial⟩, (by repeat (first | exact .head _ | refine .tail _ ?_)), ?_⟩
    rfl
  have h0 : walkedE r l = 0 := by simpa using hne
  obtain ⟨hV, hw⟩ := walkedE_valid h0
  have hok := movesR_ok hV
  have h7 := hok.len
  rw [if_pos h0, ← pieces_brings] at hcv
  rw [h0]
  refine W.skip (Kseq.go (W.seq ?_))
  skip
  refine W.region ?_
  refine WL.val (OpVal.loadPW rfl (by assumption) (by repeat (first | exact .head _ | refine .tail _ ?_)) (by rfl)) rfl rfl rfl ?_
  refine WL.abs (OpAbs.call rfl (fun m hm => movesRef_any (hv'.le (by repeat (first | exact hm.1 | replace hm := hm.2))) hs hV)) rfl rfl rfl ?_
  rintro m43 v43 h43
  refine WL.val (OpVal.opv rfl) rfl rfl rfl ?_
  refine WL.nil ?_
  refine Kseq.go (W.seq ?_)
  skip
  refine W.region ?_
  refine WL.val (OpVal.opv rfl) rfl rfl rfl ?_
  refine WL.val (OpVal.opv rfl) rfl rfl rfl ?_
  refine WL.val (OpVal.opv rfl) rfl rfl rfl ?_
  refine WL.val (OpVal.opv rfl) rfl rfl rfl ?_
  refine WL.val (OpVal.opv rfl) rfl rfl rfl ?_
  refine WL.val (OpVal.opv rfl) rfl rfl rfl ?_
  refine WL.val (OpVal.opv rfl) rfl rfl rfl ?_
  refine WL.val (OpVal.call rfl (fun m hm => bringsR_any (h43.le (by repeat (first | exact hm.1 | replace hm := hm.2))) (by omega) (hl.le (by repeat (first | exact hm.1 | replace hm := hm.2))))) rfl rfl rfl ?_
  refine WL.abs (OpAbs.call rfl (fun m hm => piecesR_any (h43.le (by repeat (first | exact hm.1 | replace hm := hm.2))) (by omega))) rfl rfl rfl ?_
  rintro m52 v52 h52
  refine WL.val (OpVal.call rfl (fun m hm => ints11_same (hcv.le (by repeat (first | exact hm.1 | replace hm := hm.2))) (h52.le (by repeat (first | exact hm.1 | replace hm := hm.2))))) rfl rfl rfl ?_
  refine WL.val (OpVal.opv rfl) rfl rfl rfl ?_
  refine WL.val (OpVal.opv rfl) rfl rfl rfl ?_
  refine WL.val (OpVal.call rfl (fun m hm => awake11_any)) rfl rfl rfl ?_
  refine WL.val (OpVal.opv rfl) rfl rfl rfl ?_
  refine WL.val (OpVal.opv rfl) rfl rfl rfl ?_
  refine WL.nil ?_
  refine Kseq.go ?_
  refine W.ret ?_; skip; refine ⟨.inl rfl, [_], h, ⟨.tmp rfl, trivial⟩, (by repeat (first | exact .head _ | refine .tail _ ?_)), ?_⟩
  rfl
end Go.Proofs.YtjligncpaeeljaaGreat
