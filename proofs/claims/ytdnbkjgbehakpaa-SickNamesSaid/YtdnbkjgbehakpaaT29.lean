/- The program's functions Leave, Play, ProveTruth: their contracts. -/
import Derived.Test.YtdnbkjgbehakpaaT28
namespace Go.Proofs.Ytdnbkjgbehakpaa
open Go Go.Eng Go.RowKit

/-- ProveTruth -/
theorem proveT_any {h : Mem} {v lv : Value} {t : Table} {l : List Int} (hv : IsTable h v t) (hs : Sm t) (hl : IsInts h lv l) : FnV Try.prog 49 #[v, lv] h (.bool (decide (fault t = 0) && (areOwners t l && isTruthP t l))) := by
  have hv' := hv
  obtain ⟨wv, pv, f, rfl, hW, hP, hM⟩ := hv
  refine FnR.val ?_
  refine FnR.of_W (n := 26) Try.func49 rfl rfl (Nat.le_of_ble_eq_true rfl) fun c hr hD hF => ?_
  refine W.seq ?_; refine W.region ?_
  refine WL.box rfl rfl rfl rfl (fun b2 => ?_)
  refine .o rfl ?_; refine WL.nil ?_
  refine Kseq.go (W.seq (W.seq ?_))
  refine W.freezeBox (.head _) (fun b hb => (hF b hb).elim) fun m2 h2 => ?_
  refine W.region ?_; refine .val (.loadPW rfl (by assumption) (by repeat constructor) (by rfl)) rfl rfl rfl ?_; refine .val (.call rfl (fun m hm => check_any (hv'.le (by repeat first | exact hm.1 | replace hm := hm.2)) hs)) rfl rfl rfl ?_; refine .o rfl ?_; refine WL.nil ?_; refine Kseq.go ?_
  refine W.cond rfl rfl (fun he => ?_) (fun hne => ?_)
  · have he' : fault t ≠ 0 := by simpa using he
    refine W.seq ?_; refine W.region ?_; refine .o rfl ?_; refine WL.nil ?_; refine Kseq.go ?_
    refine W.ret ?_; refine Kseq.ret ?_; refine ⟨.inl rfl, [_], h, ⟨.tmp rfl, trivial⟩, (by repeat constructor), ?_⟩
    simp [he']; rfl
  have hf0 : fault t = 0 := by simpa using hne
  have hVa := fault_zero.1 hf0
  refine W.skip (Kseq.go (W.seq ?_))
  refine W.region ?_; refine .val (.loadPW rfl (by assumption) (by repeat constructor) (by rfl)) rfl rfl rfl ?_; refine .o rfl ?_; refine WL.abs (OpAbs.call rfl (fun m hm => listed_any (hv'.le (by repeat first | exact hm.1 | replace hm := hm.2)) hs hVa.pieces (hl.le (by repeat first | exact hm.1 | replace hm := hm.2)))) rfl rfl rfl ?_
  rintro m13 _ ⟨q, hq7, rfl, hq⟩
  have hqs : (q.map vi).toArray.size = 7 := by rw [List.size_toArray, List.length_map]; exact hq7
  iterate 3 refine .o rfl ?_
  refine WL.alloc rfl rfl rfl (fun b5 => ?_)
  (refine WL.storeAll rfl (.head _) rfl rfl hqs (by rfl) (by simp [Value.oneCell']) ?_)
  refine .o rfl ?_; refine WL.nil ?_
  refine Kseq.go (W.seq ?_)
  refine W.draw 8 (by kernel_rfl) (by kernel_rfl) (by kernel_rfl) rfl ?_; refine .val [] (.opv rfl) rfl rfl rfl rfl ?_; refine .val [] (.opv rfl) rfl rfl rfl rfl ?_
  refine DJ.splitB rfl rfl (fun hA => ?_) (fun hA => ?_)
  · have ho := owns_of hA hVa.pieces
    cases hq hA
    refine .val [] (.loadPW rfl (by assumption) (by repeat constructor) (by rfl)) rfl rfl rfl rfl ?_; refine .val [] (.loadBW rfl (.head _) hqs) rfl rfl rfl rfl ?_; refine DJ.abs (A := fun m r => IsInts m r (wrongP t l)) [] (OpAbs.call rfl (fun m hm => wrong_any (hv'.le (by repeat first | exact hm.1 | replace hm := hm.2)) hs ho)) rfl rfl rfl rfl ?_
    refine DJ.val [(20, fun m r => IsInts m r (wrongP t l))] (fun m20 v20 h20 => OpVal.len rfl (by assumption)) rfl rfl rfl rfl ?_ (hG := ⟨(by repeat constructor), rfl, trivial⟩)
    refine .val [] (.fieldAddrB rfl) rfl rfl rfl rfl ?_; refine .val [] (.loadP rfl (by assumption) (by repeat constructor) rfl) rfl rfl rfl rfl ?_; refine DJ.nil ?_
    rintro m20 v20 h20
    iterate 3 refine .o rfl ?_
    refine WL.nil ?_; refine Kseq.go ?_
    refine W.ret ?_; refine ⟨.inl rfl, [_], h, ⟨.tmp rfl, trivial⟩, (by repeat constructor), ?_⟩
    simp [hf0, hA, isTruthP]; rfl
  · refine DJ.pass rfl rfl rfl rfl ?_
    refine DJ.pass rfl rfl rfl rfl ?_; refine DJ.pass rfl rfl rfl rfl ?_; refine DJ.pass rfl rfl rfl rfl ?_; refine DJ.pass rfl rfl rfl rfl ?_; refine DJ.pass rfl rfl rfl rfl ?_; refine DJ.nil ?_; refine WL.pass rfl rfl rfl ?_
    iterate 2 refine .o rfl ?_
    refine WL.nil ?_; refine Kseq.go ?_
    refine W.ret ?_; refine ⟨.inl rfl, [_], h, ⟨.tmp rfl, trivial⟩, (by repeat constructor), ?_⟩
    simp [hA]; rfl
end Go.Proofs.Ytdnbkjgbehakpaa
