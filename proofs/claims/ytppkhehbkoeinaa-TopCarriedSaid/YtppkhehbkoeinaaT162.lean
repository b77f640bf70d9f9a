/- Of possertop: exchanged, carried. -/
import Derived.Test.YtppkhehbkoeinaaP49
import Derived.Test.YtppkhehbkoeinaaP25
namespace Go.Proofs.Ytppkhehbkoeinaa
open Go Go.Eng Go.RowKit

/-- exchanged -/
theorem exchanged_any {h : Mem} (a b : Int) : FnR Try.prog 64 #[vi a, vi b] h (fun m q => IsErrand m q (exX a b)) := by
  refine FnR.of_W (n := 34) Try.func64 rfl rfl (Nat.le_of_ble_eq_true rfl) fun c hr hD hF => ?_
  refine W.seq ?_; refine W.region ?_
  refine WL.alloc rfl rfl rfl (fun b4 => ?_)
  refine WL.nil ?_
  refine Kseq.go (W.seq ?_)
  refine W.region ?_; refine .val (.build2 rfl rfl) rfl rfl rfl ?_
  refine WL.alloc rfl rfl rfl (fun b5 => ?_)
  refine WL.store [_, _] rfl (.head _) rfl rfl rfl (Nat.le_of_ble_eq_true rfl) (by first | (simp [Value.cells, Value.oneCell']; done) | exact IsArr.ones hW (by omega) | exact IsArr.ones hP (by omega) | exact IsArr.ones hS (by omega) | exact IsArr.ones hH (by omega) | exact IsArr.ones hL (by omega) | exact IsArr.ones hB (by omega) | exact IsArr.ones hT (by omega) | exact IsArr.ones hm (by omega)) rfl ?_
  refine WL.nil ?_
  refine Kseq.go (W.seq ?_)
  refine W.region ?_; refine .val (.loadBW rfl (.head _) rfl) rfl rfl rfl ?_; refine .val (.build3 rfl rfl) rfl rfl rfl ?_; refine .val (.loadBW rfl (.head _) rfl) rfl rfl rfl ?_; refine .val (.build3 rfl rfl) rfl rfl rfl ?_
  refine WL.abs (OpAbs.lit [_, _, _, _, _, _] rfl (Nat.le_of_ble_eq_true rfl) rfl rfl (by simp [Value.cells]) (Nat.le_of_ble_eq_true rfl) rfl (by first | (simp [Value.oneCell']; done) | exact List.all_eq_true.1 rfl)) rfl rfl rfl ?_
  rintro m14 _ ⟨hc14, a14, rfl⟩
  refine WL.abs (OpAbs.lit [_] rfl (Nat.le_of_ble_eq_true rfl) rfl rfl (by simp [Value.cells]) (Nat.le_of_ble_eq_true rfl) rfl (by first | (simp [Value.oneCell']; done) | exact List.all_eq_true.1 rfl)) rfl rfl rfl ?_
  rintro m15 _ ⟨hc15, a15, rfl⟩
  refine .o rfl ?_; refine .val (.build2 rfl rfl) rfl rfl rfl ?_
  refine WL.abs (OpAbs.lit [_, _] rfl (Nat.le_of_ble_eq_true rfl) rfl rfl (by simp [Value.cells]) (Nat.le_of_ble_eq_true rfl) rfl (by first | (simp [Value.oneCell']; done) | exact List.all_eq_true.1 rfl)) rfl rfl rfl ?_
  rintro m18 _ ⟨hc18, a18, rfl⟩
  refine .o rfl ?_; refine .val (.build2 rfl rfl) rfl rfl rfl ?_
  refine WL.abs (OpAbs.lit [_, _, _, _] rfl (Nat.le_of_ble_eq_true rfl) rfl rfl (by simp [Value.cells]) (Nat.le_of_ble_eq_true rfl) rfl (by first | (simp [Value.oneCell']; done) | exact List.all_eq_true.1 rfl)) rfl rfl rfl ?_
  rintro m21 _ ⟨hc21, a21, rfl⟩
  refine .val (.build3 rfl rfl) rfl rfl rfl ?_
  refine WL.alloc rfl rfl rfl (fun b6 => ?_)
  refine WL.store [_, _, _] rfl (.head _) rfl rfl rfl (Nat.le_of_ble_eq_true rfl) (by first | (simp [Value.cells, Value.oneCell']; done) | exact IsArr.ones hW (by omega) | exact IsArr.ones hP (by omega) | exact IsArr.ones hS (by omega) | exact IsArr.ones hH (by omega) | exact IsArr.ones hL (by omega) | exact IsArr.ones hB (by omega) | exact IsArr.ones hT (by omega) | exact IsArr.ones hm (by omega)) rfl ?_
  refine WL.nil ?_
  refine Kseq.go (W.seq ?_)
  refine W.region ?_; refine .val (.build2 rfl rfl) rfl rfl rfl ?_
  refine WL.alloc rfl rfl rfl (fun b7 => ?_)
  refine WL.store [_, _] rfl (.head _) rfl rfl rfl (Nat.le_of_ble_eq_true rfl) (by first | (simp [Value.cells, Value.oneCell']; done) | exact IsArr.ones hW (by omega) | exact IsArr.ones hP (by omega) | exact IsArr.ones hS (by omega) | exact IsArr.ones hH (by omega) | exact IsArr.ones hL (by omega) | exact IsArr.ones hB (by omega) | exact IsArr.ones hT (by omega) | exact IsArr.ones hm (by omega)) rfl ?_
  refine WL.nil ?_
  refine Kseq.go (W.seq ?_)
  refine W.region ?_; refine .val (.build2 rfl rfl) rfl rfl rfl ?_
  refine WL.alloc rfl rfl rfl (fun b8 => ?_)
  refine WL.store [_, _] rfl (.head _) rfl rfl rfl (Nat.le_of_ble_eq_true rfl) (by first | (simp [Value.cells, Value.oneCell']; done) | exact IsArr.ones hW (by omega) | exact IsArr.ones hP (by omega) | exact IsArr.ones hS (by omega) | exact IsArr.ones hH (by omega) | exact IsArr.ones hL (by omega) | exact IsArr.ones hB (by omega) | exact IsArr.ones hT (by omega) | exact IsArr.ones hm (by omega)) rfl ?_
  refine WL.nil ?_
  refine Kseq.go (W.seq ?_)
  refine W.region ?_; refine .val (.loadBW rfl (.tail _ (.tail _ (.head _))) rfl) rfl rfl rfl ?_; refine .val (.loadBW rfl (.tail _ (.head _)) rfl) rfl rfl rfl ?_; refine .val (.loadBW rfl (.tail _ (.head _)) rfl) rfl rfl rfl ?_
  refine WL.abs (OpAbs.lit [_, _, _, _] rfl (Nat.le_of_ble_eq_true rfl) rfl rfl (by simp [Value.cells]) (Nat.le_of_ble_eq_true rfl) rfl (by first | (simp [Value.oneCell']; done) | exact List.all_eq_true.1 rfl)) rfl rfl rfl ?_
  rintro m28 _ ⟨hc28, a28, rfl⟩
  refine .val (.loadBW rfl (.head _) rfl) rfl rfl rfl ?_; refine .val (.loadBW rfl (.head _) rfl) rfl rfl rfl ?_; refine .val (.loadBW rfl (.head _) rfl) rfl rfl rfl ?_
  refine WL.abs (OpAbs.lit [_, _, _, _, _, _] rfl (Nat.le_of_ble_eq_true rfl) rfl rfl (by simp [Value.cells]) (Nat.le_of_ble_eq_true rfl) rfl (by first | (simp [Value.oneCell']; done) | exact List.all_eq_true.1 rfl)) rfl rfl rfl ?_
  rintro m32 _ ⟨hc32, a32, rfl⟩
  refine .val (.build #[.slice (some ⟨a14, 0, none⟩) 2 2, .slice (some ⟨a21, 0, none⟩) 2 2, vi 0, .slice (some ⟨a28, 0, none⟩) 2 2, .slice (some ⟨a32, 0, none⟩) 3 3, vi 0, vi 3] rfl (by kernel_rfl)) rfl rfl rfl ?_
  (refine WL.store [_, _, _, _, _, _, _] rfl (.tail _ (.tail _ (.tail _ (.tail _ (.head _))))) rfl rfl rfl (Nat.le_of_ble_eq_true rfl) (by simp [Value.cells, Value.oneCell']) rfl ?_)
  refine WL.nil ?_; refine Kseq.go ?_
  refine W.join fun mj hj => ?_
  have hWc : IsWomen mj (.slice (some ⟨a14, 0, none⟩) 2 2) (exX a b).table.women := by
    refine IsArr.le ?_ (hj _ (by simp : m14 ∈ _))
    refine (hc14.2).congr fun i j hi hj' => ?_
    have h0 : i < 2 := hi
    have h1 : i = 0 ∨ i = 1 := by omega
    have h2 : j = 0 ∨ j = 1 ∨ j = 2 := by omega
    rcases h1 with rfl | rfl <;> rcases h2 with rfl | rfl | rfl <;> rfl
  have hHc : IsRgs mj (.slice (some ⟨a28, 0, none⟩) 2 2) (exX a b).home := by
    refine IsArr.le ?_ (hj _ (by simp : m28 ∈ _))
    refine (hc28.2).congr fun i j hi hj' => ?_
    have h0 : i < 2 := hi
    have h1 : i = 0 ∨ i = 1 := by omega
    have h2 : j = 0 ∨ j = 1 := by omega
    rcases h1 with rfl | rfl <;> rcases h2 with rfl | rfl <;> rfl
  have hSc : IsRgs mj (.slice (some ⟨a32, 0, none⟩) 3 3) (exX a b).streets := by
    refine IsArr.le ?_ (hj _ (by simp : m32 ∈ _))
    refine (hc32.2).congr fun i j hi hj' => ?_
    have h0 : i < 3 := hi
    have h1 : i = 0 ∨ i = 1 ∨ i = 2 := by omega
    have h2 : j = 0 ∨ j = 1 := by omega
    rcases h1 with rfl | rfl | rfl <;> rcases h2 with rfl | rfl <;> rfl
  let F : Nat → Value := fun i => [.slice (some ⟨a15, 0, none⟩) 1 1, .slice (some ⟨a18, 0, none⟩) 2 2].getD i undef
  have hPc : IsPieces mj (.slice (some ⟨a21, 0, none⟩) 2 2) F (exX a b).table.pieces := by
    refine IsArr.le ?_ (hj _ (by simp : m21 ∈ _))
    refine (hc21.2).congr fun i j hi hj' => ?_
    have h0 : i < 2 := hi
    have h1 : i = 0 ∨ i = 1 := by omega
    have h2 : j = 0 ∨ j = 1 := by omega
    rcases h1 with rfl | rfl <;> rcases h2 with rfl | rfl <;> rfl
  have hMc : IsMarks mj F (exX a b).table.pieces := by
    intro i hi
    have h0 : i < 2 := hi
    have h1 : i = 0 ∨ i = 1 := by omega
    rcases h1 with rfl | rfl
    · exact (ints_lit (xs := [1]) hc15).le (hj _ (by simp))
    · exact (ints_lit (xs := [1, 2]) hc18).le (hj _ (by simp))
  refine W.ret ?_; skip
  refine ⟨.inl rfl, [_], mj, ⟨.agg inferInstance inferInstance rfl (.tail _ (.tail _ (.tail _ (.tail _ (.head _))))) rfl, trivial⟩, .head _, ?_⟩
  exact ⟨_, _, _, _, F, rfl, hWc, hPc, hMc, hHc, hSc⟩
theorem best_exX1 {h : Mem} {v : Value} (hv : IsErrand h v (exX 1 0)) : FnR Try.prog 19 #[v] h (fun m q => ∃ lv, q = .tuple #[lv, vi 9, vi 0] ∧ IsInts m lv [0, 1, 0]) := by
  have := bestT_any hv (exX_sm _ _)
  rwa [exX_best1.1, if_pos rfl, if_pos rfl, exX_best1.2.1, show foundC (exX 1 0) (some [0, 1, 0]) = (_, endingE (exX 1 0) [0, 1, 0]) from rfl, exX_best1.2.2] at this
theorem best_exX0 {h : Mem} {v : Value} (hv : IsErrand h v (exX 0 1)) : FnR Try.prog 19 #[v] h (fun m q => ∃ lv, q = .tuple #[lv, vi 0, vi 0] ∧ IsInts m lv []) := by
  have := bestT_any hv (exX_sm _ _)
  rwa [exX_best0.1, if_pos rfl, if_pos rfl, exX_best0.2.1, show foundC (exX 0 1) (some []) = (_, endingE (exX 0 1) []) from rfl, exX_best0.2.2] at this
/-- carried -/
theorem carriedTop_any {h : Mem} : FnV Try.prog 18 #[] h (.bool true) := by
  refine FnR.val ?_
  refine FnR.of_W (n := 61) Try.func18 rfl rfl (Nat.le_of_ble_eq_true rfl) fun c hr hD hF => ?_
  refine W.seq ?_; refine W.region ?_; refine .o rfl ?_; refine WL.nil ?_
  refine Kseq.go (W.seq ?_)
  refine W.region ?_; refine WL.abs (OpAbs.call rfl (fun m hm => exchanged_any 1 0)) rfl rfl rfl ?_
  rintro m8 v8 h8
  (refine WL.abs (OpAbs.call rfl (fun m hm => best_exX1 (h8.le (by repeat first | exact hm.1 | replace hm := hm.2)))) rfl rfl rfl ?_; rintro m9 _ ⟨l1, rfl, hl1⟩)
  iterate 7 refine .o rfl ?_
  refine WL.nil ?_
  refine Kseq.go (W.seq ?_)
  refine W.region ?_; refine WL.abs (OpAbs.call rfl (fun m hm => exchanged_any 0 1)) rfl rfl rfl ?_
  rintro m14 v14 h14
  (refine WL.abs (OpAbs.call rfl (fun m hm => best_exX0 (h14.le (by repeat first | exact hm.1 | replace hm := hm.2)))) rfl rfl rfl ?_; rintro m15 _ ⟨l4, rfl, hl4⟩)
  iterate 7 refine .o rfl ?_
  refine WL.nil ?_
  refine Kseq.go (W.seq ?_)
  refine W.region ?_
  iterate 4 refine .o rfl ?_
  refine .val (.cast (.len rfl hl1) (show _ = vi 3 from rfl)) rfl rfl rfl ?_
  iterate 4 refine .o rfl ?_
  refine .val (.indexAddrN rfl rfl hl1 (by simp)) rfl rfl rfl ?_; refine .val (.cast (.loadE rfl hl1 (by repeat constructor) (by simp) (by omega)) (show _ = vi 0 from rfl)) rfl rfl rfl ?_
  iterate 4 refine .o rfl ?_
  refine .val (.indexAddrN rfl rfl hl1 (by simp)) rfl rfl rfl ?_; refine .val (.cast (.loadE rfl hl1 (by repeat constructor) (by simp) (by omega)) (show _ = vi 1 from rfl)) rfl rfl rfl ?_
  iterate 4 refine .o rfl ?_
  refine .val (.indexAddrN rfl rfl hl1 (by simp)) rfl rfl rfl ?_; refine .val (.cast (.loadE rfl hl1 (by repeat constructor) (by simp) (by omega)) (show _ = vi 0 from rfl)) rfl rfl rfl ?_
  iterate 12 refine .o rfl ?_
  refine .val (.cast (.len rfl hl4) (show _ = vi 0 from rfl)) rfl rfl rfl ?_
  iterate 7 refine .o rfl ?_
  refine WL.nil ?_; refine Kseq.go ?_
  refine W.ret ?_; refine ⟨.inl rfl, [_], h, ⟨.tmp rfl, trivial⟩, (by repeat constructor), ?_⟩
  rfl
end Go.Proofs.Ytppkhehbkoeinaa
