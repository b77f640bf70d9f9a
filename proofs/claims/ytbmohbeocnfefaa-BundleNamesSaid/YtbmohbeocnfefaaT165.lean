/- Chapter 3: the examples' table, rows of it one's own. -/
import Derived.Test.YtbmohbeocnfefaaT7
import Derived.Test.YtbmohbeocnfefaaE21
namespace Go.Proofs.Ytbmohbeocnfefaa
open Go Go.Eng Go.RowKit

theorem four_marks {m : Mem} {F0 F1 F2 F3 : Value} {t : Table} (hl : t.pieces.length = 4) {x0 x1 x2 x3 : List Int} (e : t.pieces.map (·.marks) = [x0, x1, x2, x3]) (h0 : IsInts m F0 x0) (h1 : IsInts m F1 x1) (h2 : IsInts m F2 x2) (h3 : IsInts m F3 x3) : IsMarks m (fun i => [F0, F1, F2, F3].getD i undef) t.pieces := by
  obtain ⟨w, ps, k⟩ := t
  match ps, hl, e with
  | [p0, p1, p2, p3], _, e =>
    simp only [List.map_cons, List.map_nil, List.cons.injEq, and_true] at e
    obtain ⟨rfl, rfl, rfl, rfl⟩ := e
    intro i hi
    have h1' : i = 0 ∨ i = 1 ∨ i = 2 ∨ i = 3 := by simp at hi; omega
    rcases h1' with rfl | rfl | rfl | rfl <;> assumption
/-- three, with rows -/
theorem threeB_any (first last wrong : Int) : FnM Try.prog 13 #[vi first, vi last, vi wrong] [] [] (fun q Ms' μ' => ∃ m b b2 F0 F1 F2 F3, Ms' = [m] ∧ μ' = [.row 53 2 (.slice (some ⟨b2, 0, none⟩) 4 4) 4 [F0, vi 0, F1, vi 0, F2, vi 1, F3, vi 1], .row 56 3 (.slice (some ⟨b, 0, none⟩) 3 3) 3 [vi 1, vi first, vi first, vi 1, vi 1, vi 2, vi 2, vi last, vi last]] ∧ q = .agg #[.slice (some ⟨b, 0, none⟩) 3 3, .slice (some ⟨b2, 0, none⟩) 4 4, vi wrong] ∧ IsInts m F0 [1] ∧ IsInts m F1 [1, 2] ∧ IsInts m F2 [1] ∧ IsInts m F3 [2]) := by
  refine FnM.of_W (n := 29) Try.func13 rfl rfl (Nat.le_of_ble_eq_true rfl) rfl fun c hr hD hF => ?_
  skip
  refine W.seq ?_
  refine W.region ?_
  refine WL.alloc rfl rfl rfl (fun b6 => ?_)
  refine WL.nil ?_
  refine Kseq.go (W.seq ?_)
  skip
  refine W.region ?_
  refine WL.val (OpVal.opv rfl) rfl rfl rfl ?_
  refine WL.val (OpVal.opv rfl) rfl rfl rfl ?_
  refine WL.val (OpVal.call rfl (fun m hm => between_any _ _)) rfl rfl rfl ?_
  refine WL.val (OpVal.build3 rfl rfl) rfl rfl rfl ?_
  refine WL.val (OpVal.call rfl (fun m hm => between_any _ _)) rfl rfl rfl ?_
  refine WL.val (OpVal.build3 rfl rfl) rfl rfl rfl ?_
  refine WL.val (OpVal.opv rfl) rfl rfl rfl ?_
  refine WL.val (OpVal.opv rfl) rfl rfl rfl ?_
  refine WL.val (OpVal.call rfl (fun m hm => between_any _ _)) rfl rfl rfl ?_
  refine WL.val (OpVal.build3 rfl rfl) rfl rfl rfl ?_
  (refine WL.lit (vs := [.agg #[vi 1, vi first, vi first], .agg #[vi 1, vi 1, vi 2], .agg #[vi 2, vi last, vi last]]) [vi 1, vi first, vi first, vi 1, vi 1, vi 2, vi 2, vi last, vi last] rfl (Nat.le_of_ble_eq_true rfl) rfl rfl (by simp [Value.cells]) (Nat.le_of_ble_eq_true rfl) rfl rfl rfl rfl (fun b17 => ?_))
  refine WL.abs (OpAbs.lit [_] rfl (Nat.le_of_ble_eq_true rfl) rfl rfl (by simp [Value.cells]) (Nat.le_of_ble_eq_true rfl) rfl (by first | (simp [Value.oneCell']; done) | exact List.all_eq_true.1 rfl)) rfl rfl rfl ?_
  rintro m18 _ ⟨hc18, a18, rfl⟩
  refine WL.val (OpVal.build2 rfl rfl) rfl rfl rfl ?_
  refine WL.abs (OpAbs.lit [_, _] rfl (Nat.le_of_ble_eq_true rfl) rfl rfl (by simp [Value.cells]) (Nat.le_of_ble_eq_true rfl) rfl (by first | (simp [Value.oneCell']; done) | exact List.all_eq_true.1 rfl)) rfl rfl rfl ?_
  rintro m20 _ ⟨hc20, a20, rfl⟩
  refine WL.val (OpVal.build2 rfl rfl) rfl rfl rfl ?_
  refine WL.abs (OpAbs.lit [_] rfl (Nat.le_of_ble_eq_true rfl) rfl rfl (by simp [Value.cells]) (Nat.le_of_ble_eq_true rfl) rfl (by first | (simp [Value.oneCell']; done) | exact List.all_eq_true.1 rfl)) rfl rfl rfl ?_
  rintro m22 _ ⟨hc22, a22, rfl⟩
  refine WL.val (OpVal.build2 rfl rfl) rfl rfl rfl ?_
  refine WL.abs (OpAbs.lit [_] rfl (Nat.le_of_ble_eq_true rfl) rfl rfl (by simp [Value.cells]) (Nat.le_of_ble_eq_true rfl) rfl (by first | (simp [Value.oneCell']; done) | exact List.all_eq_true.1 rfl)) rfl rfl rfl ?_
  rintro m24 _ ⟨hc24, a24, rfl⟩
  refine WL.val (OpVal.build2 rfl rfl) rfl rfl rfl ?_
  (refine WL.lit (vs := [.agg #[.slice (some ⟨a18, 0, none⟩) 1 1, vi 0], .agg #[.slice (some ⟨a20, 0, none⟩) 2 2, vi 0], .agg #[.slice (some ⟨a22, 0, none⟩) 1 1, vi 1], .agg #[.slice (some ⟨a24, 0, none⟩) 1 1, vi 1]]) [.slice (some ⟨a18, 0, none⟩) 1 1, vi 0, .slice (some ⟨a20, 0, none⟩) 2 2, vi 0, .slice (some ⟨a22, 0, none⟩) 1 1, vi 1, .slice (some ⟨a24, 0, none⟩) 1 1, vi 1] rfl (Nat.le_of_ble_eq_true rfl) rfl rfl (by simp [Value.cells]) (Nat.le_of_ble_eq_true rfl) rfl rfl rfl rfl (fun b26 => ?_))
  refine WL.val (OpVal.opv rfl) rfl rfl rfl ?_
  refine WL.val (OpVal.build #[.slice (some ⟨b17, 0, none⟩) 3 3, .slice (some ⟨b26, 0, none⟩) 4 4, vi wrong] rfl (by kernel_rfl)) rfl rfl rfl ?_
  (refine WL.store [_, _, _] rfl (.tail _ (.tail _ (.head _))) rfl rfl rfl (Nat.le_of_ble_eq_true rfl) (by simp [Value.cells, Value.oneCell']) rfl ?_)
  refine WL.nil ?_
  refine Kseq.go ?_
  refine W.join fun mj hj => ?_
  refine W.ret ?_; skip
  refine ⟨.inl rfl, [_], [mj], [.row 53 2 (.slice (some ⟨b26, 0, none⟩) 4 4) 4 [.slice (some ⟨a18, 0, none⟩) 1 1, vi 0, .slice (some ⟨a20, 0, none⟩) 2 2, vi 0, .slice (some ⟨a22, 0, none⟩) 1 1, vi 1, .slice (some ⟨a24, 0, none⟩) 1 1, vi 1], .row 56 3 (.slice (some ⟨b17, 0, none⟩) 3 3) 3 [vi 1, vi first, vi first, vi 1, vi 1, vi 2, vi 2, vi last, vi last]], ⟨.agg inferInstance inferInstance rfl (.tail _ (.tail _ (.head _))) rfl, trivial⟩, ?_, by simp, .cons_cons _ (.cons_cons _ (List.nil_sublist _)), by simp [markOf]⟩
  exact ⟨mj, b17, b26, _, _, _, _, rfl, rfl, rfl, (ints_lit (xs := [1]) hc18).le (hj _ (by simp)), (ints_lit (xs := [1, 2]) hc20).le (hj _ (by simp)), (ints_lit (xs := [1]) hc22).le (hj _ (by simp)), (ints_lit (xs := [2]) hc24).le (hj _ (by simp))⟩
/-- three, with rows -/
theorem threeP_any (first last wrong : Int) : FnM Try.prog 13 #[vi first, vi last, vi wrong] [] [] (fun q Ms' μ' => ∃ m b wv F0 F1 F2 F3, Ms' = [m] ∧ μ' = [.row 53 2 (.slice (some ⟨b, 0, none⟩) 4 4) 4 [F0, vi 0, F1, vi 0, F2, vi 1, F3, vi 1]] ∧ q = .agg #[wv, .slice (some ⟨b, 0, none⟩) 4 4, vi wrong] ∧ IsWomen m wv (threeT first last wrong).women ∧ IsInts m F0 [1] ∧ IsInts m F1 [1, 2] ∧ IsInts m F2 [1] ∧ IsInts m F3 [2]) := by
  refine FnM.of_W (n := 29) Try.func13 rfl rfl (Nat.le_of_ble_eq_true rfl) rfl fun c hr hD hF => ?_
  skip
  refine W.seq ?_
  refine W.region ?_
  refine WL.alloc rfl rfl rfl (fun b6 => ?_)
  refine WL.nil ?_
  refine Kseq.go (W.seq ?_)
  skip
  refine W.region ?_
  refine WL.val (OpVal.opv rfl) rfl rfl rfl ?_
  refine WL.val (OpVal.opv rfl) rfl rfl rfl ?_
  refine WL.val (OpVal.call rfl (fun m hm => between_any _ _)) rfl rfl rfl ?_
  refine WL.val (OpVal.build3 rfl rfl) rfl rfl rfl ?_
  refine WL.val (OpVal.call rfl (fun m hm => between_any _ _)) rfl rfl rfl ?_
  refine WL.val (OpVal.build3 rfl rfl) rfl rfl rfl ?_
  refine WL.val (OpVal.opv rfl) rfl rfl rfl ?_
  refine WL.val (OpVal.opv rfl) rfl rfl rfl ?_
  refine WL.val (OpVal.call rfl (fun m hm => between_any _ _)) rfl rfl rfl ?_
  refine WL.val (OpVal.build3 rfl rfl) rfl rfl rfl ?_
  refine WL.abs (OpAbs.lit [_, _, _, _, _, _, _, _, _] rfl (Nat.le_of_ble_eq_true rfl) rfl rfl (by simp [Value.cells]) (Nat.le_of_ble_eq_true rfl) rfl (by first | (simp [Value.oneCell']; done) | exact List.all_eq_true.1 rfl)) rfl rfl rfl ?_
  rintro m17 _ ⟨hc17, a17, rfl⟩
  refine WL.abs (OpAbs.lit [_] rfl (Nat.le_of_ble_eq_true rfl) rfl rfl (by simp [Value.cells]) (Nat.le_of_ble_eq_true rfl) rfl (by first | (simp [Value.oneCell']; done) | exact List.all_eq_true.1 rfl)) rfl rfl rfl ?_
  rintro m18 _ ⟨hc18, a18, rfl⟩
  refine WL.val (OpVal.build2 rfl rfl) rfl rfl rfl ?_
  refine WL.abs (OpAbs.lit [_, _] rfl (Nat.le_of_ble_eq_true rfl) rfl rfl (by simp [Value.cells]) (Nat.le_of_ble_eq_true rfl) rfl (by first | (simp [Value.oneCell']; done) | exact List.all_eq_true.1 rfl)) rfl rfl rfl ?_
  rintro m20 _ ⟨hc20, a20, rfl⟩
  refine WL.val (OpVal.build2 rfl rfl) rfl rfl rfl ?_
  refine WL.abs (OpAbs.lit [_] rfl (Nat.le_of_ble_eq_true rfl) rfl rfl (by simp [Value.cells]) (Nat.le_of_ble_eq_true rfl) rfl (by first | (simp [Value.oneCell']; done) | exact List.all_eq_true.1 rfl)) rfl rfl rfl ?_
  rintro m22 _ ⟨hc22, a22, rfl⟩
  refine WL.val (OpVal.build2 rfl rfl) rfl rfl rfl ?_
  refine WL.abs (OpAbs.lit [_] rfl (Nat.le_of_ble_eq_true rfl) rfl rfl (by simp [Value.cells]) (Nat.le_of_ble_eq_true rfl) rfl (by first | (simp [Value.oneCell']; done) | exact List.all_eq_true.1 rfl)) rfl rfl rfl ?_
  rintro m24 _ ⟨hc24, a24, rfl⟩
  refine WL.val (OpVal.build2 rfl rfl) rfl rfl rfl ?_
  (refine WL.lit (vs := [.agg #[.slice (some ⟨a18, 0, none⟩) 1 1, vi 0], .agg #[.slice (some ⟨a20, 0, none⟩) 2 2, vi 0], .agg #[.slice (some ⟨a22, 0, none⟩) 1 1, vi 1], .agg #[.slice (some ⟨a24, 0, none⟩) 1 1, vi 1]]) [.slice (some ⟨a18, 0, none⟩) 1 1, vi 0, .slice (some ⟨a20, 0, none⟩) 2 2, vi 0, .slice (some ⟨a22, 0, none⟩) 1 1, vi 1, .slice (some ⟨a24, 0, none⟩) 1 1, vi 1] rfl (Nat.le_of_ble_eq_true rfl) rfl rfl (by simp [Value.cells]) (Nat.le_of_ble_eq_true rfl) rfl rfl rfl rfl (fun b26 => ?_))
  refine WL.val (OpVal.opv rfl) rfl rfl rfl ?_
  refine WL.val (OpVal.build #[.slice (some ⟨a17, 0, none⟩) 3 3, .slice (some ⟨b26, 0, none⟩) 4 4, vi wrong] rfl (by kernel_rfl)) rfl rfl rfl ?_
  (refine WL.store [_, _, _] rfl (.tail _ (.head _)) rfl rfl rfl (Nat.le_of_ble_eq_true rfl) (by simp [Value.cells, Value.oneCell']) rfl ?_)
  refine WL.nil ?_
  refine Kseq.go ?_
  refine W.join fun mj hj => ?_
  have hWo : IsWomen mj (.slice (some ⟨a17, 0, none⟩) 3 3) (threeT first last wrong).women := by
    refine ((hc17.2).congr fun i j hi hj => ?_).le (hj _ (by simp))
    have h0 : i < 3 := hi
    have h1 : i = 0 ∨ i = 1 ∨ i = 2 := by omega
    have h2 : j = 0 ∨ j = 1 ∨ j = 2 := by omega
    rcases h1 with rfl | rfl | rfl <;> rcases h2 with rfl | rfl | rfl <;> rfl
  refine W.ret ?_; skip
  refine ⟨.inl rfl, [_], [mj], [.row 53 2 (.slice (some ⟨b26, 0, none⟩) 4 4) 4 [.slice (some ⟨a18, 0, none⟩) 1 1, vi 0, .slice (some ⟨a20, 0, none⟩) 2 2, vi 0, .slice (some ⟨a22, 0, none⟩) 1 1, vi 1, .slice (some ⟨a24, 0, none⟩) 1 1, vi 1]], ⟨.agg inferInstance inferInstance rfl (.tail _ (.head _)) rfl, trivial⟩, ?_, by simp, .cons_cons _ (List.nil_sublist _), by simp [markOf]⟩
  exact ⟨mj, b26, _, _, _, _, _, rfl, rfl, rfl, hWo, (ints_lit (xs := [1]) hc18).le (hj _ (by simp)), (ints_lit (xs := [1, 2]) hc20).le (hj _ (by simp)), (ints_lit (xs := [1]) hc22).le (hj _ (by simp)), (ints_lit (xs := [2]) hc24).le (hj _ (by simp))⟩
/-- three, with rows -/
theorem threeW_any (first last wrong : Int) : FnM Try.prog 13 #[vi first, vi last, vi wrong] [] [] (fun q Ms' μ' => ∃ m b pv f, Ms' = [m] ∧ μ' = [.row 56 3 (.slice (some ⟨b, 0, none⟩) 3 3) 3 [vi 1, vi first, vi first, vi 1, vi 1, vi 2, vi 2, vi last, vi last]] ∧ q = .agg #[.slice (some ⟨b, 0, none⟩) 3 3, pv, vi wrong] ∧ IsPieces m pv f (threeT first last wrong).pieces ∧ IsMarks m f (threeT first last wrong).pieces) := by
  refine FnM.of_W (n := 29) Try.func13 rfl rfl (Nat.le_of_ble_eq_true rfl) rfl fun c hr hD hF => ?_
  skip
  refine W.seq ?_
  refine W.region ?_
  refine WL.alloc rfl rfl rfl (fun b6 => ?_)
  refine WL.nil ?_
  refine Kseq.go (W.seq ?_)
  skip
  refine W.region ?_
  refine WL.val (OpVal.opv rfl) rfl rfl rfl ?_
  refine WL.val (OpVal.opv rfl) rfl rfl rfl ?_
  refine WL.val (OpVal.call rfl (fun m hm => between_any _ _)) rfl rfl rfl ?_
  refine WL.val (OpVal.build3 rfl rfl) rfl rfl rfl ?_
  refine WL.val (OpVal.call rfl (fun m hm => between_any _ _)) rfl rfl rfl ?_
  refine WL.val (OpVal.build3 rfl rfl) rfl rfl rfl ?_
  refine WL.val (OpVal.opv rfl) rfl rfl rfl ?_
  refine WL.val (OpVal.opv rfl) rfl rfl rfl ?_
  refine WL.val (OpVal.call rfl (fun m hm => between_any _ _)) rfl rfl rfl ?_
  refine WL.val (OpVal.build3 rfl rfl) rfl rfl rfl ?_
  (refine WL.lit (vs := [.agg #[vi 1, vi first, vi first], .agg #[vi 1, vi 1, vi 2], .agg #[vi 2, vi last, vi last]]) [vi 1, vi first, vi first, vi 1, vi 1, vi 2, vi 2, vi last, vi last] rfl (Nat.le_of_ble_eq_true rfl) rfl rfl (by simp [Value.cells]) (Nat.le_of_ble_eq_true rfl) rfl rfl rfl rfl (fun b17 => ?_))
  refine WL.abs (OpAbs.lit [_] rfl (Nat.le_of_ble_eq_true rfl) rfl rfl (by simp [Value.cells]) (Nat.le_of_ble_eq_true rfl) rfl (by first | (simp [Value.oneCell']; done) | exact List.all_eq_true.1 rfl)) rfl rfl rfl ?_
  rintro m18 _ ⟨hc18, a18, rfl⟩
  refine WL.val (OpVal.build2 rfl rfl) rfl rfl rfl ?_
  refine WL.abs (OpAbs.lit [_, _] rfl (Nat.le_of_ble_eq_true rfl) rfl rfl (by simp [Value.cells]) (Nat.le_of_ble_eq_true rfl) rfl (by first | (simp [Value.oneCell']; done) | exact List.all_eq_true.1 rfl)) rfl rfl rfl ?_
  rintro m20 _ ⟨hc20, a20, rfl⟩
  refine WL.val (OpVal.build2 rfl rfl) rfl rfl rfl ?_
  refine WL.abs (OpAbs.lit [_] rfl (Nat.le_of_ble_eq_true rfl) rfl rfl (by simp [Value.cells]) (Nat.le_of_ble_eq_true rfl) rfl (by first | (simp [Value.oneCell']; done) | exact List.all_eq_true.1 rfl)) rfl rfl rfl ?_
  rintro m22 _ ⟨hc22, a22, rfl⟩
  refine WL.val (OpVal.build2 rfl rfl) rfl rfl rfl ?_
  refine WL.abs (OpAbs.lit [_] rfl (Nat.le_of_ble_eq_true rfl) rfl rfl (by simp [Value.cells]) (Nat.le_of_ble_eq_true rfl) rfl (by first | (simp [Value.oneCell']; done) | exact List.all_eq_true.1 rfl)) rfl rfl rfl ?_
  rintro m24 _ ⟨hc24, a24, rfl⟩
  refine WL.val (OpVal.build2 rfl rfl) rfl rfl rfl ?_
  refine WL.abs (OpAbs.lit [_, _, _, _, _, _, _, _] rfl (Nat.le_of_ble_eq_true rfl) rfl rfl (by simp [Value.cells]) (Nat.le_of_ble_eq_true rfl) rfl (by first | (simp [Value.oneCell']; done) | exact List.all_eq_true.1 rfl)) rfl rfl rfl ?_
  rintro m26 _ ⟨hc26, a26, rfl⟩
  refine WL.val (OpVal.opv rfl) rfl rfl rfl ?_
  refine WL.val (OpVal.build #[.slice (some ⟨b17, 0, none⟩) 3 3, .slice (some ⟨a26, 0, none⟩) 4 4, vi wrong] rfl (by kernel_rfl)) rfl rfl rfl ?_
  (refine WL.store [_, _, _] rfl (.tail _ (.head _)) rfl rfl rfl (Nat.le_of_ble_eq_true rfl) (by simp [Value.cells, Value.oneCell']) rfl ?_)
  refine WL.nil ?_
  refine Kseq.go ?_
  refine W.join fun mj hj => ?_
  have hPi : IsPieces mj (.slice (some ⟨a26, 0, none⟩) 4 4) (fun i => [.slice (some ⟨a18, 0, none⟩) 1 1, .slice (some ⟨a20, 0, none⟩) 2 2, .slice (some ⟨a22, 0, none⟩) 1 1, .slice (some ⟨a24, 0, none⟩) 1 1].getD i undef) (threeT first last wrong).pieces := by
    refine ((hc26.2).congr fun i j hi hj => ?_).le (hj _ (by simp))
    have h0 : i < 4 := hi
    have h1 : i = 0 ∨ i = 1 ∨ i = 2 ∨ i = 3 := by omega
    have h2 : j = 0 ∨ j = 1 := by omega
    rcases h1 with rfl | rfl | rfl | rfl <;> rcases h2 with rfl | rfl <;> rfl
  refine W.ret ?_; skip
  refine ⟨.inl rfl, [_], [mj], [.row 56 3 (.slice (some ⟨b17, 0, none⟩) 3 3) 3 [vi 1, vi first, vi first, vi 1, vi 1, vi 2, vi 2, vi last, vi last]], ⟨.agg inferInstance inferInstance rfl (.tail _ (.head _)) rfl, trivial⟩, ?_, by simp, .cons_cons _ (List.nil_sublist _), by simp [markOf]⟩
  exact ⟨mj, b17, _, _, rfl, rfl, rfl, hPi, four_marks rfl rfl ((ints_lit (xs := [1]) hc18).le (hj _ (by simp))) ((ints_lit (xs := [1, 2]) hc20).le (hj _ (by simp))) ((ints_lit (xs := [1]) hc22).le (hj _ (by simp))) ((ints_lit (xs := [2]) hc24).le (hj _ (by simp)))⟩
end Go.Proofs.Ytbmohbeocnfefaa
