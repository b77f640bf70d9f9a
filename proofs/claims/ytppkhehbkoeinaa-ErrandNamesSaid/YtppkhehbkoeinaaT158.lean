/- Chapter 11: the examples' errand, one of its rows one's own. -/
import Derived.Test.YtppkhehbkoeinaaP25
import Derived.Test.YtppkhehbkoeinaaPH1
namespace Go.Proofs.Ytppkhehbkoeinaa
open Go Go.Eng Go.RowKit

/-- three, with a row -/
theorem three11W_any : FnM Try.prog 42 #[vi 5, vi 640] [] [] (fun q Ms' μ' => ∃ m b pv hv sv f, Ms' = [m] ∧ μ' = [.row 77 3 (.slice (some ⟨b, 0, none⟩) 3 3) 3 [vi 1, vi 1, vi 1, vi 2, vi 1, vi 1, vi 3, vi 1, vi 1]] ∧ q = .agg #[.slice (some ⟨b, 0, none⟩) 3 3, pv, vi 0, hv, sv, vi 600, vi 5] ∧ IsPieces m pv f (threeE 5 640).table.pieces ∧ IsMarks m f (threeE 5 640).table.pieces ∧ IsRgs m hv (threeE 5 640).home ∧ IsRgs m sv (threeE 5 640).streets) := by
  refine FnM.of_W (n := 38) Try.func42 rfl rfl (Nat.le_of_ble_eq_true rfl) rfl fun c hr hD hF => ?_
  refine W.seq ?_; refine W.region ?_
  refine WL.alloc rfl rfl rfl (fun b4 => ?_)
  refine WL.nil ?_
  refine Kseq.go (W.seq ?_)
  refine W.region ?_; refine .val (.build2 rfl rfl) rfl rfl rfl ?_
  refine WL.alloc rfl rfl rfl (fun b5 => ?_)
  refine WL.store [_, _] rfl (.head _) rfl rfl rfl (Nat.le_of_ble_eq_true rfl) (by first | (simp [Value.cells, Value.oneCell']; done) | exact IsArr.ones hW (by omega) | exact IsArr.ones hP (by omega) | exact IsArr.ones hS (by omega) | exact IsArr.ones hH (by omega) | exact IsArr.ones hL (by omega) | exact IsArr.ones hB (by omega) | exact IsArr.ones hT (by omega) | exact IsArr.ones hm (by omega)) rfl ?_
  refine WL.nil ?_
  refine Kseq.go (W.seq ?_)
  refine W.region ?_; refine .val (.loadBW rfl (.head _) rfl) rfl rfl rfl ?_; refine .val (.build3 rfl rfl) rfl rfl rfl ?_; refine .val (.loadBW rfl (.head _) rfl) rfl rfl rfl ?_; refine .val (.build3 rfl rfl) rfl rfl rfl ?_; refine .val (.loadBW rfl (.head _) rfl) rfl rfl rfl ?_; refine .val (.build3 rfl rfl) rfl rfl rfl ?_
  (refine WL.lit (vs := [.agg #[vi 1, vi 1, vi 1], .agg #[vi 2, vi 1, vi 1], .agg #[vi 3, vi 1, vi 1]]) [vi 1, vi 1, vi 1, vi 2, vi 1, vi 1, vi 3, vi 1, vi 1] rfl (Nat.le_of_ble_eq_true rfl) rfl rfl (by simp [Value.cells]) (Nat.le_of_ble_eq_true rfl) rfl rfl rfl rfl (fun b14 => ?_))
  refine WL.abs (OpAbs.lit [_] rfl (Nat.le_of_ble_eq_true rfl) rfl rfl (by simp [Value.cells]) (Nat.le_of_ble_eq_true rfl) rfl (by first | (simp [Value.oneCell']; done) | exact List.all_eq_true.1 rfl)) rfl rfl rfl ?_
  rintro m15 _ ⟨hc15, a15, rfl⟩
  refine .val (.build2 rfl rfl) rfl rfl rfl ?_
  refine WL.abs (OpAbs.lit [_] rfl (Nat.le_of_ble_eq_true rfl) rfl rfl (by simp [Value.cells]) (Nat.le_of_ble_eq_true rfl) rfl (by first | (simp [Value.oneCell']; done) | exact List.all_eq_true.1 rfl)) rfl rfl rfl ?_
  rintro m17 _ ⟨hc17, a17, rfl⟩
  refine .val (.build2 rfl rfl) rfl rfl rfl ?_
  refine WL.abs (OpAbs.lit [_] rfl (Nat.le_of_ble_eq_true rfl) rfl rfl (by simp [Value.cells]) (Nat.le_of_ble_eq_true rfl) rfl (by first | (simp [Value.oneCell']; done) | exact List.all_eq_true.1 rfl)) rfl rfl rfl ?_
  rintro m19 _ ⟨hc19, a19, rfl⟩
  refine .val (.build2 rfl rfl) rfl rfl rfl ?_
  refine WL.abs (OpAbs.lit [_, _, _, _, _, _] rfl (Nat.le_of_ble_eq_true rfl) rfl rfl (by simp [Value.cells]) (Nat.le_of_ble_eq_true rfl) rfl (by first | (simp [Value.oneCell']; done) | exact List.all_eq_true.1 rfl)) rfl rfl rfl ?_
  rintro m21 _ ⟨hc21, a21, rfl⟩
  refine .val (.build3 rfl rfl) rfl rfl rfl ?_
  refine WL.alloc rfl rfl rfl (fun b6 => ?_)
  refine WL.store [_, _, _] rfl (.head _) rfl rfl rfl (Nat.le_of_ble_eq_true rfl) (by first | (simp [Value.cells, Value.oneCell']; done) | exact IsArr.ones hW (by omega) | exact IsArr.ones hP (by omega) | exact IsArr.ones hS (by omega) | exact IsArr.ones hH (by omega) | exact IsArr.ones hL (by omega) | exact IsArr.ones hB (by omega) | exact IsArr.ones hT (by omega) | exact IsArr.ones hm (by omega)) rfl ?_
  refine WL.nil ?_
  refine Kseq.go (W.seq ?_)
  refine W.draw 14 (by kernel_rfl) (by kernel_rfl) (by kernel_rfl) rfl ?_; refine .val [] (.loadBW rfl (.head _) rfl) rfl rfl rfl rfl ?_; refine .val [] (.call rfl (fun m hm => between11_any _ _)) rfl rfl rfl rfl ?_; refine .val [] (.opv rfl) rfl rfl rfl rfl ?_; refine .val [] (.call rfl (fun m hm => between11_any _ _)) rfl rfl rfl rfl ?_; refine .val [] (.call rfl (fun m hm => between11_any _ _)) rfl rfl rfl rfl ?_; refine DJ.abs (A := fun m q => IsRgs m q [⟨600, 640⟩, ⟨610, 640⟩, ⟨600, 640⟩]) [] (OpAbs.mono (OpAbs.lit [vi 600, vi 640, vi 610, vi 640, vi 600, vi 640] rfl (Nat.le_of_ble_eq_true rfl) rfl rfl (by simp [Value.cells]) (Nat.le_of_ble_eq_true rfl) rfl (by simp [Value.oneCell'])) (fun m' v' h' => rgs_lit (rs := [⟨600, 640⟩, ⟨610, 640⟩, ⟨600, 640⟩]) (n := 3) rfl h'.1)) rfl rfl rfl rfl ?_; refine .val [] (.call rfl (fun m hm => between11_any _ _)) rfl rfl rfl rfl ?_; refine .val [] (.call rfl (fun m hm => between11_any _ _)) rfl rfl rfl rfl ?_
  refine .val [] (.call rfl (fun m hm => between11_any _ _)) rfl rfl rfl rfl ?_; refine .val [] (.call rfl (fun m hm => between11_any _ _)) rfl rfl rfl rfl ?_; refine .val [] (.call rfl (fun m hm => between11_any _ _)) rfl rfl rfl rfl ?_; refine .val [] (.call rfl (fun m hm => between11_any _ _)) rfl rfl rfl rfl ?_; refine DJ.abs (A := fun m q => IsRgs m q [⟨5, 6⟩, ⟨7, 7⟩, ⟨4, 4⟩, ⟨3, 5⟩, ⟨6, 8⟩, ⟨9, 9⟩]) [] (OpAbs.mono (OpAbs.lit [vi 5, vi 6, vi 7, vi 7, vi 4, vi 4, vi 3, vi 5, vi 6, vi 8, vi 9, vi 9] rfl (Nat.le_of_ble_eq_true rfl) rfl rfl (by simp [Value.cells]) (Nat.le_of_ble_eq_true rfl) rfl (by simp [Value.oneCell'])) (fun m' v' h' => rgs_lit (rs := [⟨5, 6⟩, ⟨7, 7⟩, ⟨4, 4⟩, ⟨3, 5⟩, ⟨6, 8⟩, ⟨9, 9⟩]) (n := 6) rfl h'.1)) rfl rfl rfl rfl ?_; refine .val [] (.opv rfl) rfl rfl rfl rfl ?_; refine DJ.nil ?_
  rintro m35 v35 h35
  rintro m28 v28 h28
  obtain ⟨ha, hcp, rfl⟩ := (show ∃ a cap, v28 = .slice a 3 cap from IsArr.form h28)
  obtain ⟨sa, scp, rfl⟩ := (show ∃ a cap, v35 = .slice a 6 cap from IsArr.form h35)
  refine .val (.build #[.slice (some ⟨b14, 0, none⟩) 3 3, .slice (some ⟨a21, 0, none⟩) 3 3, vi 0, .slice ha 3 hcp, .slice sa 6 scp, vi 600, vi 5] rfl (by kernel_rfl)) rfl rfl rfl ?_
  (refine WL.store [_, _, _, _, _, _, _] rfl (.tail _ (.tail _ (.tail _ (.head _)))) rfl rfl rfl (Nat.le_of_ble_eq_true rfl) (by simp [Value.cells, Value.oneCell']) rfl ?_)
  refine WL.nil ?_; refine Kseq.go ?_
  refine W.join fun mj hj => ?_
  let F : Nat → Value := fun i => [.slice (some ⟨a15, 0, none⟩) 1 1, .slice (some ⟨a17, 0, none⟩) 1 1, .slice (some ⟨a19, 0, none⟩) 1 1].getD i undef
  have hPc : IsPieces mj (.slice (some ⟨a21, 0, none⟩) 3 3) F (threeE 5 640).table.pieces := by
    refine ((hc21.2).congr fun i j hi hj' => ?_).le (hj _ (by simp))
    have h0 : i < 3 := hi
    have h1 : i = 0 ∨ i = 1 ∨ i = 2 := by omega
    have h2 : j = 0 ∨ j = 1 := by omega
    rcases h1 with rfl | rfl | rfl <;> rcases h2 with rfl | rfl <;> rfl
  have hMc : IsMarks mj F (threeE 5 640).table.pieces := by
    intro i hi
    have h0 : i < 3 := hi
    have h1 : i = 0 ∨ i = 1 ∨ i = 2 := by omega
    rcases h1 with rfl | rfl | rfl
    · exact (ints_lit (xs := [1]) hc15).le (hj _ (by simp))
    · exact (ints_lit (xs := [2]) hc17).le (hj _ (by simp))
    · exact (ints_lit (xs := [3]) hc19).le (hj _ (by simp))
  refine W.ret ?_; skip
  refine ⟨.inl rfl, [_], [mj], [.row 77 3 (.slice (some ⟨b14, 0, none⟩) 3 3) 3 [vi 1, vi 1, vi 1, vi 2, vi 1, vi 1, vi 3, vi 1, vi 1]], ⟨.agg inferInstance inferInstance rfl (.tail _ (.tail _ (.tail _ (.head _)))) rfl, trivial⟩, ?_, by simp, .cons _ (.cons_cons _ (List.nil_sublist _)), by simp [markOf]⟩
  exact ⟨mj, b14, _, _, _, F, rfl, rfl, rfl, hPc, hMc, h28.le (hj _ (by simp)), h35.le (hj _ (by simp))⟩
/-- three, with a row -/
theorem three11S_any : FnM Try.prog 42 #[vi 5, vi 640] [] [] (fun q Ms' μ' => ∃ m b wv pv hv f, Ms' = [m] ∧ μ' = [.row 98 2 (.slice (some ⟨b, 0, none⟩) 6 6) 6 [vi 5, vi 6, vi 7, vi 7, vi 4, vi 4, vi 3, vi 5, vi 6, vi 8, vi 9, vi 9]] ∧ q = .agg #[wv, pv, vi 0, hv, .slice (some ⟨b, 0, none⟩) 6 6, vi 600, vi 5] ∧ IsPieces m pv f (threeE 5 640).table.pieces ∧ IsMarks m f (threeE 5 640).table.pieces ∧ IsRgs m hv (threeE 5 640).home ∧ IsWomen m wv (threeE 5 640).table.women) := by
  refine FnM.of_W (n := 38) Try.func42 rfl rfl (Nat.le_of_ble_eq_true rfl) rfl fun c hr hD hF => ?_
  refine W.seq ?_; refine W.region ?_
  refine WL.alloc rfl rfl rfl (fun b4 => ?_)
  refine WL.nil ?_
  refine Kseq.go (W.seq ?_)
  refine W.region ?_; refine .val (.build2 rfl rfl) rfl rfl rfl ?_
  refine WL.alloc rfl rfl rfl (fun b5 => ?_)
  refine WL.store [_, _] rfl (.head _) rfl rfl rfl (Nat.le_of_ble_eq_true rfl) (by first | (simp [Value.cells, Value.oneCell']; done) | exact IsArr.ones hW (by omega) | exact IsArr.ones hP (by omega) | exact IsArr.ones hS (by omega) | exact IsArr.ones hH (by omega) | exact IsArr.ones hL (by omega) | exact IsArr.ones hB (by omega) | exact IsArr.ones hT (by omega) | exact IsArr.ones hm (by omega)) rfl ?_
  refine WL.nil ?_
  refine Kseq.go (W.seq ?_)
  refine W.region ?_; refine .val (.loadBW rfl (.head _) rfl) rfl rfl rfl ?_; refine .val (.build3 rfl rfl) rfl rfl rfl ?_; refine .val (.loadBW rfl (.head _) rfl) rfl rfl rfl ?_; refine .val (.build3 rfl rfl) rfl rfl rfl ?_; refine .val (.loadBW rfl (.head _) rfl) rfl rfl rfl ?_; refine .val (.build3 rfl rfl) rfl rfl rfl ?_
  refine WL.abs (OpAbs.lit [_, _, _, _, _, _, _, _, _] rfl (Nat.le_of_ble_eq_true rfl) rfl rfl (by simp [Value.cells]) (Nat.le_of_ble_eq_true rfl) rfl (by first | (simp [Value.oneCell']; done) | exact List.all_eq_true.1 rfl)) rfl rfl rfl ?_
  rintro m14 _ ⟨hc14, a14, rfl⟩
  refine WL.abs (OpAbs.lit [_] rfl (Nat.le_of_ble_eq_true rfl) rfl rfl (by simp [Value.cells]) (Nat.le_of_ble_eq_true rfl) rfl (by first | (simp [Value.oneCell']; done) | exact List.all_eq_true.1 rfl)) rfl rfl rfl ?_
  rintro m15 _ ⟨hc15, a15, rfl⟩
  refine .val (.build2 rfl rfl) rfl rfl rfl ?_
  refine WL.abs (OpAbs.lit [_] rfl (Nat.le_of_ble_eq_true rfl) rfl rfl (by simp [Value.cells]) (Nat.le_of_ble_eq_true rfl) rfl (by first | (simp [Value.oneCell']; done) | exact List.all_eq_true.1 rfl)) rfl rfl rfl ?_
  rintro m17 _ ⟨hc17, a17, rfl⟩
  refine .val (.build2 rfl rfl) rfl rfl rfl ?_
  refine WL.abs (OpAbs.lit [_] rfl (Nat.le_of_ble_eq_true rfl) rfl rfl (by simp [Value.cells]) (Nat.le_of_ble_eq_true rfl) rfl (by first | (simp [Value.oneCell']; done) | exact List.all_eq_true.1 rfl)) rfl rfl rfl ?_
  rintro m19 _ ⟨hc19, a19, rfl⟩
  refine .val (.build2 rfl rfl) rfl rfl rfl ?_
  refine WL.abs (OpAbs.lit [_, _, _, _, _, _] rfl (Nat.le_of_ble_eq_true rfl) rfl rfl (by simp [Value.cells]) (Nat.le_of_ble_eq_true rfl) rfl (by first | (simp [Value.oneCell']; done) | exact List.all_eq_true.1 rfl)) rfl rfl rfl ?_
  rintro m21 _ ⟨hc21, a21, rfl⟩
  refine .val (.build3 rfl rfl) rfl rfl rfl ?_
  refine WL.alloc rfl rfl rfl (fun b6 => ?_)
  refine WL.store [_, _, _] rfl (.head _) rfl rfl rfl (Nat.le_of_ble_eq_true rfl) (by first | (simp [Value.cells, Value.oneCell']; done) | exact IsArr.ones hW (by omega) | exact IsArr.ones hP (by omega) | exact IsArr.ones hS (by omega) | exact IsArr.ones hH (by omega) | exact IsArr.ones hL (by omega) | exact IsArr.ones hB (by omega) | exact IsArr.ones hT (by omega) | exact IsArr.ones hm (by omega)) rfl ?_
  refine WL.nil ?_
  refine Kseq.go (W.seq ?_)
  refine W.join fun m0 hm0 => ?_
  let l0 : List (Nat × Value) := [(0, vi 5), (1, vi 640), (4, .pointer (some ⟨b4, 0, none⟩)), (6, .pointer (some ⟨b6, 0, none⟩))]
  let μ0 : List Res := [.blk b6 #[.slice (some ⟨a14, 0, none⟩) 3 3, .slice (some ⟨a21, 0, none⟩) 3 3, vi 0] 43, .blk b5 #[vi 1, vi 1] 45, .blk b4 #[.slice none 0 0, .slice none 0 0, vi 0, .slice none 0 0, .slice none 0 0, vi 0, vi 0] 61]
  refine W.weaken l0 [m0] μ0 (by repeat (first | exact trivial | refine ⟨rfl, ?_⟩)) (by simp) (.refl _) ?_; refine W.drawN (γ := Ph1 Nat) .a 14 [12] (Ph1.sel l0 (fun b => (35, .slice (some ⟨b, 0, none⟩) 6 6) :: l0)) (Ph1.sel μ0 (fun b => .row 98 2 (.slice (some ⟨b, 0, none⟩) 6 6) 6 [vi 5, vi 6, vi 7, vi 7, vi 4, vi 4, vi 3, vi 5, vi 6, vi 8, vi 9, vi 9] :: μ0)) Ph1.num (by kernel_rfl) (by kernel_rfl) (by kernel_rfl) rfl Ph1.le (Ph1.all rfl (fun _ => rfl)) rfl rfl ?_; refine DJN.val [] (Ph1.all (fun hg => (show OpVal _ _ _ _ _ (Value.agg #[.slice (some ⟨a14, 0, none⟩) 3 3, .slice (some ⟨a21, 0, none⟩) 3 3, vi 0]) from by first | exact OpVal.loadBW rfl (.head _) rfl | exact OpVal.loadBW rfl (.tail _ (.head _)) rfl)) (fun x1 hg => (show OpVal _ _ _ _ _ (Value.agg #[.slice (some ⟨a14, 0, none⟩) 3 3, .slice (some ⟨a21, 0, none⟩) 3 3, vi 0]) from by first | exact OpVal.loadBW rfl (.head _) rfl | exact OpVal.loadBW rfl (.tail _ (.head _)) rfl))) (Ph1.all (fun hg => rfl) (fun x1 hg => rfl)) rfl rfl (Ph1.all rfl (fun _ => rfl)) rfl ?_
  refine DJN.val [] (Ph1.all (fun hg => OpVal.call rfl (fun m hm => between11_any _ _)) (fun x1 hg => OpVal.call rfl (fun m hm => between11_any _ _))) (Ph1.all (fun hg => rfl) (fun x1 hg => rfl)) rfl rfl (Ph1.all rfl (fun _ => rfl)) rfl ?_; refine DJN.val [] (Ph1.all (fun hg => OpVal.opv rfl) (fun x1 hg => OpVal.opv rfl)) (Ph1.all (fun hg => rfl) (fun x1 hg => rfl)) rfl rfl (Ph1.all rfl (fun _ => rfl)) rfl ?_; refine DJN.val [] (Ph1.all (fun hg => OpVal.call rfl (fun m hm => between11_any _ _)) (fun x1 hg => OpVal.call rfl (fun m hm => between11_any _ _))) (Ph1.all (fun hg => rfl) (fun x1 hg => rfl)) rfl rfl (Ph1.all rfl (fun _ => rfl)) rfl ?_; refine DJN.val [] (Ph1.all (fun hg => OpVal.call rfl (fun m hm => between11_any _ _)) (fun x1 hg => OpVal.call rfl (fun m hm => between11_any _ _))) (Ph1.all (fun hg => rfl) (fun x1 hg => rfl)) rfl rfl (Ph1.all rfl (fun _ => rfl)) rfl ?_; refine DJN.abs (A := fun m q => IsRgs m q [⟨600, 640⟩, ⟨610, 640⟩, ⟨600, 640⟩]) [] (Ph1.all (fun hg => (OpAbs.mono (OpAbs.lit [vi 600, vi 640, vi 610, vi 640, vi 600, vi 640] rfl (Nat.le_of_ble_eq_true rfl) rfl rfl (by simp [Value.cells]) (Nat.le_of_ble_eq_true rfl) rfl (by simp [Value.oneCell'])) (fun m' v' h' => rgs_lit (rs := [⟨600, 640⟩, ⟨610, 640⟩, ⟨600, 640⟩]) (n := 3) rfl h'.1))) (fun x1 hg => (OpAbs.mono (OpAbs.lit [vi 600, vi 640, vi 610, vi 640, vi 600, vi 640] rfl (Nat.le_of_ble_eq_true rfl) rfl rfl (by simp [Value.cells]) (Nat.le_of_ble_eq_true rfl) rfl (by simp [Value.oneCell'])) (fun m' v' h' => rgs_lit (rs := [⟨600, 640⟩, ⟨610, 640⟩, ⟨600, 640⟩]) (n := 3) rfl h'.1)))) (Ph1.all (fun hg => rfl) (fun x1 hg => rfl)) rfl rfl (Ph1.all rfl (fun _ => rfl)) rfl ?_
  refine DJN.val [] (Ph1.all (fun hg => OpVal.call rfl (fun m hm => between11_any _ _)) (fun x1 hg => Bool.noConfusion (show false = true from hg))) (Ph1.all (fun hg => rfl) (fun x1 hg => Bool.noConfusion (show false = true from hg))) rfl rfl (Ph1.all rfl (fun _ => rfl)) rfl ?_; refine DJN.val [] (Ph1.all (fun hg => OpVal.call rfl (fun m hm => between11_any _ _)) (fun x1 hg => Bool.noConfusion (show false = true from hg))) (Ph1.all (fun hg => rfl) (fun x1 hg => Bool.noConfusion (show false = true from hg))) rfl rfl (Ph1.all rfl (fun _ => rfl)) rfl ?_; refine DJN.val [] (Ph1.all (fun hg => OpVal.call rfl (fun m hm => between11_any _ _)) (fun x1 hg => Bool.noConfusion (show false = true from hg))) (Ph1.all (fun hg => rfl) (fun x1 hg => Bool.noConfusion (show false = true from hg))) rfl rfl (Ph1.all rfl (fun _ => rfl)) rfl ?_; refine DJN.val [] (Ph1.all (fun hg => OpVal.call rfl (fun m hm => between11_any _ _)) (fun x1 hg => Bool.noConfusion (show false = true from hg))) (Ph1.all (fun hg => rfl) (fun x1 hg => Bool.noConfusion (show false = true from hg))) rfl rfl (Ph1.all rfl (fun _ => rfl)) rfl ?_
  refine DJN.val [] (Ph1.all (fun hg => OpVal.call rfl (fun m hm => between11_any _ _)) (fun x1 hg => Bool.noConfusion (show false = true from hg))) (Ph1.all (fun hg => rfl) (fun x1 hg => Bool.noConfusion (show false = true from hg))) rfl rfl (Ph1.all rfl (fun _ => rfl)) rfl ?_; refine DJN.val [] (Ph1.all (fun hg => OpVal.call rfl (fun m hm => between11_any _ _)) (fun x1 hg => Bool.noConfusion (show false = true from hg))) (Ph1.all (fun hg => rfl) (fun x1 hg => Bool.noConfusion (show false = true from hg))) rfl rfl (Ph1.all rfl (fun _ => rfl)) rfl ?_; refine DJN.eff 0 [(29, _), (30, _), (31, _), (32, _), (33, _), (34, _)] ⟨rfl, rfl, rfl, rfl, rfl, rfl, trivial⟩ rfl rfl [] trivial (Ph1.all (fun hg => ⟨rfl, fun M2 hM2 => ?_⟩) (fun x1 hg => absurd hg (by simp [Ph1.num]))) ?_
  · (refine WL.lit (vs := [.agg #[vi 5, vi 6], .agg #[vi 7, vi 7], .agg #[vi 4, vi 4], .agg #[vi 3, vi 5], .agg #[vi 6, vi 8], .agg #[vi 9, vi 9]]) [vi 5, vi 6, vi 7, vi 7, vi 4, vi 4, vi 3, vi 5, vi 6, vi 8, vi 9, vi 9] rfl (Nat.le_of_ble_eq_true rfl) rfl rfl (by simp [Value.cells]) (Nat.le_of_ble_eq_true rfl) rfl rfl rfl rfl (fun b35 => ?_); exact WL.nil ⟨.b b35, rfl, Keff.intro (by repeat (first | exact trivial | refine ⟨rfl, ?_⟩)) (fun x hx => hx) (.refl _)⟩)
  refine DJN.val [] (Ph1.all (fun hg => OpVal.opv rfl) (fun x1 hg => OpVal.opv rfl)) (Ph1.all (fun hg => rfl) (fun x1 hg => rfl)) rfl rfl (Ph1.all rfl (fun _ => rfl)) rfl ?_
  refine DJN.nil (Ph1.all (fun hg => absurd hg (by simp [Ph1.num])) (fun x1 hg => ?_))
  rintro m28 v28 h28
  obtain ⟨ha, hcp, rfl⟩ := (show ∃ a cap, v28 = .slice a 3 cap from IsArr.form h28)
  refine .val (.build #[.slice (some ⟨a14, 0, none⟩) 3 3, .slice (some ⟨a21, 0, none⟩) 3 3, vi 0, .slice ha 3 hcp, .slice (some ⟨x1, 0, none⟩) 6 6, vi 600, vi 5] rfl (by kernel_rfl)) rfl rfl rfl ?_
  (refine WL.store [_, _, _, _, _, _, _] rfl (.tail _ (.tail _ (.tail _ (.head _)))) rfl rfl rfl (Nat.le_of_ble_eq_true rfl) (by simp [Value.cells, Value.oneCell']) rfl ?_)
  refine WL.nil ?_; refine Kseq.go ?_
  refine W.join fun mj hj => ?_
  have hj2 := fun m' h' => (hm0 m' h').trans (hj m0 (by simp))
  let F : Nat → Value := fun i => [.slice (some ⟨a15, 0, none⟩) 1 1, .slice (some ⟨a17, 0, none⟩) 1 1, .slice (some ⟨a19, 0, none⟩) 1 1].getD i undef
  have hWc : IsWomen mj (.slice (some ⟨a14, 0, none⟩) 3 3) (threeE 5 640).table.women := by
    refine ((hc14.2).congr fun i j hi hj' => ?_).le (hj2 _ (by simp))
    have h0 : i < 3 := hi
    have h1 : i = 0 ∨ i = 1 ∨ i = 2 := by omega
    have h2 : j = 0 ∨ j = 1 ∨ j = 2 := by omega
    rcases h1 with rfl | rfl | rfl <;> rcases h2 with rfl | rfl | rfl <;> rfl
  have hPc : IsPieces mj (.slice (some ⟨a21, 0, none⟩) 3 3) F (threeE 5 640).table.pieces := by
    refine ((hc21.2).congr fun i j hi hj' => ?_).le (hj2 _ (by simp))
    have h0 : i < 3 := hi
    have h1 : i = 0 ∨ i = 1 ∨ i = 2 := by omega
    have h2 : j = 0 ∨ j = 1 := by omega
    rcases h1 with rfl | rfl | rfl <;> rcases h2 with rfl | rfl <;> rfl
  have hMc : IsMarks mj F (threeE 5 640).table.pieces := by
    intro i hi
    have h0 : i < 3 := hi
    have h1 : i = 0 ∨ i = 1 ∨ i = 2 := by omega
    rcases h1 with rfl | rfl | rfl
    · exact (ints_lit (xs := [1]) hc15).le (hj2 _ (by simp))
    · exact (ints_lit (xs := [2]) hc17).le (hj2 _ (by simp))
    · exact (ints_lit (xs := [3]) hc19).le (hj2 _ (by simp))
  refine W.ret ?_; skip
  refine ⟨.inl rfl, [_], [mj], [.row 98 2 (.slice (some ⟨x1, 0, none⟩) 6 6) 6 [vi 5, vi 6, vi 7, vi 7, vi 4, vi 4, vi 3, vi 5, vi 6, vi 8, vi 9, vi 9]], ⟨.agg inferInstance inferInstance rfl (.tail _ (.tail _ (.tail _ (.head _)))) rfl, trivial⟩, ?_, by simp, .cons_cons _ (List.nil_sublist _), by simp [markOf]⟩
  exact ⟨mj, x1, _, _, _, F, rfl, rfl, rfl, hPc, hMc, h28.le (hj _ (by simp)), hWc⟩
end Go.Proofs.Ytppkhehbkoeinaa
