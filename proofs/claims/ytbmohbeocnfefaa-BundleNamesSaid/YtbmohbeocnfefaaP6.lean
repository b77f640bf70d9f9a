/- Plain law: the chapter's examples, reckoned. -/
import Derived.Test.YtbmohbeocnfefaaT29
namespace Go.Proofs.Ytbmohbeocnfefaa
open Go Go.Eng Go.RowKit

abbrev exA : Table := threeT 2 1 0
abbrev exB : Table := threeT 2 0 0
abbrev exC : Table := threeT 4 0 0
theorem threeT_sm (a b c : Int) : Sm (threeT a b c) := ⟨by simp [threeT], by simp [threeT], fun i hi => by
  have h4 : i < 4 := hi
  match i, h4 with
  | 0, _ => simp [threeT]
  | 1, _ => simp [threeT]
  | 2, _ => simp [threeT]
  | 3, _ => simp [threeT]⟩
theorem exA_sm : Sm exA := threeT_sm _ _ _
theorem exB_sm : Sm exB := threeT_sm _ _ _
theorem exC_sm : Sm exC := threeT_sm _ _ _
theorem exA_askE : askE exA = 0 := by decide +kernel
theorem exA_play : playE exA [0, 0, 1, 2] = 0 ∧ ownList exA [0, 0, 1, 2] = [2, 1, 1] ∧ astray exA [0, 0, 1, 2] = [3] := by decide +kernel
theorem exA_who : whoTo exA exA.pieces.length = [[0, 1], [0, 1], [0, 1], [2]] := by decide +kernel
theorem exA_lo : loQ (fun l => ((astray exA l).length : Int)) (ask exA) (ask exA).length = 1 := by decide +kernel
theorem exA_hi : hiQ (fun l => ((astray exA l).length : Int)) (ask exA) (ask exA).length = 3 := by decide +kernel
theorem exA_fewest : fewest exA (ask exA) = [0, 0, 1, 2] := by decide +kernel
theorem exA_moves : movesOf exA (fewest exA (ask exA)) = [⟨3, 1, 2⟩] := by decide +kernel
theorem exA_miss : missTo exA exA.women.length = [3, 3, 1] := by decide +kernel
theorem exA_look : lookE exA = 0 ∧ lookTo exA exA.pieces.length = (0, 2) := by decide +kernel
theorem exB_first : firstV exB = (2, 0) := by decide +kernel
theorem exC_leave : fault exC = 0 ∧ leaveAll exC = some [0, 2] := by decide +kernel
end Go.Proofs.Ytbmohbeocnfefaa
