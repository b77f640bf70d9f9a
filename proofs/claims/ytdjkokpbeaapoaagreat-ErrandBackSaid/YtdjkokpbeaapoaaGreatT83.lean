/- The statement ErrandEnds: its contract. -/
import Derived.Test.YtdjkokpbeaapoaaGreatT81
namespace Go.Proofs.YtdjkokpbeaapoaaGreat
open Go Go.Eng Go.RowKit

theorem walkedE_of {r : Errand} {l : List Int} (hV : ValidE r) (hw : Walk r.n l) : walkedE r l = 0 := walkedE_ok hV (isWalk_iff.2 hw)
/-- Brings, of a walk. -/
theorem brings11_ok {h : Mem} {v lv : Value} {r : Errand} {l : List Int} (hV : ValidE r) (hw : Walk r.n l) (hs : SmE r) (hv : IsErrand h v r) (hl : IsInts h lv l) : FnR Tryz.prog 19 #[v, lv] h (fun m q => ∃ cv, q = .tuple #[cv, vi 0] ∧ IsInts m cv (piecesB (movesR r) (fun i => brought l ((movesR r).getD i default)))) := by
  have := bringsT_any hv hs hl
  rwa [walkedE_of hV hw, if_pos rfl] at this
end Go.Proofs.YtdjkokpbeaapoaaGreat
