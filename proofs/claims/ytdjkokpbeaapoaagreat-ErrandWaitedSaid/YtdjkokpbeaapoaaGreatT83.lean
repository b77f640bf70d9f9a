/- The statement ErrandEnds: its contract. -/
import Derived.Test.YtdjkokpbeaapoaaGreatT81
namespace Go.Proofs.YtdjkokpbeaapoaaGreat
open Go Go.Eng Go.RowKit

theorem walkedE_of {r : Errand} {l : List Int} (hV : ValidE r) (hw : Walk r.n l) : walkedE r l = 0 := walkedE_ok hV (isWalk_iff.2 hw)
theorem playE_ok {r : Errand} {tr l : List Int} (hV : ValidE r) (ht : TruthE r tr) (hw : Walk r.n l) : playE11 r tr l = 0 := by
  unfold playE11
  rw [if_neg (by rw [faultT_zero.2 hV]; simp), if_pos (by rw [isTruthE_iff.2 ht, isWalk_iff.2 hw]; rfl)]
/-- Play, of a truth and a walk. -/
theorem play11_ok {h : Mem} {v tv lv : Value} {r : Errand} {tr l : List Int} (hV : ValidE r) (hT : TruthE r tr) (hw : Walk r.n l) (hs : SmE r) (hv : IsErrand h v r) (ht : IsInts h tv tr) (hl : IsInts h lv l) : FnR Tryz.prog 13 #[v, tv, lv] h (fun m q => ∃ cv, q = .tuple #[cv, vi 0] ∧ IsInts m cv (minutes r tr l)) := by
  have := playT11_any hv hs ht hl
  rwa [playE_ok hV hT hw, if_pos rfl] at this
/-- Comes, of a walk. -/
theorem comes11_ok {h : Mem} {v lv : Value} {r : Errand} {l : List Int} (hV : ValidE r) (hw : Walk r.n l) (hs : SmE r) (hv : IsErrand h v r) (hl : IsInts h lv l) : FnR Tryz.prog 30 #[v, lv] h (fun m q => ∃ cv, q = .tuple #[cv, vi 0] ∧ IsRgs m cv (comesTo r l l.length)) := by
  have := comesT_any hv hs hl
  rwa [walkedE_of hV hw, if_pos rfl] at this
/-- Brings, of a walk. -/
theorem brings11_ok {h : Mem} {v lv : Value} {r : Errand} {l : List Int} (hV : ValidE r) (hw : Walk r.n l) (hs : SmE r) (hv : IsErrand h v r) (hl : IsInts h lv l) : FnR Tryz.prog 19 #[v, lv] h (fun m q => ∃ cv, q = .tuple #[cv, vi 0] ∧ IsInts m cv (piecesB (movesR r) (fun i => brought l ((movesR r).getD i default)))) := by
  have := bringsT_any hv hs hl
  rwa [walkedE_of hV hw, if_pos rfl] at this
end Go.Proofs.YtdjkokpbeaapoaaGreat
