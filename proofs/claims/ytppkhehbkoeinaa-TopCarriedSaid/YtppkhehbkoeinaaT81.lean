/- The statements' functions of chapter 11, on: readiness, walks by words, truths by numbers. -/
import Derived.Test.YtppkhehbkoeinaaT77
namespace Go.Proofs.Ytppkhehbkoeinaa
open Go Go.Eng Go.RowKit

/-- Words. -/
def IsWds (m : Mem) (v : Value) (ws : List Nat) : Prop := IsArr m 1 v ws.length (fun i _ => .int .u16 ((ws.getD i 0 : Nat) : Int)) ∧ ∀ w ∈ ws, w < 65536
theorem IsWds.le {m m' : Mem} {v : Value} {ws : List Nat} (h : IsWds m v ws) (hm : MLe m m') : IsWds m' v ws := ⟨IsArr.le h.1 hm, h.2⟩
end Go.Proofs.Ytppkhehbkoeinaa
