/-
  No cell of these rows narrows 'for every input' (looked for: loops, veiled, ifaces, maps, wideKeys, modest, calm, conditions, laid).
  DERIVED. THE GIVEN ROWS OF THIS SEAT. 6 by the template 'for every input the law returns true; each argument reads behind the call as it read before'; 0 by the template 'total and deterministic' (their statements: YtdjkokpbeaapoaaGreatTotals.lean).
  GIVEN WITH THE SEED: the statements are not yours to turn. If you find one false, say at which input.
  Laid BY PROGRAM, IN A SANDBOX (cutbox-rows.mjs): the forced cells as the released guide's own fill.sh prints them over the translation c951a11779aaf177… (all of the seat's roots in one cut). By AI agents, Wed Nov 11 2026. No macro, syntax, notation, axiom, sorry.
-/
import Derived.Test.YtdjkokpbeaapoaaGreatChecked
import GoSem.Claim
import GoSem.ClaimJoined
import GoSem.ClaimMapViews
import Derived.JoinedTies
import Derived.KernelRfl
namespace Go.Proofs.YtdjkokpbeaapoaaGreat
/- THE CELL 'sum', in the pinned program and in every row, IS THE sha256 OF THE DUMP (.gsa) THAT YtdjkokpbeaapoaaGreatProg.lean LOADS. Nothing in Lean hashes anything: it is a label: what it is worth is what the hold of that sum in a sandbox is worth. -/
noncomputable def Tryz.pinned : Pinned := { name := "ytdjkokpbeaapoaagreat", sum := "c951a11779aaf177c9ff455fecb0c3e6332cbece63b69efed29a8e3d9a3f6ff3", checked := Tryz.checked }
namespace Rows
def none {H : Type} : Left H := { results := [], args := [] }

/-- 'posserlaw11.ErrandQuicker': WHATEVER THE INPUT: true; the input reads as it did. -/
def errandQuickerSpec : ChangeSpec := { name := "errandQuicker", fn := fun _ => fun
  | [d1, d2, d3, d4, d5] => { results := [.lit (.bool true)], args := [d1, d2, d3, d4, d5] }
  | _ => none }
def errandQuickerRow : OpenClaim := { program := "ytdjkokpbeaapoaagreat", sum := "c951a11779aaf177c9ff455fecb0c3e6332cbece63b69efed29a8e3d9a3f6ff3", func := "posser/posserlaw11.ErrandQuicker", spec := "errandQuicker", unfollowed := true, recurses := true, plainKeys := false, apart := false }
def ErrandQuickerSaid : Prop := errandQuickerRow.holds Tryz.pinned (OpenSpec.ofChange errandQuickerSpec)

/-- ITS FALSE NEIGHBOUR: 'it returns false'. Refute it at one input. -/
def errandQuickerWrong : ChangeSpec := { name := "errandQuicker", fn := fun _ => fun
  | [d1, d2, d3, d4, d5] => { results := [.lit (.bool false)], args := [d1, d2, d3, d4, d5] }
  | _ => none }
def ErrandQuickerWrongFalsely : Prop := errandQuickerRow.holds Tryz.pinned (OpenSpec.ofChange errandQuickerWrong)

/-- 'posserlaw11.ErrandWaited': WHATEVER THE INPUT: true; the input reads as it did. -/
def errandWaitedSpec : ChangeSpec := { name := "errandWaited", fn := fun _ => fun
  | [d1, d2] => { results := [.lit (.bool true)], args := [d1, d2] }
  | _ => none }
def errandWaitedRow : OpenClaim := { program := "ytdjkokpbeaapoaagreat", sum := "c951a11779aaf177c9ff455fecb0c3e6332cbece63b69efed29a8e3d9a3f6ff3", func := "posser/posserlaw11.ErrandWaited", spec := "errandWaited", unfollowed := true, recurses := true, plainKeys := false, apart := false }
def ErrandWaitedSaid : Prop := errandWaitedRow.holds Tryz.pinned (OpenSpec.ofChange errandWaitedSpec)

/-- ITS FALSE NEIGHBOUR: 'it returns false'. Refute it at one input. -/
def errandWaitedWrong : ChangeSpec := { name := "errandWaited", fn := fun _ => fun
  | [d1, d2] => { results := [.lit (.bool false)], args := [d1, d2] }
  | _ => none }
def ErrandWaitedWrongFalsely : Prop := errandWaitedRow.holds Tryz.pinned (OpenSpec.ofChange errandWaitedWrong)

/-- 'posserlaw11.ErrandBack': WHATEVER THE INPUT: true; the input reads as it did. -/
def errandBackSpec : ChangeSpec := { name := "errandBack", fn := fun _ => fun
  | [d1, d2] => { results := [.lit (.bool true)], args := [d1, d2] }
  | _ => none }
def errandBackRow : OpenClaim := { program := "ytdjkokpbeaapoaagreat", sum := "c951a11779aaf177c9ff455fecb0c3e6332cbece63b69efed29a8e3d9a3f6ff3", func := "posser/posserlaw11.ErrandBack", spec := "errandBack", unfollowed := true, recurses := true, plainKeys := false, apart := false }
def ErrandBackSaid : Prop := errandBackRow.holds Tryz.pinned (OpenSpec.ofChange errandBackSpec)

/-- ITS FALSE NEIGHBOUR: 'it returns false'. Refute it at one input. -/
def errandBackWrong : ChangeSpec := { name := "errandBack", fn := fun _ => fun
  | [d1, d2] => { results := [.lit (.bool false)], args := [d1, d2] }
  | _ => none }
def ErrandBackWrongFalsely : Prop := errandBackRow.holds Tryz.pinned (OpenSpec.ofChange errandBackWrong)

/-- 'posserlaw11.ErrandWay': WHATEVER THE INPUT: true; the input reads as it did. -/
def errandWaySpec : ChangeSpec := { name := "errandWay", fn := fun _ => fun
  | [d] => { results := [.lit (.bool true)], args := [d] }
  | _ => none }
def errandWayRow : OpenClaim := { program := "ytdjkokpbeaapoaagreat", sum := "c951a11779aaf177c9ff455fecb0c3e6332cbece63b69efed29a8e3d9a3f6ff3", func := "posser/posserlaw11.ErrandWay", spec := "errandWay", unfollowed := true, recurses := true, plainKeys := false, apart := false }
def ErrandWaySaid : Prop := errandWayRow.holds Tryz.pinned (OpenSpec.ofChange errandWaySpec)

/-- ITS FALSE NEIGHBOUR: 'it returns false'. Refute it at one input. -/
def errandWayWrong : ChangeSpec := { name := "errandWay", fn := fun _ => fun
  | [d] => { results := [.lit (.bool false)], args := [d] }
  | _ => none }
def ErrandWayWrongFalsely : Prop := errandWayRow.holds Tryz.pinned (OpenSpec.ofChange errandWayWrong)

/-- 'posserlaw11.ErrandLonger': WHATEVER THE INPUT: true; the input reads as it did. -/
def errandLongerSpec : ChangeSpec := { name := "errandLonger", fn := fun _ => fun
  | [d1, d2, d3, d4] => { results := [.lit (.bool true)], args := [d1, d2, d3, d4] }
  | _ => none }
def errandLongerRow : OpenClaim := { program := "ytdjkokpbeaapoaagreat", sum := "c951a11779aaf177c9ff455fecb0c3e6332cbece63b69efed29a8e3d9a3f6ff3", func := "posser/posserlaw11.ErrandLonger", spec := "errandLonger", unfollowed := true, recurses := true, plainKeys := false, apart := false }
def ErrandLongerSaid : Prop := errandLongerRow.holds Tryz.pinned (OpenSpec.ofChange errandLongerSpec)

/-- ITS FALSE NEIGHBOUR: 'it returns false'. Refute it at one input. -/
def errandLongerWrong : ChangeSpec := { name := "errandLonger", fn := fun _ => fun
  | [d1, d2, d3, d4] => { results := [.lit (.bool false)], args := [d1, d2, d3, d4] }
  | _ => none }
def ErrandLongerWrongFalsely : Prop := errandLongerRow.holds Tryz.pinned (OpenSpec.ofChange errandLongerWrong)

/-- 'posserlaw11.ErrandWider': WHATEVER THE INPUT: true; the input reads as it did. -/
def errandWiderSpec : ChangeSpec := { name := "errandWider", fn := fun _ => fun
  | [d1, d2, d3, d4] => { results := [.lit (.bool true)], args := [d1, d2, d3, d4] }
  | _ => none }
def errandWiderRow : OpenClaim := { program := "ytdjkokpbeaapoaagreat", sum := "c951a11779aaf177c9ff455fecb0c3e6332cbece63b69efed29a8e3d9a3f6ff3", func := "posser/posserlaw11.ErrandWider", spec := "errandWider", unfollowed := true, recurses := true, plainKeys := false, apart := false }
def ErrandWiderSaid : Prop := errandWiderRow.holds Tryz.pinned (OpenSpec.ofChange errandWiderSpec)

/-- ITS FALSE NEIGHBOUR: 'it returns false'. Refute it at one input. -/
def errandWiderWrong : ChangeSpec := { name := "errandWider", fn := fun _ => fun
  | [d1, d2, d3, d4] => { results := [.lit (.bool false)], args := [d1, d2, d3, d4] }
  | _ => none }
def ErrandWiderWrongFalsely : Prop := errandWiderRow.holds Tryz.pinned (OpenSpec.ofChange errandWiderWrong)

/- THE SECOND FORM. 'bulk': how many values and letters a reading holds, each counted each time it is reached (what is shared counts as often as it is met; a slice's spare places count too). A statement '..UptoSaid' is the law's where the arguments, and the package variables that the reading takes, are together of bulk at most 1048576: NARROWER than '..Said'. Prove '..Said' where nothing that the law and all that it calls make is longer than what came in: it says more and counts as full. Else prove '..UptoSaid'. A law counts once. -/
mutual
def uptoBulk {H : Type} : DataW H → Nat
  | .lit (.string bytes) => bytes.length + 1
  | .lit _ => 1
  | .nil => 1
  | .ptr d => uptoBulk d + 1
  | .slice elems spare => uptoBulkAll elems + uptoBulkAll spare + 1
  | .agg parts => uptoBulkAll parts + 1
  | .iface _ d => uptoBulk d + 1
  | .map entries => uptoBulkEntries entries + 1
  | .held _ => 1
def uptoBulkAll {H : Type} : List (DataW H) → Nat
  | [] => 0
  | d :: r => uptoBulk d + uptoBulkAll r
def uptoBulkEntries {H : Type} : List (Lit × DataW H) → Nat
  | [] => 0
  | x :: r => uptoBulkEntry x + uptoBulkEntries r
def uptoBulkEntry {H : Type} : Lit × DataW H → Nat
  | (.string bytes, d) => bytes.length + uptoBulk d + 1
  | (_, d) => uptoBulk d + 1
 end
def uptoSmall : (H : Type) → List (DataW H) → Bool := fun _ ds => decide (uptoBulkAll ds ≤ 1048576)
def OpenSpec.upto (s : _root_.Go.ChangeSpec) : _root_.Go.OpenSpec := { _root_.Go.OpenSpec.ofChange s with cond := some uptoSmall }

/-- 'posserlaw11.ErrandQuicker', WHERE WHAT IT READS IS OF BULK AT MOST 1048576: true; the input reads as it did. -/
def errandQuickerUptoRow : OpenClaim := { program := "ytdjkokpbeaapoaagreat", sum := "c951a11779aaf177c9ff455fecb0c3e6332cbece63b69efed29a8e3d9a3f6ff3", func := "posser/posserlaw11.ErrandQuicker", spec := "errandQuicker", unfollowed := true, recurses := true, plainKeys := false, apart := false, narrowed := true }
def ErrandQuickerUptoSaid : Prop := errandQuickerUptoRow.holds Tryz.pinned (OpenSpec.upto errandQuickerSpec)

/-- 'posserlaw11.ErrandWaited', WHERE WHAT IT READS IS OF BULK AT MOST 1048576: true; the input reads as it did. -/
def errandWaitedUptoRow : OpenClaim := { program := "ytdjkokpbeaapoaagreat", sum := "c951a11779aaf177c9ff455fecb0c3e6332cbece63b69efed29a8e3d9a3f6ff3", func := "posser/posserlaw11.ErrandWaited", spec := "errandWaited", unfollowed := true, recurses := true, plainKeys := false, apart := false, narrowed := true }
def ErrandWaitedUptoSaid : Prop := errandWaitedUptoRow.holds Tryz.pinned (OpenSpec.upto errandWaitedSpec)

/-- 'posserlaw11.ErrandBack', WHERE WHAT IT READS IS OF BULK AT MOST 1048576: true; the input reads as it did. -/
def errandBackUptoRow : OpenClaim := { program := "ytdjkokpbeaapoaagreat", sum := "c951a11779aaf177c9ff455fecb0c3e6332cbece63b69efed29a8e3d9a3f6ff3", func := "posser/posserlaw11.ErrandBack", spec := "errandBack", unfollowed := true, recurses := true, plainKeys := false, apart := false, narrowed := true }
def ErrandBackUptoSaid : Prop := errandBackUptoRow.holds Tryz.pinned (OpenSpec.upto errandBackSpec)

/-- 'posserlaw11.ErrandWay', WHERE WHAT IT READS IS OF BULK AT MOST 1048576: true; the input reads as it did. -/
def errandWayUptoRow : OpenClaim := { program := "ytdjkokpbeaapoaagreat", sum := "c951a11779aaf177c9ff455fecb0c3e6332cbece63b69efed29a8e3d9a3f6ff3", func := "posser/posserlaw11.ErrandWay", spec := "errandWay", unfollowed := true, recurses := true, plainKeys := false, apart := false, narrowed := true }
def ErrandWayUptoSaid : Prop := errandWayUptoRow.holds Tryz.pinned (OpenSpec.upto errandWaySpec)

/-- 'posserlaw11.ErrandLonger', WHERE WHAT IT READS IS OF BULK AT MOST 1048576: true; the input reads as it did. -/
def errandLongerUptoRow : OpenClaim := { program := "ytdjkokpbeaapoaagreat", sum := "c951a11779aaf177c9ff455fecb0c3e6332cbece63b69efed29a8e3d9a3f6ff3", func := "posser/posserlaw11.ErrandLonger", spec := "errandLonger", unfollowed := true, recurses := true, plainKeys := false, apart := false, narrowed := true }
def ErrandLongerUptoSaid : Prop := errandLongerUptoRow.holds Tryz.pinned (OpenSpec.upto errandLongerSpec)

/-- 'posserlaw11.ErrandWider', WHERE WHAT IT READS IS OF BULK AT MOST 1048576: true; the input reads as it did. -/
def errandWiderUptoRow : OpenClaim := { program := "ytdjkokpbeaapoaagreat", sum := "c951a11779aaf177c9ff455fecb0c3e6332cbece63b69efed29a8e3d9a3f6ff3", func := "posser/posserlaw11.ErrandWider", spec := "errandWider", unfollowed := true, recurses := true, plainKeys := false, apart := false, narrowed := true }
def ErrandWiderUptoSaid : Prop := errandWiderUptoRow.holds Tryz.pinned (OpenSpec.upto errandWiderSpec)

end Rows
end Go.Proofs.YtdjkokpbeaapoaaGreat
