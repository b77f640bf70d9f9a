/-
  No cell of these rows narrows 'for every input' (looked for: loops, veiled, ifaces, maps, wideKeys, modest, calm, conditions, laid).
  DERIVED. THE GIVEN ROWS OF THIS SEAT. 18 by the template 'for every input the law returns true; each argument reads behind the call as it read before'; 0 by the template 'total and deterministic' (their statements: YtgolpbkapphciaaTotals.lean).
  GIVEN WITH THE SEED: the statements are not yours to turn. If you find one false, say at which input.
  Laid BY PROGRAM, IN A SANDBOX (cutbox-rows.mjs): the forced cells as the released guide's own fill.sh prints them over the translation e28be5519e79afe9… (all of the seat's roots in one cut). By AI agents, Wed Nov 11 2026. No macro, syntax, notation, axiom, sorry.
-/
import Derived.Test.YtgolpbkapphciaaChecked
import GoSem.Claim
import GoSem.ClaimJoined
import GoSem.ClaimMapViews
import Derived.JoinedTies
import Derived.KernelRfl
namespace Go.Proofs.Ytgolpbkapphciaa
/- THE CELL 'sum', in the pinned program and in every row, IS THE sha256 OF THE DUMP (.gsa) THAT YtgolpbkapphciaaProg.lean LOADS. Nothing in Lean hashes anything: it is a label: what it is worth is what the hold of that sum in a sandbox is worth. -/
noncomputable def Try.pinned : Pinned := { name := "ytgolpbkapphciaa", sum := "e28be5519e79afe9d0f6fc591d50a2747ef7700d0d481dc3f8cafef87ff85ac4", checked := Try.checked }
namespace Rows
def none {H : Type} : Left H := { results := [], args := [] }

/-- 'posserlaw03.BundleWhose': WHATEVER THE INPUT: true; the input reads as it did. -/
def bundleWhoseSpec : ChangeSpec := { name := "bundleWhose", fn := fun _ => fun
  | [d] => { results := [.lit (.bool true)], args := [d] }
  | _ => none }
def bundleWhoseRow : OpenClaim := { program := "ytgolpbkapphciaa", sum := "e28be5519e79afe9d0f6fc591d50a2747ef7700d0d481dc3f8cafef87ff85ac4", func := "posser/posserlaw03.BundleWhose", spec := "bundleWhose", unfollowed := true, recurses := true, plainKeys := false, apart := false }
def BundleWhoseSaid : Prop := bundleWhoseRow.holds Try.pinned (OpenSpec.ofChange bundleWhoseSpec)

/-- ITS FALSE NEIGHBOUR: 'it returns false'. Refute it at one input. -/
def bundleWhoseWrong : ChangeSpec := { name := "bundleWhose", fn := fun _ => fun
  | [d] => { results := [.lit (.bool false)], args := [d] }
  | _ => none }
def BundleWhoseWrongFalsely : Prop := bundleWhoseRow.holds Try.pinned (OpenSpec.ofChange bundleWhoseWrong)

/-- 'posserlaw03.BundleMisses': WHATEVER THE INPUT: true; the input reads as it did. -/
def bundleMissesSpec : ChangeSpec := { name := "bundleMisses", fn := fun _ => fun
  | [d] => { results := [.lit (.bool true)], args := [d] }
  | _ => none }
def bundleMissesRow : OpenClaim := { program := "ytgolpbkapphciaa", sum := "e28be5519e79afe9d0f6fc591d50a2747ef7700d0d481dc3f8cafef87ff85ac4", func := "posser/posserlaw03.BundleMisses", spec := "bundleMisses", unfollowed := true, recurses := true, plainKeys := false, apart := false }
def BundleMissesSaid : Prop := bundleMissesRow.holds Try.pinned (OpenSpec.ofChange bundleMissesSpec)

/-- ITS FALSE NEIGHBOUR: 'it returns false'. Refute it at one input. -/
def bundleMissesWrong : ChangeSpec := { name := "bundleMisses", fn := fun _ => fun
  | [d] => { results := [.lit (.bool false)], args := [d] }
  | _ => none }
def BundleMissesWrongFalsely : Prop := bundleMissesRow.holds Try.pinned (OpenSpec.ofChange bundleMissesWrong)

/-- 'posserlaw03.BundleLooks': WHATEVER THE INPUT: true; the input reads as it did. -/
def bundleLooksSpec : ChangeSpec := { name := "bundleLooks", fn := fun _ => fun
  | [d] => { results := [.lit (.bool true)], args := [d] }
  | _ => none }
def bundleLooksRow : OpenClaim := { program := "ytgolpbkapphciaa", sum := "e28be5519e79afe9d0f6fc591d50a2747ef7700d0d481dc3f8cafef87ff85ac4", func := "posser/posserlaw03.BundleLooks", spec := "bundleLooks", unfollowed := true, recurses := true, plainKeys := false, apart := false }
def BundleLooksSaid : Prop := bundleLooksRow.holds Try.pinned (OpenSpec.ofChange bundleLooksSpec)

/-- ITS FALSE NEIGHBOUR: 'it returns false'. Refute it at one input. -/
def bundleLooksWrong : ChangeSpec := { name := "bundleLooks", fn := fun _ => fun
  | [d] => { results := [.lit (.bool false)], args := [d] }
  | _ => none }
def BundleLooksWrongFalsely : Prop := bundleLooksRow.holds Try.pinned (OpenSpec.ofChange bundleLooksWrong)

/-- 'posserlaw03.BundleLeaves': WHATEVER THE INPUT: true; the input reads as it did. -/
def bundleLeavesSpec : ChangeSpec := { name := "bundleLeaves", fn := fun _ => fun
  | [d] => { results := [.lit (.bool true)], args := [d] }
  | _ => none }
def bundleLeavesRow : OpenClaim := { program := "ytgolpbkapphciaa", sum := "e28be5519e79afe9d0f6fc591d50a2747ef7700d0d481dc3f8cafef87ff85ac4", func := "posser/posserlaw03.BundleLeaves", spec := "bundleLeaves", unfollowed := true, recurses := true, plainKeys := false, apart := false }
def BundleLeavesSaid : Prop := bundleLeavesRow.holds Try.pinned (OpenSpec.ofChange bundleLeavesSpec)

/-- ITS FALSE NEIGHBOUR: 'it returns false'. Refute it at one input. -/
def bundleLeavesWrong : ChangeSpec := { name := "bundleLeaves", fn := fun _ => fun
  | [d] => { results := [.lit (.bool false)], args := [d] }
  | _ => none }
def BundleLeavesWrongFalsely : Prop := bundleLeavesRow.holds Try.pinned (OpenSpec.ofChange bundleLeavesWrong)

/-- 'posserlaw03.BundleEnds': WHATEVER THE INPUT: true; the input reads as it did. -/
def bundleEndsSpec : ChangeSpec := { name := "bundleEnds", fn := fun _ => fun
  | [d1, d2] => { results := [.lit (.bool true)], args := [d1, d2] }
  | _ => none }
def bundleEndsRow : OpenClaim := { program := "ytgolpbkapphciaa", sum := "e28be5519e79afe9d0f6fc591d50a2747ef7700d0d481dc3f8cafef87ff85ac4", func := "posser/posserlaw03.BundleEnds", spec := "bundleEnds", unfollowed := true, recurses := true, plainKeys := false, apart := false }
def BundleEndsSaid : Prop := bundleEndsRow.holds Try.pinned (OpenSpec.ofChange bundleEndsSpec)

/-- ITS FALSE NEIGHBOUR: 'it returns false'. Refute it at one input. -/
def bundleEndsWrong : ChangeSpec := { name := "bundleEnds", fn := fun _ => fun
  | [d1, d2] => { results := [.lit (.bool false)], args := [d1, d2] }
  | _ => none }
def BundleEndsWrongFalsely : Prop := bundleEndsRow.holds Try.pinned (OpenSpec.ofChange bundleEndsWrong)

/-- 'posserlaw03.BundleOwn': WHATEVER THE INPUT: true; the input reads as it did. -/
def bundleOwnSpec : ChangeSpec := { name := "bundleOwn", fn := fun _ => fun
  | [d] => { results := [.lit (.bool true)], args := [d] }
  | _ => none }
def bundleOwnRow : OpenClaim := { program := "ytgolpbkapphciaa", sum := "e28be5519e79afe9d0f6fc591d50a2747ef7700d0d481dc3f8cafef87ff85ac4", func := "posser/posserlaw03.BundleOwn", spec := "bundleOwn", unfollowed := true, recurses := true, plainKeys := false, apart := false }
def BundleOwnSaid : Prop := bundleOwnRow.holds Try.pinned (OpenSpec.ofChange bundleOwnSpec)

/-- ITS FALSE NEIGHBOUR: 'it returns false'. Refute it at one input. -/
def bundleOwnWrong : ChangeSpec := { name := "bundleOwn", fn := fun _ => fun
  | [d] => { results := [.lit (.bool false)], args := [d] }
  | _ => none }
def BundleOwnWrongFalsely : Prop := bundleOwnRow.holds Try.pinned (OpenSpec.ofChange bundleOwnWrong)

/-- 'posserlaw03.BundleRead': WHATEVER THE INPUT: true; the input reads as it did. -/
def bundleReadSpec : ChangeSpec := { name := "bundleRead", fn := fun _ => fun
  | [d1, d2, d3] => { results := [.lit (.bool true)], args := [d1, d2, d3] }
  | _ => none }
def bundleReadRow : OpenClaim := { program := "ytgolpbkapphciaa", sum := "e28be5519e79afe9d0f6fc591d50a2747ef7700d0d481dc3f8cafef87ff85ac4", func := "posser/posserlaw03.BundleRead", spec := "bundleRead", unfollowed := true, recurses := true, plainKeys := false, apart := false }
def BundleReadSaid : Prop := bundleReadRow.holds Try.pinned (OpenSpec.ofChange bundleReadSpec)

/-- ITS FALSE NEIGHBOUR: 'it returns false'. Refute it at one input. -/
def bundleReadWrong : ChangeSpec := { name := "bundleRead", fn := fun _ => fun
  | [d1, d2, d3] => { results := [.lit (.bool false)], args := [d1, d2, d3] }
  | _ => none }
def BundleReadWrongFalsely : Prop := bundleReadRow.holds Try.pinned (OpenSpec.ofChange bundleReadWrong)

/-- 'posserlaw03.BundleMore': WHATEVER THE INPUT: true; the input reads as it did. -/
def bundleMoreSpec : ChangeSpec := { name := "bundleMore", fn := fun _ => fun
  | [d1, d2, d3] => { results := [.lit (.bool true)], args := [d1, d2, d3] }
  | _ => none }
def bundleMoreRow : OpenClaim := { program := "ytgolpbkapphciaa", sum := "e28be5519e79afe9d0f6fc591d50a2747ef7700d0d481dc3f8cafef87ff85ac4", func := "posser/posserlaw03.BundleMore", spec := "bundleMore", unfollowed := true, recurses := true, plainKeys := false, apart := false }
def BundleMoreSaid : Prop := bundleMoreRow.holds Try.pinned (OpenSpec.ofChange bundleMoreSpec)

/-- ITS FALSE NEIGHBOUR: 'it returns false'. Refute it at one input. -/
def bundleMoreWrong : ChangeSpec := { name := "bundleMore", fn := fun _ => fun
  | [d1, d2, d3] => { results := [.lit (.bool false)], args := [d1, d2, d3] }
  | _ => none }
def BundleMoreWrongFalsely : Prop := bundleMoreRow.holds Try.pinned (OpenSpec.ofChange bundleMoreWrong)

/-- 'posserlaw03.BundleLies': WHATEVER THE INPUT: true; the input reads as it did. -/
def bundleLiesSpec : ChangeSpec := { name := "bundleLies", fn := fun _ => fun
  | [d1, d2, d3] => { results := [.lit (.bool true)], args := [d1, d2, d3] }
  | _ => none }
def bundleLiesRow : OpenClaim := { program := "ytgolpbkapphciaa", sum := "e28be5519e79afe9d0f6fc591d50a2747ef7700d0d481dc3f8cafef87ff85ac4", func := "posser/posserlaw03.BundleLies", spec := "bundleLies", unfollowed := true, recurses := true, plainKeys := false, apart := false }
def BundleLiesSaid : Prop := bundleLiesRow.holds Try.pinned (OpenSpec.ofChange bundleLiesSpec)

/-- ITS FALSE NEIGHBOUR: 'it returns false'. Refute it at one input. -/
def bundleLiesWrong : ChangeSpec := { name := "bundleLies", fn := fun _ => fun
  | [d1, d2, d3] => { results := [.lit (.bool false)], args := [d1, d2, d3] }
  | _ => none }
def BundleLiesWrongFalsely : Prop := bundleLiesRow.holds Try.pinned (OpenSpec.ofChange bundleLiesWrong)

/-- 'posserlaw03.BundleLooked': WHATEVER THE INPUT: true; the input reads as it did. -/
def bundleLookedSpec : ChangeSpec := { name := "bundleLooked", fn := fun _ => fun
  | [d1, d2] => { results := [.lit (.bool true)], args := [d1, d2] }
  | _ => none }
def bundleLookedRow : OpenClaim := { program := "ytgolpbkapphciaa", sum := "e28be5519e79afe9d0f6fc591d50a2747ef7700d0d481dc3f8cafef87ff85ac4", func := "posser/posserlaw03.BundleLooked", spec := "bundleLooked", unfollowed := true, recurses := true, plainKeys := false, apart := false }
def BundleLookedSaid : Prop := bundleLookedRow.holds Try.pinned (OpenSpec.ofChange bundleLookedSpec)

/-- ITS FALSE NEIGHBOUR: 'it returns false'. Refute it at one input. -/
def bundleLookedWrong : ChangeSpec := { name := "bundleLooked", fn := fun _ => fun
  | [d1, d2] => { results := [.lit (.bool false)], args := [d1, d2] }
  | _ => none }
def BundleLookedWrongFalsely : Prop := bundleLookedRow.holds Try.pinned (OpenSpec.ofChange bundleLookedWrong)

/-- 'posserlaw03.BundleTurned': WHATEVER THE INPUT: true; the input reads as it did. -/
def bundleTurnedSpec : ChangeSpec := { name := "bundleTurned", fn := fun _ => fun
  | [d1, d2, d3] => { results := [.lit (.bool true)], args := [d1, d2, d3] }
  | _ => none }
def bundleTurnedRow : OpenClaim := { program := "ytgolpbkapphciaa", sum := "e28be5519e79afe9d0f6fc591d50a2747ef7700d0d481dc3f8cafef87ff85ac4", func := "posser/posserlaw03.BundleTurned", spec := "bundleTurned", unfollowed := true, recurses := true, plainKeys := false, apart := false }
def BundleTurnedSaid : Prop := bundleTurnedRow.holds Try.pinned (OpenSpec.ofChange bundleTurnedSpec)

/-- ITS FALSE NEIGHBOUR: 'it returns false'. Refute it at one input. -/
def bundleTurnedWrong : ChangeSpec := { name := "bundleTurned", fn := fun _ => fun
  | [d1, d2, d3] => { results := [.lit (.bool false)], args := [d1, d2, d3] }
  | _ => none }
def BundleTurnedWrongFalsely : Prop := bundleTurnedRow.holds Try.pinned (OpenSpec.ofChange bundleTurnedWrong)

/-- 'posserlaw03.BundleFirst': WHATEVER THE INPUT: true; the input reads as it did. -/
def bundleFirstSpec : ChangeSpec := { name := "bundleFirst", fn := fun _ => fun
  | [d] => { results := [.lit (.bool true)], args := [d] }
  | _ => none }
def bundleFirstRow : OpenClaim := { program := "ytgolpbkapphciaa", sum := "e28be5519e79afe9d0f6fc591d50a2747ef7700d0d481dc3f8cafef87ff85ac4", func := "posser/posserlaw03.BundleFirst", spec := "bundleFirst", unfollowed := true, recurses := true, plainKeys := false, apart := false }
def BundleFirstSaid : Prop := bundleFirstRow.holds Try.pinned (OpenSpec.ofChange bundleFirstSpec)

/-- ITS FALSE NEIGHBOUR: 'it returns false'. Refute it at one input. -/
def bundleFirstWrong : ChangeSpec := { name := "bundleFirst", fn := fun _ => fun
  | [d] => { results := [.lit (.bool false)], args := [d] }
  | _ => none }
def BundleFirstWrongFalsely : Prop := bundleFirstRow.holds Try.pinned (OpenSpec.ofChange bundleFirstWrong)

/-- 'posserlaw03.BundleLeft': WHATEVER THE INPUT: true; the input reads as it did. -/
def bundleLeftSpec : ChangeSpec := { name := "bundleLeft", fn := fun _ => fun
  | [d1, d2] => { results := [.lit (.bool true)], args := [d1, d2] }
  | _ => none }
def bundleLeftRow : OpenClaim := { program := "ytgolpbkapphciaa", sum := "e28be5519e79afe9d0f6fc591d50a2747ef7700d0d481dc3f8cafef87ff85ac4", func := "posser/posserlaw03.BundleLeft", spec := "bundleLeft", unfollowed := true, recurses := true, plainKeys := false, apart := false }
def BundleLeftSaid : Prop := bundleLeftRow.holds Try.pinned (OpenSpec.ofChange bundleLeftSpec)

/-- ITS FALSE NEIGHBOUR: 'it returns false'. Refute it at one input. -/
def bundleLeftWrong : ChangeSpec := { name := "bundleLeft", fn := fun _ => fun
  | [d1, d2] => { results := [.lit (.bool false)], args := [d1, d2] }
  | _ => none }
def BundleLeftWrongFalsely : Prop := bundleLeftRow.holds Try.pinned (OpenSpec.ofChange bundleLeftWrong)

/-- 'posserlaw03.BundlePlays': WHATEVER THE INPUT: true; the input reads as it did. -/
def bundlePlaysSpec : ChangeSpec := { name := "bundlePlays", fn := fun _ => fun
  | [d1, d2] => { results := [.lit (.bool true)], args := [d1, d2] }
  | _ => none }
def bundlePlaysRow : OpenClaim := { program := "ytgolpbkapphciaa", sum := "e28be5519e79afe9d0f6fc591d50a2747ef7700d0d481dc3f8cafef87ff85ac4", func := "posser/posserlaw03.BundlePlays", spec := "bundlePlays", unfollowed := true, recurses := true, plainKeys := false, apart := false }
def BundlePlaysSaid : Prop := bundlePlaysRow.holds Try.pinned (OpenSpec.ofChange bundlePlaysSpec)

/-- ITS FALSE NEIGHBOUR: 'it returns false'. Refute it at one input. -/
def bundlePlaysWrong : ChangeSpec := { name := "bundlePlays", fn := fun _ => fun
  | [d1, d2] => { results := [.lit (.bool false)], args := [d1, d2] }
  | _ => none }
def BundlePlaysWrongFalsely : Prop := bundlePlaysRow.holds Try.pinned (OpenSpec.ofChange bundlePlaysWrong)

/-- 'posserlaw03.BundleTruth': WHATEVER THE INPUT: true; the input reads as it did. -/
def bundleTruthSpec : ChangeSpec := { name := "bundleTruth", fn := fun _ => fun
  | [d1, d2, d3] => { results := [.lit (.bool true)], args := [d1, d2, d3] }
  | _ => none }
def bundleTruthRow : OpenClaim := { program := "ytgolpbkapphciaa", sum := "e28be5519e79afe9d0f6fc591d50a2747ef7700d0d481dc3f8cafef87ff85ac4", func := "posser/posserlaw03.BundleTruth", spec := "bundleTruth", unfollowed := true, recurses := true, plainKeys := false, apart := false }
def BundleTruthSaid : Prop := bundleTruthRow.holds Try.pinned (OpenSpec.ofChange bundleTruthSpec)

/-- ITS FALSE NEIGHBOUR: 'it returns false'. Refute it at one input. -/
def bundleTruthWrong : ChangeSpec := { name := "bundleTruth", fn := fun _ => fun
  | [d1, d2, d3] => { results := [.lit (.bool false)], args := [d1, d2, d3] }
  | _ => none }
def BundleTruthWrongFalsely : Prop := bundleTruthRow.holds Try.pinned (OpenSpec.ofChange bundleTruthWrong)

/-- 'posserlaw03.BundleFewest': WHATEVER THE INPUT: true; the input reads as it did. -/
def bundleFewestSpec : ChangeSpec := { name := "bundleFewest", fn := fun _ => fun
  | [d1, d2, d3] => { results := [.lit (.bool true)], args := [d1, d2, d3] }
  | _ => none }
def bundleFewestRow : OpenClaim := { program := "ytgolpbkapphciaa", sum := "e28be5519e79afe9d0f6fc591d50a2747ef7700d0d481dc3f8cafef87ff85ac4", func := "posser/posserlaw03.BundleFewest", spec := "bundleFewest", unfollowed := true, recurses := true, plainKeys := false, apart := false }
def BundleFewestSaid : Prop := bundleFewestRow.holds Try.pinned (OpenSpec.ofChange bundleFewestSpec)

/-- ITS FALSE NEIGHBOUR: 'it returns false'. Refute it at one input. -/
def bundleFewestWrong : ChangeSpec := { name := "bundleFewest", fn := fun _ => fun
  | [d1, d2, d3] => { results := [.lit (.bool false)], args := [d1, d2, d3] }
  | _ => none }
def BundleFewestWrongFalsely : Prop := bundleFewestRow.holds Try.pinned (OpenSpec.ofChange bundleFewestWrong)

/-- 'posserlaw03.BundleNames': WHATEVER THE INPUT: true; the input reads as it did. -/
def bundleNamesSpec : ChangeSpec := { name := "bundleNames", fn := fun _ => fun
  | [] => { results := [.lit (.bool true)], args := [] }
  | _ => none }
def bundleNamesRow : OpenClaim := { program := "ytgolpbkapphciaa", sum := "e28be5519e79afe9d0f6fc591d50a2747ef7700d0d481dc3f8cafef87ff85ac4", func := "posser/posserlaw03.BundleNames", spec := "bundleNames", unfollowed := true, recurses := true, plainKeys := false, apart := false }
def BundleNamesSaid : Prop := bundleNamesRow.holds Try.pinned (OpenSpec.ofChange bundleNamesSpec)

/-- ITS FALSE NEIGHBOUR: 'it returns false'. Refute it at one input. -/
def bundleNamesWrong : ChangeSpec := { name := "bundleNames", fn := fun _ => fun
  | [] => { results := [.lit (.bool false)], args := [] }
  | _ => none }
def BundleNamesWrongFalsely : Prop := bundleNamesRow.holds Try.pinned (OpenSpec.ofChange bundleNamesWrong)

/-- 'posserlaw03.BundleNoFewer': WHATEVER THE INPUT: true; the input reads as it did. -/
def bundleNoFewerSpec : ChangeSpec := { name := "bundleNoFewer", fn := fun _ => fun
  | [d1, d2] => { results := [.lit (.bool true)], args := [d1, d2] }
  | _ => none }
def bundleNoFewerRow : OpenClaim := { program := "ytgolpbkapphciaa", sum := "e28be5519e79afe9d0f6fc591d50a2747ef7700d0d481dc3f8cafef87ff85ac4", func := "posser/posserlaw03.BundleNoFewer", spec := "bundleNoFewer", unfollowed := true, recurses := true, plainKeys := false, apart := false }
def BundleNoFewerSaid : Prop := bundleNoFewerRow.holds Try.pinned (OpenSpec.ofChange bundleNoFewerSpec)

/-- ITS FALSE NEIGHBOUR: 'it returns false'. Refute it at one input. -/
def bundleNoFewerWrong : ChangeSpec := { name := "bundleNoFewer", fn := fun _ => fun
  | [d1, d2] => { results := [.lit (.bool false)], args := [d1, d2] }
  | _ => none }
def BundleNoFewerWrongFalsely : Prop := bundleNoFewerRow.holds Try.pinned (OpenSpec.ofChange bundleNoFewerWrong)

/- THE SECOND FORM. 'bulk': how many values and letters a reading holds, each counted each time it is reached (what is shared counts as often as it is met; a slice's spare places count too). A statement '..UptoSaid' is the law's where the arguments, and the package variables that the reading takes, are together of bulk at most 1048576: NARROWER than '..Said'. Prove '..Said' where nothing that the law and all that it calls make is longer than what came in: it says more and counts as full. Else prove '..UptoSaid'. A law counts once. -/
mutual
def uptoBulk {H : Type} : DataW H → Nat
  | .lit (.string bytes) => bytes.length + 1
  | .lit _ => 1
  | .nil => 1
  | .ptr d => uptoBulk d + 1
  | .slice elems spare => uptoBulkAll elems + uptoBulkAll spare + 1
  | .agg parts => uptoBulkAll parts + 1
  | .iface _ d => uptoBulk d + 1
  | .map entries => uptoBulkEntries entries + 1
  | .held _ => 1
def uptoBulkAll {H : Type} : List (DataW H) → Nat
  | [] => 0
  | d :: r => uptoBulk d + uptoBulkAll r
def uptoBulkEntries {H : Type} : List (Lit × DataW H) → Nat
  | [] => 0
  | x :: r => uptoBulkEntry x + uptoBulkEntries r
def uptoBulkEntry {H : Type} : Lit × DataW H → Nat
  | (.string bytes, d) => bytes.length + uptoBulk d + 1
  | (_, d) => uptoBulk d + 1
 end
def uptoSmall : (H : Type) → List (DataW H) → Bool := fun _ ds => decide (uptoBulkAll ds ≤ 1048576)
def OpenSpec.upto (s : _root_.Go.ChangeSpec) : _root_.Go.OpenSpec := { _root_.Go.OpenSpec.ofChange s with cond := some uptoSmall }

/-- 'posserlaw03.BundleWhose', WHERE WHAT IT READS IS OF BULK AT MOST 1048576: true; the input reads as it did. -/
def bundleWhoseUptoRow : OpenClaim := { program := "ytgolpbkapphciaa", sum := "e28be5519e79afe9d0f6fc591d50a2747ef7700d0d481dc3f8cafef87ff85ac4", func := "posser/posserlaw03.BundleWhose", spec := "bundleWhose", unfollowed := true, recurses := true, plainKeys := false, apart := false, narrowed := true }
def BundleWhoseUptoSaid : Prop := bundleWhoseUptoRow.holds Try.pinned (OpenSpec.upto bundleWhoseSpec)

/-- 'posserlaw03.BundleMisses', WHERE WHAT IT READS IS OF BULK AT MOST 1048576: true; the input reads as it did. -/
def bundleMissesUptoRow : OpenClaim := { program := "ytgolpbkapphciaa", sum := "e28be5519e79afe9d0f6fc591d50a2747ef7700d0d481dc3f8cafef87ff85ac4", func := "posser/posserlaw03.BundleMisses", spec := "bundleMisses", unfollowed := true, recurses := true, plainKeys := false, apart := false, narrowed := true }
def BundleMissesUptoSaid : Prop := bundleMissesUptoRow.holds Try.pinned (OpenSpec.upto bundleMissesSpec)

/-- 'posserlaw03.BundleLooks', WHERE WHAT IT READS IS OF BULK AT MOST 1048576: true; the input reads as it did. -/
def bundleLooksUptoRow : OpenClaim := { program := "ytgolpbkapphciaa", sum := "e28be5519e79afe9d0f6fc591d50a2747ef7700d0d481dc3f8cafef87ff85ac4", func := "posser/posserlaw03.BundleLooks", spec := "bundleLooks", unfollowed := true, recurses := true, plainKeys := false, apart := false, narrowed := true }
def BundleLooksUptoSaid : Prop := bundleLooksUptoRow.holds Try.pinned (OpenSpec.upto bundleLooksSpec)

/-- 'posserlaw03.BundleLeaves', WHERE WHAT IT READS IS OF BULK AT MOST 1048576: true; the input reads as it did. -/
def bundleLeavesUptoRow : OpenClaim := { program := "ytgolpbkapphciaa", sum := "e28be5519e79afe9d0f6fc591d50a2747ef7700d0d481dc3f8cafef87ff85ac4", func := "posser/posserlaw03.BundleLeaves", spec := "bundleLeaves", unfollowed := true, recurses := true, plainKeys := false, apart := false, narrowed := true }
def BundleLeavesUptoSaid : Prop := bundleLeavesUptoRow.holds Try.pinned (OpenSpec.upto bundleLeavesSpec)

/-- 'posserlaw03.BundleEnds', WHERE WHAT IT READS IS OF BULK AT MOST 1048576: true; the input reads as it did. -/
def bundleEndsUptoRow : OpenClaim := { program := "ytgolpbkapphciaa", sum := "e28be5519e79afe9d0f6fc591d50a2747ef7700d0d481dc3f8cafef87ff85ac4", func := "posser/posserlaw03.BundleEnds", spec := "bundleEnds", unfollowed := true, recurses := true, plainKeys := false, apart := false, narrowed := true }
def BundleEndsUptoSaid : Prop := bundleEndsUptoRow.holds Try.pinned (OpenSpec.upto bundleEndsSpec)

/-- 'posserlaw03.BundleOwn', WHERE WHAT IT READS IS OF BULK AT MOST 1048576: true; the input reads as it did. -/
def bundleOwnUptoRow : OpenClaim := { program := "ytgolpbkapphciaa", sum := "e28be5519e79afe9d0f6fc591d50a2747ef7700d0d481dc3f8cafef87ff85ac4", func := "posser/posserlaw03.BundleOwn", spec := "bundleOwn", unfollowed := true, recurses := true, plainKeys := false, apart := false, narrowed := true }
def BundleOwnUptoSaid : Prop := bundleOwnUptoRow.holds Try.pinned (OpenSpec.upto bundleOwnSpec)

/-- 'posserlaw03.BundleRead', WHERE WHAT IT READS IS OF BULK AT MOST 1048576: true; the input reads as it did. -/
def bundleReadUptoRow : OpenClaim := { program := "ytgolpbkapphciaa", sum := "e28be5519e79afe9d0f6fc591d50a2747ef7700d0d481dc3f8cafef87ff85ac4", func := "posser/posserlaw03.BundleRead", spec := "bundleRead", unfollowed := true, recurses := true, plainKeys := false, apart := false, narrowed := true }
def BundleReadUptoSaid : Prop := bundleReadUptoRow.holds Try.pinned (OpenSpec.upto bundleReadSpec)

/-- 'posserlaw03.BundleMore', WHERE WHAT IT READS IS OF BULK AT MOST 1048576: true; the input reads as it did. -/
def bundleMoreUptoRow : OpenClaim := { program := "ytgolpbkapphciaa", sum := "e28be5519e79afe9d0f6fc591d50a2747ef7700d0d481dc3f8cafef87ff85ac4", func := "posser/posserlaw03.BundleMore", spec := "bundleMore", unfollowed := true, recurses := true, plainKeys := false, apart := false, narrowed := true }
def BundleMoreUptoSaid : Prop := bundleMoreUptoRow.holds Try.pinned (OpenSpec.upto bundleMoreSpec)

/-- 'posserlaw03.BundleLies', WHERE WHAT IT READS IS OF BULK AT MOST 1048576: true; the input reads as it did. -/
def bundleLiesUptoRow : OpenClaim := { program := "ytgolpbkapphciaa", sum := "e28be5519e79afe9d0f6fc591d50a2747ef7700d0d481dc3f8cafef87ff85ac4", func := "posser/posserlaw03.BundleLies", spec := "bundleLies", unfollowed := true, recurses := true, plainKeys := false, apart := false, narrowed := true }
def BundleLiesUptoSaid : Prop := bundleLiesUptoRow.holds Try.pinned (OpenSpec.upto bundleLiesSpec)

/-- 'posserlaw03.BundleLooked', WHERE WHAT IT READS IS OF BULK AT MOST 1048576: true; the input reads as it did. -/
def bundleLookedUptoRow : OpenClaim := { program := "ytgolpbkapphciaa", sum := "e28be5519e79afe9d0f6fc591d50a2747ef7700d0d481dc3f8cafef87ff85ac4", func := "posser/posserlaw03.BundleLooked", spec := "bundleLooked", unfollowed := true, recurses := true, plainKeys := false, apart := false, narrowed := true }
def BundleLookedUptoSaid : Prop := bundleLookedUptoRow.holds Try.pinned (OpenSpec.upto bundleLookedSpec)

/-- 'posserlaw03.BundleTurned', WHERE WHAT IT READS IS OF BULK AT MOST 1048576: true; the input reads as it did. -/
def bundleTurnedUptoRow : OpenClaim := { program := "ytgolpbkapphciaa", sum := "e28be5519e79afe9d0f6fc591d50a2747ef7700d0d481dc3f8cafef87ff85ac4", func := "posser/posserlaw03.BundleTurned", spec := "bundleTurned", unfollowed := true, recurses := true, plainKeys := false, apart := false, narrowed := true }
def BundleTurnedUptoSaid : Prop := bundleTurnedUptoRow.holds Try.pinned (OpenSpec.upto bundleTurnedSpec)

/-- 'posserlaw03.BundleFirst', WHERE WHAT IT READS IS OF BULK AT MOST 1048576: true; the input reads as it did. -/
def bundleFirstUptoRow : OpenClaim := { program := "ytgolpbkapphciaa", sum := "e28be5519e79afe9d0f6fc591d50a2747ef7700d0d481dc3f8cafef87ff85ac4", func := "posser/posserlaw03.BundleFirst", spec := "bundleFirst", unfollowed := true, recurses := true, plainKeys := false, apart := false, narrowed := true }
def BundleFirstUptoSaid : Prop := bundleFirstUptoRow.holds Try.pinned (OpenSpec.upto bundleFirstSpec)

/-- 'posserlaw03.BundleLeft', WHERE WHAT IT READS IS OF BULK AT MOST 1048576: true; the input reads as it did. -/
def bundleLeftUptoRow : OpenClaim := { program := "ytgolpbkapphciaa", sum := "e28be5519e79afe9d0f6fc591d50a2747ef7700d0d481dc3f8cafef87ff85ac4", func := "posser/posserlaw03.BundleLeft", spec := "bundleLeft", unfollowed := true, recurses := true, plainKeys := false, apart := false, narrowed := true }
def BundleLeftUptoSaid : Prop := bundleLeftUptoRow.holds Try.pinned (OpenSpec.upto bundleLeftSpec)

/-- 'posserlaw03.BundlePlays', WHERE WHAT IT READS IS OF BULK AT MOST 1048576: true; the input reads as it did. -/
def bundlePlaysUptoRow : OpenClaim := { program := "ytgolpbkapphciaa", sum := "e28be5519e79afe9d0f6fc591d50a2747ef7700d0d481dc3f8cafef87ff85ac4", func := "posser/posserlaw03.BundlePlays", spec := "bundlePlays", unfollowed := true, recurses := true, plainKeys := false, apart := false, narrowed := true }
def BundlePlaysUptoSaid : Prop := bundlePlaysUptoRow.holds Try.pinned (OpenSpec.upto bundlePlaysSpec)

/-- 'posserlaw03.BundleTruth', WHERE WHAT IT READS IS OF BULK AT MOST 1048576: true; the input reads as it did. -/
def bundleTruthUptoRow : OpenClaim := { program := "ytgolpbkapphciaa", sum := "e28be5519e79afe9d0f6fc591d50a2747ef7700d0d481dc3f8cafef87ff85ac4", func := "posser/posserlaw03.BundleTruth", spec := "bundleTruth", unfollowed := true, recurses := true, plainKeys := false, apart := false, narrowed := true }
def BundleTruthUptoSaid : Prop := bundleTruthUptoRow.holds Try.pinned (OpenSpec.upto bundleTruthSpec)

/-- 'posserlaw03.BundleFewest', WHERE WHAT IT READS IS OF BULK AT MOST 1048576: true; the input reads as it did. -/
def bundleFewestUptoRow : OpenClaim := { program := "ytgolpbkapphciaa", sum := "e28be5519e79afe9d0f6fc591d50a2747ef7700d0d481dc3f8cafef87ff85ac4", func := "posser/posserlaw03.BundleFewest", spec := "bundleFewest", unfollowed := true, recurses := true, plainKeys := false, apart := false, narrowed := true }
def BundleFewestUptoSaid : Prop := bundleFewestUptoRow.holds Try.pinned (OpenSpec.upto bundleFewestSpec)

/-- 'posserlaw03.BundleNames', WHERE WHAT IT READS IS OF BULK AT MOST 1048576: true; the input reads as it did. -/
def bundleNamesUptoRow : OpenClaim := { program := "ytgolpbkapphciaa", sum := "e28be5519e79afe9d0f6fc591d50a2747ef7700d0d481dc3f8cafef87ff85ac4", func := "posser/posserlaw03.BundleNames", spec := "bundleNames", unfollowed := true, recurses := true, plainKeys := false, apart := false, narrowed := true }
def BundleNamesUptoSaid : Prop := bundleNamesUptoRow.holds Try.pinned (OpenSpec.upto bundleNamesSpec)

/-- 'posserlaw03.BundleNoFewer', WHERE WHAT IT READS IS OF BULK AT MOST 1048576: true; the input reads as it did. -/
def bundleNoFewerUptoRow : OpenClaim := { program := "ytgolpbkapphciaa", sum := "e28be5519e79afe9d0f6fc591d50a2747ef7700d0d481dc3f8cafef87ff85ac4", func := "posser/posserlaw03.BundleNoFewer", spec := "bundleNoFewer", unfollowed := true, recurses := true, plainKeys := false, apart := false, narrowed := true }
def BundleNoFewerUptoSaid : Prop := bundleNoFewerUptoRow.holds Try.pinned (OpenSpec.upto bundleNoFewerSpec)

end Rows
end Go.Proofs.Ytgolpbkapphciaa
