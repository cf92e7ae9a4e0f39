/-
  No cell of these rows narrows 'for every input' (looked for: loops, veiled, ifaces, maps, wideKeys, modest, calm, conditions, laid).
  DERIVED. THE GIVEN ROWS OF THIS SEAT. 6 by the template 'for every input the law returns true; each argument reads behind the call as it read before'; 0 by the template 'total and deterministic' (their statements: YtpddkloikegoiaaTotals.lean).
  GIVEN WITH THE SEED: the statements are not yours to turn. If you find one false, say at which input.
  Laid BY PROGRAM, IN A SANDBOX (cutbox-rows.mjs): the forced cells as the released guide's own fill.sh prints them over the translation f31c2adbfe3c6ba2… (all of the seat's roots in one cut). By AI agents, Wed Nov 11 2026. No macro, syntax, notation, axiom, sorry.
-/
import Derived.Test.YtpddkloikegoiaaChecked
import GoSem.Claim
import GoSem.ClaimJoined
import GoSem.ClaimMapViews
import Derived.JoinedTies
import Derived.KernelRfl
namespace Go.Proofs.Ytpddkloikegoiaa
/- THE CELL 'sum', in the pinned program and in every row, IS THE sha256 OF THE DUMP (.gsa) THAT YtpddkloikegoiaaProg.lean LOADS. Nothing in Lean hashes anything: it is a label: what it is worth is what the hold of that sum in a sandbox is worth. -/
noncomputable def Try.pinned : Pinned := { name := "ytpddkloikegoiaa", sum := "f31c2adbfe3c6ba24e699479f0e2b606d7895881ec76b06bd12ac4fd04e7fce2", checked := Try.checked }
namespace Rows
def none {H : Type} : Left H := { results := [], args := [] }

/-- 'laws.FnExactBestApproximation': WHATEVER THE INPUT: true; the input reads as it did. -/
def fnExactBestApproximationSpec : ChangeSpec := { name := "fnExactBestApproximation", fn := fun _ => fun
  | [d1, d2] => { results := [.lit (.bool true)], args := [d1, d2] }
  | _ => none }
def fnExactBestApproximationRow : OpenClaim := { program := "ytpddkloikegoiaa", sum := "f31c2adbfe3c6ba24e699479f0e2b606d7895881ec76b06bd12ac4fd04e7fce2", func := "loop.example/g01003/laws.FnExactBestApproximation", spec := "fnExactBestApproximation", unfollowed := true, recurses := true, apart := false }
def FnExactBestApproximationSaid : Prop := fnExactBestApproximationRow.holds Try.pinned (OpenSpec.ofChange fnExactBestApproximationSpec)

/-- ITS FALSE NEIGHBOUR: 'it returns false'. Refute it at one input. -/
def fnExactBestApproximationWrong : ChangeSpec := { name := "fnExactBestApproximation", fn := fun _ => fun
  | [d1, d2] => { results := [.lit (.bool false)], args := [d1, d2] }
  | _ => none }
def FnExactBestApproximationWrongFalsely : Prop := fnExactBestApproximationRow.holds Try.pinned (OpenSpec.ofChange fnExactBestApproximationWrong)

/-- 'laws.FnExactFareyNeighbours': WHATEVER THE INPUT: true; the input reads as it did. -/
def fnExactFareyNeighboursSpec : ChangeSpec := { name := "fnExactFareyNeighbours", fn := fun _ => fun
  | [d1, d2] => { results := [.lit (.bool true)], args := [d1, d2] }
  | _ => none }
def fnExactFareyNeighboursRow : OpenClaim := { program := "ytpddkloikegoiaa", sum := "f31c2adbfe3c6ba24e699479f0e2b606d7895881ec76b06bd12ac4fd04e7fce2", func := "loop.example/g01003/laws.FnExactFareyNeighbours", spec := "fnExactFareyNeighbours", unfollowed := true, recurses := true, apart := false }
def FnExactFareyNeighboursSaid : Prop := fnExactFareyNeighboursRow.holds Try.pinned (OpenSpec.ofChange fnExactFareyNeighboursSpec)

/-- ITS FALSE NEIGHBOUR: 'it returns false'. Refute it at one input. -/
def fnExactFareyNeighboursWrong : ChangeSpec := { name := "fnExactFareyNeighbours", fn := fun _ => fun
  | [d1, d2] => { results := [.lit (.bool false)], args := [d1, d2] }
  | _ => none }
def FnExactFareyNeighboursWrongFalsely : Prop := fnExactFareyNeighboursRow.holds Try.pinned (OpenSpec.ofChange fnExactFareyNeighboursWrong)

/-- 'laws.FnExactFareyList': WHATEVER THE INPUT: true; the input reads as it did. -/
def fnExactFareyListSpec : ChangeSpec := { name := "fnExactFareyList", fn := fun _ => fun
  | [d] => { results := [.lit (.bool true)], args := [d] }
  | _ => none }
def fnExactFareyListRow : OpenClaim := { program := "ytpddkloikegoiaa", sum := "f31c2adbfe3c6ba24e699479f0e2b606d7895881ec76b06bd12ac4fd04e7fce2", func := "loop.example/g01003/laws.FnExactFareyList", spec := "fnExactFareyList", unfollowed := true, recurses := true, apart := false }
def FnExactFareyListSaid : Prop := fnExactFareyListRow.holds Try.pinned (OpenSpec.ofChange fnExactFareyListSpec)

/-- ITS FALSE NEIGHBOUR: 'it returns false'. Refute it at one input. -/
def fnExactFareyListWrong : ChangeSpec := { name := "fnExactFareyList", fn := fun _ => fun
  | [d] => { results := [.lit (.bool false)], args := [d] }
  | _ => none }
def FnExactFareyListWrongFalsely : Prop := fnExactFareyListRow.holds Try.pinned (OpenSpec.ofChange fnExactFareyListWrong)

/-- 'laws.FnExactPathTo': WHATEVER THE INPUT: true; the input reads as it did. -/
def fnExactPathToSpec : ChangeSpec := { name := "fnExactPathTo", fn := fun _ => fun
  | [d] => { results := [.lit (.bool true)], args := [d] }
  | _ => none }
def fnExactPathToRow : OpenClaim := { program := "ytpddkloikegoiaa", sum := "f31c2adbfe3c6ba24e699479f0e2b606d7895881ec76b06bd12ac4fd04e7fce2", func := "loop.example/g01003/laws.FnExactPathTo", spec := "fnExactPathTo", inPlace := ["internal/abi.NoEscape"], apart := false }
def FnExactPathToSaid : Prop := fnExactPathToRow.holds Try.pinned (OpenSpec.ofChange fnExactPathToSpec)

/-- ITS FALSE NEIGHBOUR: 'it returns false'. Refute it at one input. -/
def fnExactPathToWrong : ChangeSpec := { name := "fnExactPathTo", fn := fun _ => fun
  | [d] => { results := [.lit (.bool false)], args := [d] }
  | _ => none }
def FnExactPathToWrongFalsely : Prop := fnExactPathToRow.holds Try.pinned (OpenSpec.ofChange fnExactPathToWrong)

/-- 'laws.FnExactTestPoints': WHATEVER THE INPUT: true; the input reads as it did. -/
def fnExactTestPointsSpec : ChangeSpec := { name := "fnExactTestPoints", fn := fun _ => fun
  | [d1, d2, d3] => { results := [.lit (.bool true)], args := [d1, d2, d3] }
  | _ => none }
def fnExactTestPointsRow : OpenClaim := { program := "ytpddkloikegoiaa", sum := "f31c2adbfe3c6ba24e699479f0e2b606d7895881ec76b06bd12ac4fd04e7fce2", func := "loop.example/g01003/laws.FnExactTestPoints", spec := "fnExactTestPoints", unfollowed := true, recurses := true, apart := false }
def FnExactTestPointsSaid : Prop := fnExactTestPointsRow.holds Try.pinned (OpenSpec.ofChange fnExactTestPointsSpec)

/-- ITS FALSE NEIGHBOUR: 'it returns false'. Refute it at one input. -/
def fnExactTestPointsWrong : ChangeSpec := { name := "fnExactTestPoints", fn := fun _ => fun
  | [d1, d2, d3] => { results := [.lit (.bool false)], args := [d1, d2, d3] }
  | _ => none }
def FnExactTestPointsWrongFalsely : Prop := fnExactTestPointsRow.holds Try.pinned (OpenSpec.ofChange fnExactTestPointsWrong)

/-- 'laws.FnExactIsReflected': WHATEVER THE INPUT: true; the input reads as it did. -/
def fnExactIsReflectedSpec : ChangeSpec := { name := "fnExactIsReflected", fn := fun _ => fun
  | [d1, d2] => { results := [.lit (.bool true)], args := [d1, d2] }
  | _ => none }
def fnExactIsReflectedRow : OpenClaim := { program := "ytpddkloikegoiaa", sum := "f31c2adbfe3c6ba24e699479f0e2b606d7895881ec76b06bd12ac4fd04e7fce2", func := "loop.example/g01003/laws.FnExactIsReflected", spec := "fnExactIsReflected", unfollowed := true, recurses := true, apart := false }
def FnExactIsReflectedSaid : Prop := fnExactIsReflectedRow.holds Try.pinned (OpenSpec.ofChange fnExactIsReflectedSpec)

/-- ITS FALSE NEIGHBOUR: 'it returns false'. Refute it at one input. -/
def fnExactIsReflectedWrong : ChangeSpec := { name := "fnExactIsReflected", fn := fun _ => fun
  | [d1, d2] => { results := [.lit (.bool false)], args := [d1, d2] }
  | _ => none }
def FnExactIsReflectedWrongFalsely : Prop := fnExactIsReflectedRow.holds Try.pinned (OpenSpec.ofChange fnExactIsReflectedWrong)

/- THE SECOND FORM. 'bulk': how many values and letters a reading holds, each counted each time it is reached (what is shared counts as often as it is met; a slice's spare places count too). A statement '..UptoSaid' is the law's where the arguments, and the package variables that the reading takes, are together of bulk at most 1048576: NARROWER than '..Said'. Prove '..Said' where nothing that the law and all that it calls make is longer than what came in: it says more and counts as full. Else prove '..UptoSaid'. A law counts once. -/
mutual
def uptoBulk {H : Type} : DataW H → Nat
  | .lit (.string bytes) => bytes.length + 1
  | .lit _ => 1
  | .nil => 1
  | .ptr d => uptoBulk d + 1
  | .slice elems spare => uptoBulkAll elems + uptoBulkAll spare + 1
  | .agg parts => uptoBulkAll parts + 1
  | .iface _ d => uptoBulk d + 1
  | .map entries => uptoBulkEntries entries + 1
  | .held _ => 1
def uptoBulkAll {H : Type} : List (DataW H) → Nat
  | [] => 0
  | d :: r => uptoBulk d + uptoBulkAll r
def uptoBulkEntries {H : Type} : List (Lit × DataW H) → Nat
  | [] => 0
  | x :: r => uptoBulkEntry x + uptoBulkEntries r
def uptoBulkEntry {H : Type} : Lit × DataW H → Nat
  | (.string bytes, d) => bytes.length + uptoBulk d + 1
  | (_, d) => uptoBulk d + 1
 end
def uptoSmall : (H : Type) → List (DataW H) → Bool := fun _ ds => decide (uptoBulkAll ds ≤ 1048576)
def OpenSpec.upto (s : _root_.Go.ChangeSpec) : _root_.Go.OpenSpec := { _root_.Go.OpenSpec.ofChange s with cond := some uptoSmall }

/-- 'laws.FnExactBestApproximation', WHERE WHAT IT READS IS OF BULK AT MOST 1048576: true; the input reads as it did. -/
def fnExactBestApproximationUptoRow : OpenClaim := { program := "ytpddkloikegoiaa", sum := "f31c2adbfe3c6ba24e699479f0e2b606d7895881ec76b06bd12ac4fd04e7fce2", func := "loop.example/g01003/laws.FnExactBestApproximation", spec := "fnExactBestApproximation", unfollowed := true, recurses := true, apart := false, narrowed := true }
def FnExactBestApproximationUptoSaid : Prop := fnExactBestApproximationUptoRow.holds Try.pinned (OpenSpec.upto fnExactBestApproximationSpec)

/-- 'laws.FnExactFareyNeighbours', WHERE WHAT IT READS IS OF BULK AT MOST 1048576: true; the input reads as it did. -/
def fnExactFareyNeighboursUptoRow : OpenClaim := { program := "ytpddkloikegoiaa", sum := "f31c2adbfe3c6ba24e699479f0e2b606d7895881ec76b06bd12ac4fd04e7fce2", func := "loop.example/g01003/laws.FnExactFareyNeighbours", spec := "fnExactFareyNeighbours", unfollowed := true, recurses := true, apart := false, narrowed := true }
def FnExactFareyNeighboursUptoSaid : Prop := fnExactFareyNeighboursUptoRow.holds Try.pinned (OpenSpec.upto fnExactFareyNeighboursSpec)

/-- 'laws.FnExactFareyList', WHERE WHAT IT READS IS OF BULK AT MOST 1048576: true; the input reads as it did. -/
def fnExactFareyListUptoRow : OpenClaim := { program := "ytpddkloikegoiaa", sum := "f31c2adbfe3c6ba24e699479f0e2b606d7895881ec76b06bd12ac4fd04e7fce2", func := "loop.example/g01003/laws.FnExactFareyList", spec := "fnExactFareyList", unfollowed := true, recurses := true, apart := false, narrowed := true }
def FnExactFareyListUptoSaid : Prop := fnExactFareyListUptoRow.holds Try.pinned (OpenSpec.upto fnExactFareyListSpec)

/-- 'laws.FnExactPathTo', WHERE WHAT IT READS IS OF BULK AT MOST 1048576: true; the input reads as it did. -/
def fnExactPathToUptoRow : OpenClaim := { program := "ytpddkloikegoiaa", sum := "f31c2adbfe3c6ba24e699479f0e2b606d7895881ec76b06bd12ac4fd04e7fce2", func := "loop.example/g01003/laws.FnExactPathTo", spec := "fnExactPathTo", inPlace := ["internal/abi.NoEscape"], apart := false, narrowed := true }
def FnExactPathToUptoSaid : Prop := fnExactPathToUptoRow.holds Try.pinned (OpenSpec.upto fnExactPathToSpec)

/-- 'laws.FnExactTestPoints', WHERE WHAT IT READS IS OF BULK AT MOST 1048576: true; the input reads as it did. -/
def fnExactTestPointsUptoRow : OpenClaim := { program := "ytpddkloikegoiaa", sum := "f31c2adbfe3c6ba24e699479f0e2b606d7895881ec76b06bd12ac4fd04e7fce2", func := "loop.example/g01003/laws.FnExactTestPoints", spec := "fnExactTestPoints", unfollowed := true, recurses := true, apart := false, narrowed := true }
def FnExactTestPointsUptoSaid : Prop := fnExactTestPointsUptoRow.holds Try.pinned (OpenSpec.upto fnExactTestPointsSpec)

/-- 'laws.FnExactIsReflected', WHERE WHAT IT READS IS OF BULK AT MOST 1048576: true; the input reads as it did. -/
def fnExactIsReflectedUptoRow : OpenClaim := { program := "ytpddkloikegoiaa", sum := "f31c2adbfe3c6ba24e699479f0e2b606d7895881ec76b06bd12ac4fd04e7fce2", func := "loop.example/g01003/laws.FnExactIsReflected", spec := "fnExactIsReflected", unfollowed := true, recurses := true, apart := false, narrowed := true }
def FnExactIsReflectedUptoSaid : Prop := fnExactIsReflectedUptoRow.holds Try.pinned (OpenSpec.upto fnExactIsReflectedSpec)

end Rows
end Go.Proofs.Ytpddkloikegoiaa
