/-
  No cell of these rows narrows 'for every input' (looked for: loops, veiled, ifaces, maps, wideKeys, modest, calm, conditions, laid).
  DERIVED. THE GIVEN ROWS OF THIS SEAT. 11 by the template 'for every input the law returns true; each argument reads behind the call as it read before'; 0 by the template 'total and deterministic' (their statements: YtnfdefkojbookaaTotals.lean).
  GIVEN WITH THE SEED: the statements are not yours to turn. If you find one false, say at which input.
  Laid BY PROGRAM, IN A SANDBOX (cutbox-rows.mjs): the forced cells as the released guide's own fill.sh prints them over the translation ce82dc66049b30df… (all of the seat's roots in one cut). By AI agents, Wed Nov 11 2026. No macro, syntax, notation, axiom, sorry.
-/
import Derived.Test.YtnfdefkojbookaaChecked
import GoSem.Claim
import GoSem.ClaimJoined
import GoSem.ClaimMapViews
import Derived.JoinedTies
import Derived.KernelRfl
namespace Go.Proofs.Ytnfdefkojbookaa
/- THE CELL 'sum', in the pinned program and in every row, IS THE sha256 OF THE DUMP (.gsa) THAT YtnfdefkojbookaaProg.lean LOADS. Nothing in Lean hashes anything: it is a label: what it is worth is what the hold of that sum in a sandbox is worth. -/
noncomputable def Try.pinned : Pinned := { name := "ytnfdefkojbookaa", sum := "ce82dc66049b30dfe4e079a6cb0ea88f7bf1664c0cc13edf37387604ed0da7c5", checked := Try.checked }
namespace Rows
def none {H : Type} : Left H := { results := [], args := [] }

/-- 'laws.FnExactAreNeighbours': WHATEVER THE INPUT: true; the input reads as it did. -/
def fnExactAreNeighboursSpec : ChangeSpec := { name := "fnExactAreNeighbours", fn := fun _ => fun
  | [d1, d2] => { results := [.lit (.bool true)], args := [d1, d2] }
  | _ => none }
def fnExactAreNeighboursRow : OpenClaim := { program := "ytnfdefkojbookaa", sum := "ce82dc66049b30dfe4e079a6cb0ea88f7bf1664c0cc13edf37387604ed0da7c5", func := "loop.example/g01003/laws.FnExactAreNeighbours", spec := "fnExactAreNeighbours", apart := false }
def FnExactAreNeighboursSaid : Prop := fnExactAreNeighboursRow.holds Try.pinned (OpenSpec.ofChange fnExactAreNeighboursSpec)

/-- ITS FALSE NEIGHBOUR: 'it returns false'. Refute it at one input. -/
def fnExactAreNeighboursWrong : ChangeSpec := { name := "fnExactAreNeighbours", fn := fun _ => fun
  | [d1, d2] => { results := [.lit (.bool false)], args := [d1, d2] }
  | _ => none }
def FnExactAreNeighboursWrongFalsely : Prop := fnExactAreNeighboursRow.holds Try.pinned (OpenSpec.ofChange fnExactAreNeighboursWrong)

/-- 'laws.FnExactMediantOf': WHATEVER THE INPUT: true; the input reads as it did. -/
def fnExactMediantOfSpec : ChangeSpec := { name := "fnExactMediantOf", fn := fun _ => fun
  | [d1, d2] => { results := [.lit (.bool true)], args := [d1, d2] }
  | _ => none }
def fnExactMediantOfRow : OpenClaim := { program := "ytnfdefkojbookaa", sum := "ce82dc66049b30dfe4e079a6cb0ea88f7bf1664c0cc13edf37387604ed0da7c5", func := "loop.example/g01003/laws.FnExactMediantOf", spec := "fnExactMediantOf", apart := false }
def FnExactMediantOfSaid : Prop := fnExactMediantOfRow.holds Try.pinned (OpenSpec.ofChange fnExactMediantOfSpec)

/-- ITS FALSE NEIGHBOUR: 'it returns false'. Refute it at one input. -/
def fnExactMediantOfWrong : ChangeSpec := { name := "fnExactMediantOf", fn := fun _ => fun
  | [d1, d2] => { results := [.lit (.bool false)], args := [d1, d2] }
  | _ => none }
def FnExactMediantOfWrongFalsely : Prop := fnExactMediantOfRow.holds Try.pinned (OpenSpec.ofChange fnExactMediantOfWrong)

/-- 'laws.FnExactContinuedFraction': WHATEVER THE INPUT: true; the input reads as it did. -/
def fnExactContinuedFractionSpec : ChangeSpec := { name := "fnExactContinuedFraction", fn := fun _ => fun
  | [d] => { results := [.lit (.bool true)], args := [d] }
  | _ => none }
def fnExactContinuedFractionRow : OpenClaim := { program := "ytnfdefkojbookaa", sum := "ce82dc66049b30dfe4e079a6cb0ea88f7bf1664c0cc13edf37387604ed0da7c5", func := "loop.example/g01003/laws.FnExactContinuedFraction", spec := "fnExactContinuedFraction", apart := false }
def FnExactContinuedFractionSaid : Prop := fnExactContinuedFractionRow.holds Try.pinned (OpenSpec.ofChange fnExactContinuedFractionSpec)

/-- ITS FALSE NEIGHBOUR: 'it returns false'. Refute it at one input. -/
def fnExactContinuedFractionWrong : ChangeSpec := { name := "fnExactContinuedFraction", fn := fun _ => fun
  | [d] => { results := [.lit (.bool false)], args := [d] }
  | _ => none }
def FnExactContinuedFractionWrongFalsely : Prop := fnExactContinuedFractionRow.holds Try.pinned (OpenSpec.ofChange fnExactContinuedFractionWrong)

/-- 'laws.FnExactPathTo': WHATEVER THE INPUT: true; the input reads as it did. -/
def fnExactPathToSpec : ChangeSpec := { name := "fnExactPathTo", fn := fun _ => fun
  | [d] => { results := [.lit (.bool true)], args := [d] }
  | _ => none }
def fnExactPathToRow : OpenClaim := { program := "ytnfdefkojbookaa", sum := "ce82dc66049b30dfe4e079a6cb0ea88f7bf1664c0cc13edf37387604ed0da7c5", func := "loop.example/g01003/laws.FnExactPathTo", spec := "fnExactPathTo", inPlace := ["internal/abi.NoEscape"], apart := false }
def FnExactPathToSaid : Prop := fnExactPathToRow.holds Try.pinned (OpenSpec.ofChange fnExactPathToSpec)

/-- ITS FALSE NEIGHBOUR: 'it returns false'. Refute it at one input. -/
def fnExactPathToWrong : ChangeSpec := { name := "fnExactPathTo", fn := fun _ => fun
  | [d] => { results := [.lit (.bool false)], args := [d] }
  | _ => none }
def FnExactPathToWrongFalsely : Prop := fnExactPathToRow.holds Try.pinned (OpenSpec.ofChange fnExactPathToWrong)

/-- 'laws.FnExactSimplestBetween': WHATEVER THE INPUT: true; the input reads as it did. -/
def fnExactSimplestBetweenSpec : ChangeSpec := { name := "fnExactSimplestBetween", fn := fun _ => fun
  | [d1, d2] => { results := [.lit (.bool true)], args := [d1, d2] }
  | _ => none }
def fnExactSimplestBetweenRow : OpenClaim := { program := "ytnfdefkojbookaa", sum := "ce82dc66049b30dfe4e079a6cb0ea88f7bf1664c0cc13edf37387604ed0da7c5", func := "loop.example/g01003/laws.FnExactSimplestBetween", spec := "fnExactSimplestBetween", unfollowed := true, recurses := true, apart := false }
def FnExactSimplestBetweenSaid : Prop := fnExactSimplestBetweenRow.holds Try.pinned (OpenSpec.ofChange fnExactSimplestBetweenSpec)

/-- ITS FALSE NEIGHBOUR: 'it returns false'. Refute it at one input. -/
def fnExactSimplestBetweenWrong : ChangeSpec := { name := "fnExactSimplestBetween", fn := fun _ => fun
  | [d1, d2] => { results := [.lit (.bool false)], args := [d1, d2] }
  | _ => none }
def FnExactSimplestBetweenWrongFalsely : Prop := fnExactSimplestBetweenRow.holds Try.pinned (OpenSpec.ofChange fnExactSimplestBetweenWrong)

/-- 'laws.FnExactFromContinued': WHATEVER THE INPUT: true; the input reads as it did. -/
def fnExactFromContinuedSpec : ChangeSpec := { name := "fnExactFromContinued", fn := fun _ => fun
  | [d] => { results := [.lit (.bool true)], args := [d] }
  | _ => none }
def fnExactFromContinuedRow : OpenClaim := { program := "ytnfdefkojbookaa", sum := "ce82dc66049b30dfe4e079a6cb0ea88f7bf1664c0cc13edf37387604ed0da7c5", func := "loop.example/g01003/laws.FnExactFromContinued", spec := "fnExactFromContinued", unfollowed := true, recurses := true, apart := false }
def FnExactFromContinuedSaid : Prop := fnExactFromContinuedRow.holds Try.pinned (OpenSpec.ofChange fnExactFromContinuedSpec)

/-- ITS FALSE NEIGHBOUR: 'it returns false'. Refute it at one input. -/
def fnExactFromContinuedWrong : ChangeSpec := { name := "fnExactFromContinued", fn := fun _ => fun
  | [d] => { results := [.lit (.bool false)], args := [d] }
  | _ => none }
def FnExactFromContinuedWrongFalsely : Prop := fnExactFromContinuedRow.holds Try.pinned (OpenSpec.ofChange fnExactFromContinuedWrong)

/-- 'laws.FnExactConvergentsOf': WHATEVER THE INPUT: true; the input reads as it did. -/
def fnExactConvergentsOfSpec : ChangeSpec := { name := "fnExactConvergentsOf", fn := fun _ => fun
  | [d] => { results := [.lit (.bool true)], args := [d] }
  | _ => none }
def fnExactConvergentsOfRow : OpenClaim := { program := "ytnfdefkojbookaa", sum := "ce82dc66049b30dfe4e079a6cb0ea88f7bf1664c0cc13edf37387604ed0da7c5", func := "loop.example/g01003/laws.FnExactConvergentsOf", spec := "fnExactConvergentsOf", apart := false }
def FnExactConvergentsOfSaid : Prop := fnExactConvergentsOfRow.holds Try.pinned (OpenSpec.ofChange fnExactConvergentsOfSpec)

/-- ITS FALSE NEIGHBOUR: 'it returns false'. Refute it at one input. -/
def fnExactConvergentsOfWrong : ChangeSpec := { name := "fnExactConvergentsOf", fn := fun _ => fun
  | [d] => { results := [.lit (.bool false)], args := [d] }
  | _ => none }
def FnExactConvergentsOfWrongFalsely : Prop := fnExactConvergentsOfRow.holds Try.pinned (OpenSpec.ofChange fnExactConvergentsOfWrong)

/-- 'laws.FnExactBestApproximation': WHATEVER THE INPUT: true; the input reads as it did. -/
def fnExactBestApproximationSpec : ChangeSpec := { name := "fnExactBestApproximation", fn := fun _ => fun
  | [d1, d2] => { results := [.lit (.bool true)], args := [d1, d2] }
  | _ => none }
def fnExactBestApproximationRow : OpenClaim := { program := "ytnfdefkojbookaa", sum := "ce82dc66049b30dfe4e079a6cb0ea88f7bf1664c0cc13edf37387604ed0da7c5", func := "loop.example/g01003/laws.FnExactBestApproximation", spec := "fnExactBestApproximation", unfollowed := true, recurses := true, apart := false }
def FnExactBestApproximationSaid : Prop := fnExactBestApproximationRow.holds Try.pinned (OpenSpec.ofChange fnExactBestApproximationSpec)

/-- ITS FALSE NEIGHBOUR: 'it returns false'. Refute it at one input. -/
def fnExactBestApproximationWrong : ChangeSpec := { name := "fnExactBestApproximation", fn := fun _ => fun
  | [d1, d2] => { results := [.lit (.bool false)], args := [d1, d2] }
  | _ => none }
def FnExactBestApproximationWrongFalsely : Prop := fnExactBestApproximationRow.holds Try.pinned (OpenSpec.ofChange fnExactBestApproximationWrong)

/-- 'laws.FnExactFareyNeighbours': WHATEVER THE INPUT: true; the input reads as it did. -/
def fnExactFareyNeighboursSpec : ChangeSpec := { name := "fnExactFareyNeighbours", fn := fun _ => fun
  | [d1, d2] => { results := [.lit (.bool true)], args := [d1, d2] }
  | _ => none }
def fnExactFareyNeighboursRow : OpenClaim := { program := "ytnfdefkojbookaa", sum := "ce82dc66049b30dfe4e079a6cb0ea88f7bf1664c0cc13edf37387604ed0da7c5", func := "loop.example/g01003/laws.FnExactFareyNeighbours", spec := "fnExactFareyNeighbours", unfollowed := true, recurses := true, apart := false }
def FnExactFareyNeighboursSaid : Prop := fnExactFareyNeighboursRow.holds Try.pinned (OpenSpec.ofChange fnExactFareyNeighboursSpec)

/-- ITS FALSE NEIGHBOUR: 'it returns false'. Refute it at one input. -/
def fnExactFareyNeighboursWrong : ChangeSpec := { name := "fnExactFareyNeighbours", fn := fun _ => fun
  | [d1, d2] => { results := [.lit (.bool false)], args := [d1, d2] }
  | _ => none }
def FnExactFareyNeighboursWrongFalsely : Prop := fnExactFareyNeighboursRow.holds Try.pinned (OpenSpec.ofChange fnExactFareyNeighboursWrong)

/-- 'laws.FnExactFareyList': WHATEVER THE INPUT: true; the input reads as it did. -/
def fnExactFareyListSpec : ChangeSpec := { name := "fnExactFareyList", fn := fun _ => fun
  | [d] => { results := [.lit (.bool true)], args := [d] }
  | _ => none }
def fnExactFareyListRow : OpenClaim := { program := "ytnfdefkojbookaa", sum := "ce82dc66049b30dfe4e079a6cb0ea88f7bf1664c0cc13edf37387604ed0da7c5", func := "loop.example/g01003/laws.FnExactFareyList", spec := "fnExactFareyList", unfollowed := true, recurses := true, apart := false }
def FnExactFareyListSaid : Prop := fnExactFareyListRow.holds Try.pinned (OpenSpec.ofChange fnExactFareyListSpec)

/-- ITS FALSE NEIGHBOUR: 'it returns false'. Refute it at one input. -/
def fnExactFareyListWrong : ChangeSpec := { name := "fnExactFareyList", fn := fun _ => fun
  | [d] => { results := [.lit (.bool false)], args := [d] }
  | _ => none }
def FnExactFareyListWrongFalsely : Prop := fnExactFareyListRow.holds Try.pinned (OpenSpec.ofChange fnExactFareyListWrong)

/-- 'laws.FnFareyLists': WHATEVER THE INPUT: true; the input reads as it did. -/
def fnFareyListsSpec : ChangeSpec := { name := "fnFareyLists", fn := fun _ => fun
  | [d1, d2] => { results := [.lit (.bool true)], args := [d1, d2] }
  | _ => none }
def fnFareyListsRow : OpenClaim := { program := "ytnfdefkojbookaa", sum := "ce82dc66049b30dfe4e079a6cb0ea88f7bf1664c0cc13edf37387604ed0da7c5", func := "loop.example/g01003/laws.FnFareyLists", spec := "fnFareyLists", unfollowed := true, recurses := true, apart := false }
def FnFareyListsSaid : Prop := fnFareyListsRow.holds Try.pinned (OpenSpec.ofChange fnFareyListsSpec)

/-- ITS FALSE NEIGHBOUR: 'it returns false'. Refute it at one input. -/
def fnFareyListsWrong : ChangeSpec := { name := "fnFareyLists", fn := fun _ => fun
  | [d1, d2] => { results := [.lit (.bool false)], args := [d1, d2] }
  | _ => none }
def FnFareyListsWrongFalsely : Prop := fnFareyListsRow.holds Try.pinned (OpenSpec.ofChange fnFareyListsWrong)

/- THE SECOND FORM. 'bulk': how many values and letters a reading holds, each counted each time it is reached (what is shared counts as often as it is met; a slice's spare places count too). A statement '..UptoSaid' is the law's where the arguments, and the package variables that the reading takes, are together of bulk at most 1048576: NARROWER than '..Said'. Prove '..Said' where nothing that the law and all that it calls make is longer than what came in: it says more and counts as full. Else prove '..UptoSaid'. A law counts once. -/
mutual
def uptoBulk {H : Type} : DataW H → Nat
  | .lit (.string bytes) => bytes.length + 1
  | .lit _ => 1
  | .nil => 1
  | .ptr d => uptoBulk d + 1
  | .slice elems spare => uptoBulkAll elems + uptoBulkAll spare + 1
  | .agg parts => uptoBulkAll parts + 1
  | .iface _ d => uptoBulk d + 1
  | .map entries => uptoBulkEntries entries + 1
  | .held _ => 1
def uptoBulkAll {H : Type} : List (DataW H) → Nat
  | [] => 0
  | d :: r => uptoBulk d + uptoBulkAll r
def uptoBulkEntries {H : Type} : List (Lit × DataW H) → Nat
  | [] => 0
  | x :: r => uptoBulkEntry x + uptoBulkEntries r
def uptoBulkEntry {H : Type} : Lit × DataW H → Nat
  | (.string bytes, d) => bytes.length + uptoBulk d + 1
  | (_, d) => uptoBulk d + 1
 end
def uptoSmall : (H : Type) → List (DataW H) → Bool := fun _ ds => decide (uptoBulkAll ds ≤ 1048576)
def OpenSpec.upto (s : _root_.Go.ChangeSpec) : _root_.Go.OpenSpec := { _root_.Go.OpenSpec.ofChange s with cond := some uptoSmall }

/-- 'laws.FnExactAreNeighbours', WHERE WHAT IT READS IS OF BULK AT MOST 1048576: true; the input reads as it did. -/
def fnExactAreNeighboursUptoRow : OpenClaim := { program := "ytnfdefkojbookaa", sum := "ce82dc66049b30dfe4e079a6cb0ea88f7bf1664c0cc13edf37387604ed0da7c5", func := "loop.example/g01003/laws.FnExactAreNeighbours", spec := "fnExactAreNeighbours", apart := false, narrowed := true }
def FnExactAreNeighboursUptoSaid : Prop := fnExactAreNeighboursUptoRow.holds Try.pinned (OpenSpec.upto fnExactAreNeighboursSpec)

/-- 'laws.FnExactMediantOf', WHERE WHAT IT READS IS OF BULK AT MOST 1048576: true; the input reads as it did. -/
def fnExactMediantOfUptoRow : OpenClaim := { program := "ytnfdefkojbookaa", sum := "ce82dc66049b30dfe4e079a6cb0ea88f7bf1664c0cc13edf37387604ed0da7c5", func := "loop.example/g01003/laws.FnExactMediantOf", spec := "fnExactMediantOf", apart := false, narrowed := true }
def FnExactMediantOfUptoSaid : Prop := fnExactMediantOfUptoRow.holds Try.pinned (OpenSpec.upto fnExactMediantOfSpec)

/-- 'laws.FnExactContinuedFraction', WHERE WHAT IT READS IS OF BULK AT MOST 1048576: true; the input reads as it did. -/
def fnExactContinuedFractionUptoRow : OpenClaim := { program := "ytnfdefkojbookaa", sum := "ce82dc66049b30dfe4e079a6cb0ea88f7bf1664c0cc13edf37387604ed0da7c5", func := "loop.example/g01003/laws.FnExactContinuedFraction", spec := "fnExactContinuedFraction", apart := false, narrowed := true }
def FnExactContinuedFractionUptoSaid : Prop := fnExactContinuedFractionUptoRow.holds Try.pinned (OpenSpec.upto fnExactContinuedFractionSpec)

/-- 'laws.FnExactPathTo', WHERE WHAT IT READS IS OF BULK AT MOST 1048576: true; the input reads as it did. -/
def fnExactPathToUptoRow : OpenClaim := { program := "ytnfdefkojbookaa", sum := "ce82dc66049b30dfe4e079a6cb0ea88f7bf1664c0cc13edf37387604ed0da7c5", func := "loop.example/g01003/laws.FnExactPathTo", spec := "fnExactPathTo", inPlace := ["internal/abi.NoEscape"], apart := false, narrowed := true }
def FnExactPathToUptoSaid : Prop := fnExactPathToUptoRow.holds Try.pinned (OpenSpec.upto fnExactPathToSpec)

/-- 'laws.FnExactSimplestBetween', WHERE WHAT IT READS IS OF BULK AT MOST 1048576: true; the input reads as it did. -/
def fnExactSimplestBetweenUptoRow : OpenClaim := { program := "ytnfdefkojbookaa", sum := "ce82dc66049b30dfe4e079a6cb0ea88f7bf1664c0cc13edf37387604ed0da7c5", func := "loop.example/g01003/laws.FnExactSimplestBetween", spec := "fnExactSimplestBetween", unfollowed := true, recurses := true, apart := false, narrowed := true }
def FnExactSimplestBetweenUptoSaid : Prop := fnExactSimplestBetweenUptoRow.holds Try.pinned (OpenSpec.upto fnExactSimplestBetweenSpec)

/-- 'laws.FnExactFromContinued', WHERE WHAT IT READS IS OF BULK AT MOST 1048576: true; the input reads as it did. -/
def fnExactFromContinuedUptoRow : OpenClaim := { program := "ytnfdefkojbookaa", sum := "ce82dc66049b30dfe4e079a6cb0ea88f7bf1664c0cc13edf37387604ed0da7c5", func := "loop.example/g01003/laws.FnExactFromContinued", spec := "fnExactFromContinued", unfollowed := true, recurses := true, apart := false, narrowed := true }
def FnExactFromContinuedUptoSaid : Prop := fnExactFromContinuedUptoRow.holds Try.pinned (OpenSpec.upto fnExactFromContinuedSpec)

/-- 'laws.FnExactConvergentsOf', WHERE WHAT IT READS IS OF BULK AT MOST 1048576: true; the input reads as it did. -/
def fnExactConvergentsOfUptoRow : OpenClaim := { program := "ytnfdefkojbookaa", sum := "ce82dc66049b30dfe4e079a6cb0ea88f7bf1664c0cc13edf37387604ed0da7c5", func := "loop.example/g01003/laws.FnExactConvergentsOf", spec := "fnExactConvergentsOf", apart := false, narrowed := true }
def FnExactConvergentsOfUptoSaid : Prop := fnExactConvergentsOfUptoRow.holds Try.pinned (OpenSpec.upto fnExactConvergentsOfSpec)

/-- 'laws.FnExactBestApproximation', WHERE WHAT IT READS IS OF BULK AT MOST 1048576: true; the input reads as it did. -/
def fnExactBestApproximationUptoRow : OpenClaim := { program := "ytnfdefkojbookaa", sum := "ce82dc66049b30dfe4e079a6cb0ea88f7bf1664c0cc13edf37387604ed0da7c5", func := "loop.example/g01003/laws.FnExactBestApproximation", spec := "fnExactBestApproximation", unfollowed := true, recurses := true, apart := false, narrowed := true }
def FnExactBestApproximationUptoSaid : Prop := fnExactBestApproximationUptoRow.holds Try.pinned (OpenSpec.upto fnExactBestApproximationSpec)

/-- 'laws.FnExactFareyNeighbours', WHERE WHAT IT READS IS OF BULK AT MOST 1048576: true; the input reads as it did. -/
def fnExactFareyNeighboursUptoRow : OpenClaim := { program := "ytnfdefkojbookaa", sum := "ce82dc66049b30dfe4e079a6cb0ea88f7bf1664c0cc13edf37387604ed0da7c5", func := "loop.example/g01003/laws.FnExactFareyNeighbours", spec := "fnExactFareyNeighbours", unfollowed := true, recurses := true, apart := false, narrowed := true }
def FnExactFareyNeighboursUptoSaid : Prop := fnExactFareyNeighboursUptoRow.holds Try.pinned (OpenSpec.upto fnExactFareyNeighboursSpec)

/-- 'laws.FnExactFareyList', WHERE WHAT IT READS IS OF BULK AT MOST 1048576: true; the input reads as it did. -/
def fnExactFareyListUptoRow : OpenClaim := { program := "ytnfdefkojbookaa", sum := "ce82dc66049b30dfe4e079a6cb0ea88f7bf1664c0cc13edf37387604ed0da7c5", func := "loop.example/g01003/laws.FnExactFareyList", spec := "fnExactFareyList", unfollowed := true, recurses := true, apart := false, narrowed := true }
def FnExactFareyListUptoSaid : Prop := fnExactFareyListUptoRow.holds Try.pinned (OpenSpec.upto fnExactFareyListSpec)

/-- 'laws.FnFareyLists', WHERE WHAT IT READS IS OF BULK AT MOST 1048576: true; the input reads as it did. -/
def fnFareyListsUptoRow : OpenClaim := { program := "ytnfdefkojbookaa", sum := "ce82dc66049b30dfe4e079a6cb0ea88f7bf1664c0cc13edf37387604ed0da7c5", func := "loop.example/g01003/laws.FnFareyLists", spec := "fnFareyLists", unfollowed := true, recurses := true, apart := false, narrowed := true }
def FnFareyListsUptoSaid : Prop := fnFareyListsUptoRow.holds Try.pinned (OpenSpec.upto fnFareyListsSpec)

end Rows
end Go.Proofs.Ytnfdefkojbookaa
