/-
  No cell of these rows narrows 'for every input' (looked for: loops, veiled, ifaces, maps, wideKeys, modest, calm, conditions, laid).
  DERIVED. THE GIVEN ROWS OF THIS SEAT. 8 by the template 'for every input the law returns true; each argument reads behind the call as it read before'; 0 by the template 'total and deterministic' (their statements: YteofgabnmifgkaaTotals.lean).
  GIVEN WITH THE SEED: the statements are not yours to turn. If you find one false, say at which input.
  Laid BY PROGRAM, IN A SANDBOX (cutbox-rows.mjs): the forced cells as the released guide's own fill.sh prints them over the translation 9c34312ae05f5df3… (all of the seat's roots in one cut). By AI agents, Wed Nov 11 2026. No macro, syntax, notation, axiom, sorry.
-/
import Derived.Test.YteofgabnmifgkaaChecked
import GoSem.Claim
import GoSem.ClaimJoined
import GoSem.ClaimMapViews
import Derived.JoinedTies
import Derived.KernelRfl
namespace Go.Proofs.Yteofgabnmifgkaa
/- THE CELL 'sum', in the pinned program and in every row, IS THE sha256 OF THE DUMP (.gsa) THAT YteofgabnmifgkaaProg.lean LOADS. Nothing in Lean hashes anything: it is a label: what it is worth is what the hold of that sum in a sandbox is worth. -/
noncomputable def Try.pinned : Pinned := { name := "yteofgabnmifgkaa", sum := "9c34312ae05f5df3a1b25e65070b78429ac9bc92150ad0e442e861ef9675509c", checked := Try.checked }
namespace Rows
def none {H : Type} : Left H := { results := [], args := [] }

/-- 'laws.FnExactIsPattern': WHATEVER THE INPUT: true; the input reads as it did. -/
def fnExactIsPatternSpec : ChangeSpec := { name := "fnExactIsPattern", fn := fun _ => fun
  | [d] => { results := [.lit (.bool true)], args := [d] }
  | _ => none }
def fnExactIsPatternRow : OpenClaim := { program := "yteofgabnmifgkaa", sum := "9c34312ae05f5df3a1b25e65070b78429ac9bc92150ad0e442e861ef9675509c", func := "loop.example/g01003/laws.FnExactIsPattern", spec := "fnExactIsPattern", unfollowed := true, recurses := true, apart := false }
def FnExactIsPatternSaid : Prop := fnExactIsPatternRow.holds Try.pinned (OpenSpec.ofChange fnExactIsPatternSpec)

/-- ITS FALSE NEIGHBOUR: 'it returns false'. Refute it at one input. -/
def fnExactIsPatternWrong : ChangeSpec := { name := "fnExactIsPattern", fn := fun _ => fun
  | [d] => { results := [.lit (.bool false)], args := [d] }
  | _ => none }
def FnExactIsPatternWrongFalsely : Prop := fnExactIsPatternRow.holds Try.pinned (OpenSpec.ofChange fnExactIsPatternWrong)

/-- 'laws.FnExactPatternStep': WHATEVER THE INPUT: true; the input reads as it did. -/
def fnExactPatternStepSpec : ChangeSpec := { name := "fnExactPatternStep", fn := fun _ => fun
  | [d1, d2, d3] => { results := [.lit (.bool true)], args := [d1, d2, d3] }
  | _ => none }
def fnExactPatternStepRow : OpenClaim := { program := "yteofgabnmifgkaa", sum := "9c34312ae05f5df3a1b25e65070b78429ac9bc92150ad0e442e861ef9675509c", func := "loop.example/g01003/laws.FnExactPatternStep", spec := "fnExactPatternStep", unfollowed := true, recurses := true, apart := false }
def FnExactPatternStepSaid : Prop := fnExactPatternStepRow.holds Try.pinned (OpenSpec.ofChange fnExactPatternStepSpec)

/-- ITS FALSE NEIGHBOUR: 'it returns false'. Refute it at one input. -/
def fnExactPatternStepWrong : ChangeSpec := { name := "fnExactPatternStep", fn := fun _ => fun
  | [d1, d2, d3] => { results := [.lit (.bool false)], args := [d1, d2, d3] }
  | _ => none }
def FnExactPatternStepWrongFalsely : Prop := fnExactPatternStepRow.holds Try.pinned (OpenSpec.ofChange fnExactPatternStepWrong)

/-- 'laws.FnExactCycleOf': WHATEVER THE INPUT: true; the input reads as it did. -/
def fnExactCycleOfSpec : ChangeSpec := { name := "fnExactCycleOf", fn := fun _ => fun
  | [d] => { results := [.lit (.bool true)], args := [d] }
  | _ => none }
def fnExactCycleOfRow : OpenClaim := { program := "yteofgabnmifgkaa", sum := "9c34312ae05f5df3a1b25e65070b78429ac9bc92150ad0e442e861ef9675509c", func := "loop.example/g01003/laws.FnExactCycleOf", spec := "fnExactCycleOf", unfollowed := true, recurses := true, apart := false }
def FnExactCycleOfSaid : Prop := fnExactCycleOfRow.holds Try.pinned (OpenSpec.ofChange fnExactCycleOfSpec)

/-- ITS FALSE NEIGHBOUR: 'it returns false'. Refute it at one input. -/
def fnExactCycleOfWrong : ChangeSpec := { name := "fnExactCycleOf", fn := fun _ => fun
  | [d] => { results := [.lit (.bool false)], args := [d] }
  | _ => none }
def FnExactCycleOfWrongFalsely : Prop := fnExactCycleOfRow.holds Try.pinned (OpenSpec.ofChange fnExactCycleOfWrong)

/-- 'laws.FnExactInversePattern': WHATEVER THE INPUT: true; the input reads as it did. -/
def fnExactInversePatternSpec : ChangeSpec := { name := "fnExactInversePattern", fn := fun _ => fun
  | [d] => { results := [.lit (.bool true)], args := [d] }
  | _ => none }
def fnExactInversePatternRow : OpenClaim := { program := "yteofgabnmifgkaa", sum := "9c34312ae05f5df3a1b25e65070b78429ac9bc92150ad0e442e861ef9675509c", func := "loop.example/g01003/laws.FnExactInversePattern", spec := "fnExactInversePattern", unfollowed := true, recurses := true, apart := false }
def FnExactInversePatternSaid : Prop := fnExactInversePatternRow.holds Try.pinned (OpenSpec.ofChange fnExactInversePatternSpec)

/-- ITS FALSE NEIGHBOUR: 'it returns false'. Refute it at one input. -/
def fnExactInversePatternWrong : ChangeSpec := { name := "fnExactInversePattern", fn := fun _ => fun
  | [d] => { results := [.lit (.bool false)], args := [d] }
  | _ => none }
def FnExactInversePatternWrongFalsely : Prop := fnExactInversePatternRow.holds Try.pinned (OpenSpec.ofChange fnExactInversePatternWrong)

/-- 'laws.FnExactIsStaircase': WHATEVER THE INPUT: true; the input reads as it did. -/
def fnExactIsStaircaseSpec : ChangeSpec := { name := "fnExactIsStaircase", fn := fun _ => fun
  | [d] => { results := [.lit (.bool true)], args := [d] }
  | _ => none }
def fnExactIsStaircaseRow : OpenClaim := { program := "yteofgabnmifgkaa", sum := "9c34312ae05f5df3a1b25e65070b78429ac9bc92150ad0e442e861ef9675509c", func := "loop.example/g01003/laws.FnExactIsStaircase", spec := "fnExactIsStaircase", unfollowed := true, recurses := true, apart := false }
def FnExactIsStaircaseSaid : Prop := fnExactIsStaircaseRow.holds Try.pinned (OpenSpec.ofChange fnExactIsStaircaseSpec)

/-- ITS FALSE NEIGHBOUR: 'it returns false'. Refute it at one input. -/
def fnExactIsStaircaseWrong : ChangeSpec := { name := "fnExactIsStaircase", fn := fun _ => fun
  | [d] => { results := [.lit (.bool false)], args := [d] }
  | _ => none }
def FnExactIsStaircaseWrongFalsely : Prop := fnExactIsStaircaseRow.holds Try.pinned (OpenSpec.ofChange fnExactIsStaircaseWrong)

/-- 'laws.FnExactWidestStep': WHATEVER THE INPUT: true; the input reads as it did. -/
def fnExactWidestStepSpec : ChangeSpec := { name := "fnExactWidestStep", fn := fun _ => fun
  | [d] => { results := [.lit (.bool true)], args := [d] }
  | _ => none }
def fnExactWidestStepRow : OpenClaim := { program := "yteofgabnmifgkaa", sum := "9c34312ae05f5df3a1b25e65070b78429ac9bc92150ad0e442e861ef9675509c", func := "loop.example/g01003/laws.FnExactWidestStep", spec := "fnExactWidestStep", apart := false }
def FnExactWidestStepSaid : Prop := fnExactWidestStepRow.holds Try.pinned (OpenSpec.ofChange fnExactWidestStepSpec)

/-- ITS FALSE NEIGHBOUR: 'it returns false'. Refute it at one input. -/
def fnExactWidestStepWrong : ChangeSpec := { name := "fnExactWidestStep", fn := fun _ => fun
  | [d] => { results := [.lit (.bool false)], args := [d] }
  | _ => none }
def FnExactWidestStepWrongFalsely : Prop := fnExactWidestStepRow.holds Try.pinned (OpenSpec.ofChange fnExactWidestStepWrong)

/-- 'laws.FnExactMergeStairs': WHATEVER THE INPUT: true; the input reads as it did. -/
def fnExactMergeStairsSpec : ChangeSpec := { name := "fnExactMergeStairs", fn := fun _ => fun
  | [d1, d2] => { results := [.lit (.bool true)], args := [d1, d2] }
  | _ => none }
def fnExactMergeStairsRow : OpenClaim := { program := "yteofgabnmifgkaa", sum := "9c34312ae05f5df3a1b25e65070b78429ac9bc92150ad0e442e861ef9675509c", func := "loop.example/g01003/laws.FnExactMergeStairs", spec := "fnExactMergeStairs", apart := false }
def FnExactMergeStairsSaid : Prop := fnExactMergeStairsRow.holds Try.pinned (OpenSpec.ofChange fnExactMergeStairsSpec)

/-- ITS FALSE NEIGHBOUR: 'it returns false'. Refute it at one input. -/
def fnExactMergeStairsWrong : ChangeSpec := { name := "fnExactMergeStairs", fn := fun _ => fun
  | [d1, d2] => { results := [.lit (.bool false)], args := [d1, d2] }
  | _ => none }
def FnExactMergeStairsWrongFalsely : Prop := fnExactMergeStairsRow.holds Try.pinned (OpenSpec.ofChange fnExactMergeStairsWrong)

/-- 'laws.FnExactStepsOfStair': WHATEVER THE INPUT: true; the input reads as it did. -/
def fnExactStepsOfStairSpec : ChangeSpec := { name := "fnExactStepsOfStair", fn := fun _ => fun
  | [d] => { results := [.lit (.bool true)], args := [d] }
  | _ => none }
def fnExactStepsOfStairRow : OpenClaim := { program := "yteofgabnmifgkaa", sum := "9c34312ae05f5df3a1b25e65070b78429ac9bc92150ad0e442e861ef9675509c", func := "loop.example/g01003/laws.FnExactStepsOfStair", spec := "fnExactStepsOfStair", apart := false }
def FnExactStepsOfStairSaid : Prop := fnExactStepsOfStairRow.holds Try.pinned (OpenSpec.ofChange fnExactStepsOfStairSpec)

/-- ITS FALSE NEIGHBOUR: 'it returns false'. Refute it at one input. -/
def fnExactStepsOfStairWrong : ChangeSpec := { name := "fnExactStepsOfStair", fn := fun _ => fun
  | [d] => { results := [.lit (.bool false)], args := [d] }
  | _ => none }
def FnExactStepsOfStairWrongFalsely : Prop := fnExactStepsOfStairRow.holds Try.pinned (OpenSpec.ofChange fnExactStepsOfStairWrong)

/- THE SECOND FORM. 'bulk': how many values and letters a reading holds, each counted each time it is reached (what is shared counts as often as it is met; a slice's spare places count too). A statement '..UptoSaid' is the law's where the arguments, and the package variables that the reading takes, are together of bulk at most 1048576: NARROWER than '..Said'. Prove '..Said' where nothing that the law and all that it calls make is longer than what came in: it says more and counts as full. Else prove '..UptoSaid'. A law counts once. -/
mutual
def uptoBulk {H : Type} : DataW H → Nat
  | .lit (.string bytes) => bytes.length + 1
  | .lit _ => 1
  | .nil => 1
  | .ptr d => uptoBulk d + 1
  | .slice elems spare => uptoBulkAll elems + uptoBulkAll spare + 1
  | .agg parts => uptoBulkAll parts + 1
  | .iface _ d => uptoBulk d + 1
  | .map entries => uptoBulkEntries entries + 1
  | .held _ => 1
def uptoBulkAll {H : Type} : List (DataW H) → Nat
  | [] => 0
  | d :: r => uptoBulk d + uptoBulkAll r
def uptoBulkEntries {H : Type} : List (Lit × DataW H) → Nat
  | [] => 0
  | x :: r => uptoBulkEntry x + uptoBulkEntries r
def uptoBulkEntry {H : Type} : Lit × DataW H → Nat
  | (.string bytes, d) => bytes.length + uptoBulk d + 1
  | (_, d) => uptoBulk d + 1
 end
def uptoSmall : (H : Type) → List (DataW H) → Bool := fun _ ds => decide (uptoBulkAll ds ≤ 1048576)
def OpenSpec.upto (s : _root_.Go.ChangeSpec) : _root_.Go.OpenSpec := { _root_.Go.OpenSpec.ofChange s with cond := some uptoSmall }

/-- 'laws.FnExactIsPattern', WHERE WHAT IT READS IS OF BULK AT MOST 1048576: true; the input reads as it did. -/
def fnExactIsPatternUptoRow : OpenClaim := { program := "yteofgabnmifgkaa", sum := "9c34312ae05f5df3a1b25e65070b78429ac9bc92150ad0e442e861ef9675509c", func := "loop.example/g01003/laws.FnExactIsPattern", spec := "fnExactIsPattern", unfollowed := true, recurses := true, apart := false, narrowed := true }
def FnExactIsPatternUptoSaid : Prop := fnExactIsPatternUptoRow.holds Try.pinned (OpenSpec.upto fnExactIsPatternSpec)

/-- 'laws.FnExactPatternStep', WHERE WHAT IT READS IS OF BULK AT MOST 1048576: true; the input reads as it did. -/
def fnExactPatternStepUptoRow : OpenClaim := { program := "yteofgabnmifgkaa", sum := "9c34312ae05f5df3a1b25e65070b78429ac9bc92150ad0e442e861ef9675509c", func := "loop.example/g01003/laws.FnExactPatternStep", spec := "fnExactPatternStep", unfollowed := true, recurses := true, apart := false, narrowed := true }
def FnExactPatternStepUptoSaid : Prop := fnExactPatternStepUptoRow.holds Try.pinned (OpenSpec.upto fnExactPatternStepSpec)

/-- 'laws.FnExactCycleOf', WHERE WHAT IT READS IS OF BULK AT MOST 1048576: true; the input reads as it did. -/
def fnExactCycleOfUptoRow : OpenClaim := { program := "yteofgabnmifgkaa", sum := "9c34312ae05f5df3a1b25e65070b78429ac9bc92150ad0e442e861ef9675509c", func := "loop.example/g01003/laws.FnExactCycleOf", spec := "fnExactCycleOf", unfollowed := true, recurses := true, apart := false, narrowed := true }
def FnExactCycleOfUptoSaid : Prop := fnExactCycleOfUptoRow.holds Try.pinned (OpenSpec.upto fnExactCycleOfSpec)

/-- 'laws.FnExactInversePattern', WHERE WHAT IT READS IS OF BULK AT MOST 1048576: true; the input reads as it did. -/
def fnExactInversePatternUptoRow : OpenClaim := { program := "yteofgabnmifgkaa", sum := "9c34312ae05f5df3a1b25e65070b78429ac9bc92150ad0e442e861ef9675509c", func := "loop.example/g01003/laws.FnExactInversePattern", spec := "fnExactInversePattern", unfollowed := true, recurses := true, apart := false, narrowed := true }
def FnExactInversePatternUptoSaid : Prop := fnExactInversePatternUptoRow.holds Try.pinned (OpenSpec.upto fnExactInversePatternSpec)

/-- 'laws.FnExactIsStaircase', WHERE WHAT IT READS IS OF BULK AT MOST 1048576: true; the input reads as it did. -/
def fnExactIsStaircaseUptoRow : OpenClaim := { program := "yteofgabnmifgkaa", sum := "9c34312ae05f5df3a1b25e65070b78429ac9bc92150ad0e442e861ef9675509c", func := "loop.example/g01003/laws.FnExactIsStaircase", spec := "fnExactIsStaircase", unfollowed := true, recurses := true, apart := false, narrowed := true }
def FnExactIsStaircaseUptoSaid : Prop := fnExactIsStaircaseUptoRow.holds Try.pinned (OpenSpec.upto fnExactIsStaircaseSpec)

/-- 'laws.FnExactWidestStep', WHERE WHAT IT READS IS OF BULK AT MOST 1048576: true; the input reads as it did. -/
def fnExactWidestStepUptoRow : OpenClaim := { program := "yteofgabnmifgkaa", sum := "9c34312ae05f5df3a1b25e65070b78429ac9bc92150ad0e442e861ef9675509c", func := "loop.example/g01003/laws.FnExactWidestStep", spec := "fnExactWidestStep", apart := false, narrowed := true }
def FnExactWidestStepUptoSaid : Prop := fnExactWidestStepUptoRow.holds Try.pinned (OpenSpec.upto fnExactWidestStepSpec)

/-- 'laws.FnExactMergeStairs', WHERE WHAT IT READS IS OF BULK AT MOST 1048576: true; the input reads as it did. -/
def fnExactMergeStairsUptoRow : OpenClaim := { program := "yteofgabnmifgkaa", sum := "9c34312ae05f5df3a1b25e65070b78429ac9bc92150ad0e442e861ef9675509c", func := "loop.example/g01003/laws.FnExactMergeStairs", spec := "fnExactMergeStairs", apart := false, narrowed := true }
def FnExactMergeStairsUptoSaid : Prop := fnExactMergeStairsUptoRow.holds Try.pinned (OpenSpec.upto fnExactMergeStairsSpec)

/-- 'laws.FnExactStepsOfStair', WHERE WHAT IT READS IS OF BULK AT MOST 1048576: true; the input reads as it did. -/
def fnExactStepsOfStairUptoRow : OpenClaim := { program := "yteofgabnmifgkaa", sum := "9c34312ae05f5df3a1b25e65070b78429ac9bc92150ad0e442e861ef9675509c", func := "loop.example/g01003/laws.FnExactStepsOfStair", spec := "fnExactStepsOfStair", apart := false, narrowed := true }
def FnExactStepsOfStairUptoSaid : Prop := fnExactStepsOfStairUptoRow.holds Try.pinned (OpenSpec.upto fnExactStepsOfStairSpec)

end Rows
end Go.Proofs.Yteofgabnmifgkaa
