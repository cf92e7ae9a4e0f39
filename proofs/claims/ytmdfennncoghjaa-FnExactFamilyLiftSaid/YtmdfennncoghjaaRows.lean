/-
  No cell of these rows narrows 'for every input' (looked for: loops, veiled, ifaces, maps, wideKeys, modest, calm, conditions, laid).
  DERIVED. THE GIVEN ROWS OF THIS SEAT. 8 by the template 'for every input the law returns true; each argument reads behind the call as it read before'; 0 by the template 'total and deterministic' (their statements: YtmdfennncoghjaaTotals.lean).
  GIVEN WITH THE SEED: the statements are not yours to turn. If you find one false, say at which input.
  Laid BY PROGRAM, IN A SANDBOX (cutbox-rows.mjs): the forced cells as the released guide's own fill.sh prints them over the translation 844312a670963237… (all of the seat's roots in one cut). By AI agents, Wed Nov 11 2026. No macro, syntax, notation, axiom, sorry.
-/
import Derived.Test.YtmdfennncoghjaaChecked
import GoSem.Claim
import GoSem.ClaimJoined
import GoSem.ClaimMapViews
import Derived.JoinedTies
import Derived.KernelRfl
namespace Go.Proofs.Ytmdfennncoghjaa
/- THE CELL 'sum', in the pinned program and in every row, IS THE sha256 OF THE DUMP (.gsa) THAT YtmdfennncoghjaaProg.lean LOADS. Nothing in Lean hashes anything: it is a label: what it is worth is what the hold of that sum in a sandbox is worth. -/
noncomputable def Try.pinned : Pinned := { name := "ytmdfennncoghjaa", sum := "844312a67096323729ec9b0de83d9240c56ab23e53161de7813d69530bed8f00", checked := Try.checked }
namespace Rows
def none {H : Type} : Left H := { results := [], args := [] }

/-- 'laws.FnExactIsChange': WHATEVER THE INPUT: true; the input reads as it did. -/
def fnExactIsChangeSpec : ChangeSpec := { name := "fnExactIsChange", fn := fun _ => fun
  | [d] => { results := [.lit (.bool true)], args := [d] }
  | _ => none }
def fnExactIsChangeRow : OpenClaim := { program := "ytmdfennncoghjaa", sum := "844312a67096323729ec9b0de83d9240c56ab23e53161de7813d69530bed8f00", func := "loop.example/g01003/laws.FnExactIsChange", spec := "fnExactIsChange", unfollowed := true, recurses := true, apart := false }
def FnExactIsChangeSaid : Prop := fnExactIsChangeRow.holds Try.pinned (OpenSpec.ofChange fnExactIsChangeSpec)

/-- ITS FALSE NEIGHBOUR: 'it returns false'. Refute it at one input. -/
def fnExactIsChangeWrong : ChangeSpec := { name := "fnExactIsChange", fn := fun _ => fun
  | [d] => { results := [.lit (.bool false)], args := [d] }
  | _ => none }
def FnExactIsChangeWrongFalsely : Prop := fnExactIsChangeRow.holds Try.pinned (OpenSpec.ofChange fnExactIsChangeWrong)

/-- 'laws.FnExactChangeThrough': WHATEVER THE INPUT: true; the input reads as it did. -/
def fnExactChangeThroughSpec : ChangeSpec := { name := "fnExactChangeThrough", fn := fun _ => fun
  | [d1, d2] => { results := [.lit (.bool true)], args := [d1, d2] }
  | _ => none }
def fnExactChangeThroughRow : OpenClaim := { program := "ytmdfennncoghjaa", sum := "844312a67096323729ec9b0de83d9240c56ab23e53161de7813d69530bed8f00", func := "loop.example/g01003/laws.FnExactChangeThrough", spec := "fnExactChangeThrough", unfollowed := true, recurses := true, apart := false }
def FnExactChangeThroughSaid : Prop := fnExactChangeThroughRow.holds Try.pinned (OpenSpec.ofChange fnExactChangeThroughSpec)

/-- ITS FALSE NEIGHBOUR: 'it returns false'. Refute it at one input. -/
def fnExactChangeThroughWrong : ChangeSpec := { name := "fnExactChangeThrough", fn := fun _ => fun
  | [d1, d2] => { results := [.lit (.bool false)], args := [d1, d2] }
  | _ => none }
def FnExactChangeThroughWrongFalsely : Prop := fnExactChangeThroughRow.holds Try.pinned (OpenSpec.ofChange fnExactChangeThroughWrong)

/-- 'laws.FnExactInverseChange': WHATEVER THE INPUT: true; the input reads as it did. -/
def fnExactInverseChangeSpec : ChangeSpec := { name := "fnExactInverseChange", fn := fun _ => fun
  | [d] => { results := [.lit (.bool true)], args := [d] }
  | _ => none }
def fnExactInverseChangeRow : OpenClaim := { program := "ytmdfennncoghjaa", sum := "844312a67096323729ec9b0de83d9240c56ab23e53161de7813d69530bed8f00", func := "loop.example/g01003/laws.FnExactInverseChange", spec := "fnExactInverseChange", unfollowed := true, recurses := true, apart := false }
def FnExactInverseChangeSaid : Prop := fnExactInverseChangeRow.holds Try.pinned (OpenSpec.ofChange fnExactInverseChangeSpec)

/-- ITS FALSE NEIGHBOUR: 'it returns false'. Refute it at one input. -/
def fnExactInverseChangeWrong : ChangeSpec := { name := "fnExactInverseChange", fn := fun _ => fun
  | [d] => { results := [.lit (.bool false)], args := [d] }
  | _ => none }
def FnExactInverseChangeWrongFalsely : Prop := fnExactInverseChangeRow.holds Try.pinned (OpenSpec.ofChange fnExactInverseChangeWrong)

/-- 'laws.FnExactChangeBack': WHATEVER THE INPUT: true; the input reads as it did. -/
def fnExactChangeBackSpec : ChangeSpec := { name := "fnExactChangeBack", fn := fun _ => fun
  | [d1, d2] => { results := [.lit (.bool true)], args := [d1, d2] }
  | _ => none }
def fnExactChangeBackRow : OpenClaim := { program := "ytmdfennncoghjaa", sum := "844312a67096323729ec9b0de83d9240c56ab23e53161de7813d69530bed8f00", func := "loop.example/g01003/laws.FnExactChangeBack", spec := "fnExactChangeBack", unfollowed := true, recurses := true, apart := false }
def FnExactChangeBackSaid : Prop := fnExactChangeBackRow.holds Try.pinned (OpenSpec.ofChange fnExactChangeBackSpec)

/-- ITS FALSE NEIGHBOUR: 'it returns false'. Refute it at one input. -/
def fnExactChangeBackWrong : ChangeSpec := { name := "fnExactChangeBack", fn := fun _ => fun
  | [d1, d2] => { results := [.lit (.bool false)], args := [d1, d2] }
  | _ => none }
def FnExactChangeBackWrongFalsely : Prop := fnExactChangeBackRow.holds Try.pinned (OpenSpec.ofChange fnExactChangeBackWrong)

/-- 'laws.FnExactIsReflected': WHATEVER THE INPUT: true; the input reads as it did. -/
def fnExactIsReflectedSpec : ChangeSpec := { name := "fnExactIsReflected", fn := fun _ => fun
  | [d1, d2] => { results := [.lit (.bool true)], args := [d1, d2] }
  | _ => none }
def fnExactIsReflectedRow : OpenClaim := { program := "ytmdfennncoghjaa", sum := "844312a67096323729ec9b0de83d9240c56ab23e53161de7813d69530bed8f00", func := "loop.example/g01003/laws.FnExactIsReflected", spec := "fnExactIsReflected", unfollowed := true, recurses := true, apart := false }
def FnExactIsReflectedSaid : Prop := fnExactIsReflectedRow.holds Try.pinned (OpenSpec.ofChange fnExactIsReflectedSpec)

/-- ITS FALSE NEIGHBOUR: 'it returns false'. Refute it at one input. -/
def fnExactIsReflectedWrong : ChangeSpec := { name := "fnExactIsReflected", fn := fun _ => fun
  | [d1, d2] => { results := [.lit (.bool false)], args := [d1, d2] }
  | _ => none }
def FnExactIsReflectedWrongFalsely : Prop := fnExactIsReflectedRow.holds Try.pinned (OpenSpec.ofChange fnExactIsReflectedWrong)

/-- 'laws.FnExactConjugateValue': WHATEVER THE INPUT: true; the input reads as it did. -/
def fnExactConjugateValueSpec : ChangeSpec := { name := "fnExactConjugateValue", fn := fun _ => fun
  | [d1, d2, d3] => { results := [.lit (.bool true)], args := [d1, d2, d3] }
  | _ => none }
def fnExactConjugateValueRow : OpenClaim := { program := "ytmdfennncoghjaa", sum := "844312a67096323729ec9b0de83d9240c56ab23e53161de7813d69530bed8f00", func := "loop.example/g01003/laws.FnExactConjugateValue", spec := "fnExactConjugateValue", unfollowed := true, recurses := true, apart := false }
def FnExactConjugateValueSaid : Prop := fnExactConjugateValueRow.holds Try.pinned (OpenSpec.ofChange fnExactConjugateValueSpec)

/-- ITS FALSE NEIGHBOUR: 'it returns false'. Refute it at one input. -/
def fnExactConjugateValueWrong : ChangeSpec := { name := "fnExactConjugateValue", fn := fun _ => fun
  | [d1, d2, d3] => { results := [.lit (.bool false)], args := [d1, d2, d3] }
  | _ => none }
def FnExactConjugateValueWrongFalsely : Prop := fnExactConjugateValueRow.holds Try.pinned (OpenSpec.ofChange fnExactConjugateValueWrong)

/-- 'laws.FnExactFamilyLift': WHATEVER THE INPUT: true; the input reads as it did. -/
def fnExactFamilyLiftSpec : ChangeSpec := { name := "fnExactFamilyLift", fn := fun _ => fun
  | [d1, d2, d3] => { results := [.lit (.bool true)], args := [d1, d2, d3] }
  | _ => none }
def fnExactFamilyLiftRow : OpenClaim := { program := "ytmdfennncoghjaa", sum := "844312a67096323729ec9b0de83d9240c56ab23e53161de7813d69530bed8f00", func := "loop.example/g01003/laws.FnExactFamilyLift", spec := "fnExactFamilyLift", unfollowed := true, recurses := true, apart := false }
def FnExactFamilyLiftSaid : Prop := fnExactFamilyLiftRow.holds Try.pinned (OpenSpec.ofChange fnExactFamilyLiftSpec)

/-- ITS FALSE NEIGHBOUR: 'it returns false'. Refute it at one input. -/
def fnExactFamilyLiftWrong : ChangeSpec := { name := "fnExactFamilyLift", fn := fun _ => fun
  | [d1, d2, d3] => { results := [.lit (.bool false)], args := [d1, d2, d3] }
  | _ => none }
def FnExactFamilyLiftWrongFalsely : Prop := fnExactFamilyLiftRow.holds Try.pinned (OpenSpec.ofChange fnExactFamilyLiftWrong)

/-- 'laws.FnExactConvergentsOf': WHATEVER THE INPUT: true; the input reads as it did. -/
def fnExactConvergentsOfSpec : ChangeSpec := { name := "fnExactConvergentsOf", fn := fun _ => fun
  | [d] => { results := [.lit (.bool true)], args := [d] }
  | _ => none }
def fnExactConvergentsOfRow : OpenClaim := { program := "ytmdfennncoghjaa", sum := "844312a67096323729ec9b0de83d9240c56ab23e53161de7813d69530bed8f00", func := "loop.example/g01003/laws.FnExactConvergentsOf", spec := "fnExactConvergentsOf", apart := false }
def FnExactConvergentsOfSaid : Prop := fnExactConvergentsOfRow.holds Try.pinned (OpenSpec.ofChange fnExactConvergentsOfSpec)

/-- ITS FALSE NEIGHBOUR: 'it returns false'. Refute it at one input. -/
def fnExactConvergentsOfWrong : ChangeSpec := { name := "fnExactConvergentsOf", fn := fun _ => fun
  | [d] => { results := [.lit (.bool false)], args := [d] }
  | _ => none }
def FnExactConvergentsOfWrongFalsely : Prop := fnExactConvergentsOfRow.holds Try.pinned (OpenSpec.ofChange fnExactConvergentsOfWrong)

/- THE SECOND FORM. 'bulk': how many values and letters a reading holds, each counted each time it is reached (what is shared counts as often as it is met; a slice's spare places count too). A statement '..UptoSaid' is the law's where the arguments, and the package variables that the reading takes, are together of bulk at most 1048576: NARROWER than '..Said'. Prove '..Said' where nothing that the law and all that it calls make is longer than what came in: it says more and counts as full. Else prove '..UptoSaid'. A law counts once. -/
mutual
def uptoBulk {H : Type} : DataW H → Nat
  | .lit (.string bytes) => bytes.length + 1
  | .lit _ => 1
  | .nil => 1
  | .ptr d => uptoBulk d + 1
  | .slice elems spare => uptoBulkAll elems + uptoBulkAll spare + 1
  | .agg parts => uptoBulkAll parts + 1
  | .iface _ d => uptoBulk d + 1
  | .map entries => uptoBulkEntries entries + 1
  | .held _ => 1
def uptoBulkAll {H : Type} : List (DataW H) → Nat
  | [] => 0
  | d :: r => uptoBulk d + uptoBulkAll r
def uptoBulkEntries {H : Type} : List (Lit × DataW H) → Nat
  | [] => 0
  | x :: r => uptoBulkEntry x + uptoBulkEntries r
def uptoBulkEntry {H : Type} : Lit × DataW H → Nat
  | (.string bytes, d) => bytes.length + uptoBulk d + 1
  | (_, d) => uptoBulk d + 1
 end
def uptoSmall : (H : Type) → List (DataW H) → Bool := fun _ ds => decide (uptoBulkAll ds ≤ 1048576)
def OpenSpec.upto (s : _root_.Go.ChangeSpec) : _root_.Go.OpenSpec := { _root_.Go.OpenSpec.ofChange s with cond := some uptoSmall }

/-- 'laws.FnExactIsChange', WHERE WHAT IT READS IS OF BULK AT MOST 1048576: true; the input reads as it did. -/
def fnExactIsChangeUptoRow : OpenClaim := { program := "ytmdfennncoghjaa", sum := "844312a67096323729ec9b0de83d9240c56ab23e53161de7813d69530bed8f00", func := "loop.example/g01003/laws.FnExactIsChange", spec := "fnExactIsChange", unfollowed := true, recurses := true, apart := false, narrowed := true }
def FnExactIsChangeUptoSaid : Prop := fnExactIsChangeUptoRow.holds Try.pinned (OpenSpec.upto fnExactIsChangeSpec)

/-- 'laws.FnExactChangeThrough', WHERE WHAT IT READS IS OF BULK AT MOST 1048576: true; the input reads as it did. -/
def fnExactChangeThroughUptoRow : OpenClaim := { program := "ytmdfennncoghjaa", sum := "844312a67096323729ec9b0de83d9240c56ab23e53161de7813d69530bed8f00", func := "loop.example/g01003/laws.FnExactChangeThrough", spec := "fnExactChangeThrough", unfollowed := true, recurses := true, apart := false, narrowed := true }
def FnExactChangeThroughUptoSaid : Prop := fnExactChangeThroughUptoRow.holds Try.pinned (OpenSpec.upto fnExactChangeThroughSpec)

/-- 'laws.FnExactInverseChange', WHERE WHAT IT READS IS OF BULK AT MOST 1048576: true; the input reads as it did. -/
def fnExactInverseChangeUptoRow : OpenClaim := { program := "ytmdfennncoghjaa", sum := "844312a67096323729ec9b0de83d9240c56ab23e53161de7813d69530bed8f00", func := "loop.example/g01003/laws.FnExactInverseChange", spec := "fnExactInverseChange", unfollowed := true, recurses := true, apart := false, narrowed := true }
def FnExactInverseChangeUptoSaid : Prop := fnExactInverseChangeUptoRow.holds Try.pinned (OpenSpec.upto fnExactInverseChangeSpec)

/-- 'laws.FnExactChangeBack', WHERE WHAT IT READS IS OF BULK AT MOST 1048576: true; the input reads as it did. -/
def fnExactChangeBackUptoRow : OpenClaim := { program := "ytmdfennncoghjaa", sum := "844312a67096323729ec9b0de83d9240c56ab23e53161de7813d69530bed8f00", func := "loop.example/g01003/laws.FnExactChangeBack", spec := "fnExactChangeBack", unfollowed := true, recurses := true, apart := false, narrowed := true }
def FnExactChangeBackUptoSaid : Prop := fnExactChangeBackUptoRow.holds Try.pinned (OpenSpec.upto fnExactChangeBackSpec)

/-- 'laws.FnExactIsReflected', WHERE WHAT IT READS IS OF BULK AT MOST 1048576: true; the input reads as it did. -/
def fnExactIsReflectedUptoRow : OpenClaim := { program := "ytmdfennncoghjaa", sum := "844312a67096323729ec9b0de83d9240c56ab23e53161de7813d69530bed8f00", func := "loop.example/g01003/laws.FnExactIsReflected", spec := "fnExactIsReflected", unfollowed := true, recurses := true, apart := false, narrowed := true }
def FnExactIsReflectedUptoSaid : Prop := fnExactIsReflectedUptoRow.holds Try.pinned (OpenSpec.upto fnExactIsReflectedSpec)

/-- 'laws.FnExactConjugateValue', WHERE WHAT IT READS IS OF BULK AT MOST 1048576: true; the input reads as it did. -/
def fnExactConjugateValueUptoRow : OpenClaim := { program := "ytmdfennncoghjaa", sum := "844312a67096323729ec9b0de83d9240c56ab23e53161de7813d69530bed8f00", func := "loop.example/g01003/laws.FnExactConjugateValue", spec := "fnExactConjugateValue", unfollowed := true, recurses := true, apart := false, narrowed := true }
def FnExactConjugateValueUptoSaid : Prop := fnExactConjugateValueUptoRow.holds Try.pinned (OpenSpec.upto fnExactConjugateValueSpec)

/-- 'laws.FnExactFamilyLift', WHERE WHAT IT READS IS OF BULK AT MOST 1048576: true; the input reads as it did. -/
def fnExactFamilyLiftUptoRow : OpenClaim := { program := "ytmdfennncoghjaa", sum := "844312a67096323729ec9b0de83d9240c56ab23e53161de7813d69530bed8f00", func := "loop.example/g01003/laws.FnExactFamilyLift", spec := "fnExactFamilyLift", unfollowed := true, recurses := true, apart := false, narrowed := true }
def FnExactFamilyLiftUptoSaid : Prop := fnExactFamilyLiftUptoRow.holds Try.pinned (OpenSpec.upto fnExactFamilyLiftSpec)

/-- 'laws.FnExactConvergentsOf', WHERE WHAT IT READS IS OF BULK AT MOST 1048576: true; the input reads as it did. -/
def fnExactConvergentsOfUptoRow : OpenClaim := { program := "ytmdfennncoghjaa", sum := "844312a67096323729ec9b0de83d9240c56ab23e53161de7813d69530bed8f00", func := "loop.example/g01003/laws.FnExactConvergentsOf", spec := "fnExactConvergentsOf", apart := false, narrowed := true }
def FnExactConvergentsOfUptoSaid : Prop := fnExactConvergentsOfUptoRow.holds Try.pinned (OpenSpec.upto fnExactConvergentsOfSpec)

end Rows
end Go.Proofs.Ytmdfennncoghjaa
