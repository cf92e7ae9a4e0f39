/-
  No cell of these rows narrows 'for every input' (looked for: loops, veiled, ifaces, maps, wideKeys, modest, calm, conditions, laid).
  DERIVED. THE GIVEN ROWS OF THIS SEAT. 4 by the template 'for every input the law returns true; each argument reads behind the call as it read before'; 0 by the template 'total and deterministic' (their statements: YtjiafbjoijffjaaGreatTotals.lean).
  GIVEN WITH THE SEED: the statements are not yours to turn. If you find one false, say at which input.
  Laid BY PROGRAM, IN A SANDBOX (cutbox-rows.mjs): the forced cells as the released guide's own fill.sh prints them over the translation d776d57c09c0c1f0… (all of the seat's roots in one cut). By AI agents, Wed Nov 11 2026. No macro, syntax, notation, axiom, sorry.
-/
import Derived.Test.YtjiafbjoijffjaaGreatChecked
import GoSem.Claim
import GoSem.ClaimJoined
import GoSem.ClaimMapViews
import Derived.JoinedTies
import Derived.KernelRfl
namespace Go.Proofs.YtjiafbjoijffjaaGreat
/- THE CELL 'sum', in the pinned program and in every row, IS THE sha256 OF THE DUMP (.gsa) THAT YtjiafbjoijffjaaGreatProg.lean LOADS. Nothing in Lean hashes anything: it is a label: what it is worth is what the hold of that sum in a sandbox is worth. -/
noncomputable def Tryz.pinned : Pinned := { name := "ytjiafbjoijffjaagreat", sum := "d776d57c09c0c1f08695312321572ef5de238b334bf0372fdc8d0e5b24b2df31", checked := Tryz.checked }
namespace Rows
def none {H : Type} : Left H := { results := [], args := [] }

/-- 'laws.FnReturns': WHATEVER THE INPUT: true; the input reads as it did. -/
def fnReturnsSpec : ChangeSpec := { name := "fnReturns", fn := fun _ => fun
  | [d1, d2] => { results := [.lit (.bool true)], args := [d1, d2] }
  | _ => none }
def fnReturnsRow : OpenClaim := { program := "ytjiafbjoijffjaagreat", sum := "d776d57c09c0c1f08695312321572ef5de238b334bf0372fdc8d0e5b24b2df31", func := "loop.example/g01003/laws.FnReturns", spec := "fnReturns", unfollowed := true, recurses := true, apart := false }
def FnReturnsSaid : Prop := fnReturnsRow.holds Tryz.pinned (OpenSpec.ofChange fnReturnsSpec)

/-- ITS FALSE NEIGHBOUR: 'it returns false'. Refute it at one input. -/
def fnReturnsWrong : ChangeSpec := { name := "fnReturns", fn := fun _ => fun
  | [d1, d2] => { results := [.lit (.bool false)], args := [d1, d2] }
  | _ => none }
def FnReturnsWrongFalsely : Prop := fnReturnsRow.holds Tryz.pinned (OpenSpec.ofChange fnReturnsWrong)

/-- 'laws.FnExactReturnMap': WHATEVER THE INPUT: true; the input reads as it did. -/
def fnExactReturnMapSpec : ChangeSpec := { name := "fnExactReturnMap", fn := fun _ => fun
  | [d1, d2, d3] => { results := [.lit (.bool true)], args := [d1, d2, d3] }
  | _ => none }
def fnExactReturnMapRow : OpenClaim := { program := "ytjiafbjoijffjaagreat", sum := "d776d57c09c0c1f08695312321572ef5de238b334bf0372fdc8d0e5b24b2df31", func := "loop.example/g01003/laws.FnExactReturnMap", spec := "fnExactReturnMap", unfollowed := true, recurses := true, apart := false }
def FnExactReturnMapSaid : Prop := fnExactReturnMapRow.holds Tryz.pinned (OpenSpec.ofChange fnExactReturnMapSpec)

/-- ITS FALSE NEIGHBOUR: 'it returns false'. Refute it at one input. -/
def fnExactReturnMapWrong : ChangeSpec := { name := "fnExactReturnMap", fn := fun _ => fun
  | [d1, d2, d3] => { results := [.lit (.bool false)], args := [d1, d2, d3] }
  | _ => none }
def FnExactReturnMapWrongFalsely : Prop := fnExactReturnMapRow.holds Tryz.pinned (OpenSpec.ofChange fnExactReturnMapWrong)

/-- 'laws.FnReturnMaps': WHATEVER THE INPUT: true; the input reads as it did. -/
def fnReturnMapsSpec : ChangeSpec := { name := "fnReturnMaps", fn := fun _ => fun
  | [d1, d2] => { results := [.lit (.bool true)], args := [d1, d2] }
  | _ => none }
def fnReturnMapsRow : OpenClaim := { program := "ytjiafbjoijffjaagreat", sum := "d776d57c09c0c1f08695312321572ef5de238b334bf0372fdc8d0e5b24b2df31", func := "loop.example/g01003/laws.FnReturnMaps", spec := "fnReturnMaps", unfollowed := true, recurses := true, apart := false }
def FnReturnMapsSaid : Prop := fnReturnMapsRow.holds Tryz.pinned (OpenSpec.ofChange fnReturnMapsSpec)

/-- ITS FALSE NEIGHBOUR: 'it returns false'. Refute it at one input. -/
def fnReturnMapsWrong : ChangeSpec := { name := "fnReturnMaps", fn := fun _ => fun
  | [d1, d2] => { results := [.lit (.bool false)], args := [d1, d2] }
  | _ => none }
def FnReturnMapsWrongFalsely : Prop := fnReturnMapsRow.holds Tryz.pinned (OpenSpec.ofChange fnReturnMapsWrong)

/-- 'laws.FnChanges': WHATEVER THE INPUT: true; the input reads as it did. -/
def fnChangesSpec : ChangeSpec := { name := "fnChanges", fn := fun _ => fun
  | [d1, d2] => { results := [.lit (.bool true)], args := [d1, d2] }
  | _ => none }
def fnChangesRow : OpenClaim := { program := "ytjiafbjoijffjaagreat", sum := "d776d57c09c0c1f08695312321572ef5de238b334bf0372fdc8d0e5b24b2df31", func := "loop.example/g01003/laws.FnChanges", spec := "fnChanges", unfollowed := true, recurses := true, apart := false }
def FnChangesSaid : Prop := fnChangesRow.holds Tryz.pinned (OpenSpec.ofChange fnChangesSpec)

/-- ITS FALSE NEIGHBOUR: 'it returns false'. Refute it at one input. -/
def fnChangesWrong : ChangeSpec := { name := "fnChanges", fn := fun _ => fun
  | [d1, d2] => { results := [.lit (.bool false)], args := [d1, d2] }
  | _ => none }
def FnChangesWrongFalsely : Prop := fnChangesRow.holds Tryz.pinned (OpenSpec.ofChange fnChangesWrong)

/- THE SECOND FORM. 'bulk': how many values and letters a reading holds, each counted each time it is reached (what is shared counts as often as it is met; a slice's spare places count too). A statement '..UptoSaid' is the law's where the arguments, and the package variables that the reading takes, are together of bulk at most 1048576: NARROWER than '..Said'. Prove '..Said' where nothing that the law and all that it calls make is longer than what came in: it says more and counts as full. Else prove '..UptoSaid'. A law counts once. -/
mutual
def uptoBulk {H : Type} : DataW H → Nat
  | .lit (.string bytes) => bytes.length + 1
  | .lit _ => 1
  | .nil => 1
  | .ptr d => uptoBulk d + 1
  | .slice elems spare => uptoBulkAll elems + uptoBulkAll spare + 1
  | .agg parts => uptoBulkAll parts + 1
  | .iface _ d => uptoBulk d + 1
  | .map entries => uptoBulkEntries entries + 1
  | .held _ => 1
def uptoBulkAll {H : Type} : List (DataW H) → Nat
  | [] => 0
  | d :: r => uptoBulk d + uptoBulkAll r
def uptoBulkEntries {H : Type} : List (Lit × DataW H) → Nat
  | [] => 0
  | x :: r => uptoBulkEntry x + uptoBulkEntries r
def uptoBulkEntry {H : Type} : Lit × DataW H → Nat
  | (.string bytes, d) => bytes.length + uptoBulk d + 1
  | (_, d) => uptoBulk d + 1
 end
def uptoSmall : (H : Type) → List (DataW H) → Bool := fun _ ds => decide (uptoBulkAll ds ≤ 1048576)
def OpenSpec.upto (s : _root_.Go.ChangeSpec) : _root_.Go.OpenSpec := { _root_.Go.OpenSpec.ofChange s with cond := some uptoSmall }

/-- 'laws.FnReturns', WHERE WHAT IT READS IS OF BULK AT MOST 1048576: true; the input reads as it did. -/
def fnReturnsUptoRow : OpenClaim := { program := "ytjiafbjoijffjaagreat", sum := "d776d57c09c0c1f08695312321572ef5de238b334bf0372fdc8d0e5b24b2df31", func := "loop.example/g01003/laws.FnReturns", spec := "fnReturns", unfollowed := true, recurses := true, apart := false, narrowed := true }
def FnReturnsUptoSaid : Prop := fnReturnsUptoRow.holds Tryz.pinned (OpenSpec.upto fnReturnsSpec)

/-- 'laws.FnExactReturnMap', WHERE WHAT IT READS IS OF BULK AT MOST 1048576: true; the input reads as it did. -/
def fnExactReturnMapUptoRow : OpenClaim := { program := "ytjiafbjoijffjaagreat", sum := "d776d57c09c0c1f08695312321572ef5de238b334bf0372fdc8d0e5b24b2df31", func := "loop.example/g01003/laws.FnExactReturnMap", spec := "fnExactReturnMap", unfollowed := true, recurses := true, apart := false, narrowed := true }
def FnExactReturnMapUptoSaid : Prop := fnExactReturnMapUptoRow.holds Tryz.pinned (OpenSpec.upto fnExactReturnMapSpec)

/-- 'laws.FnReturnMaps', WHERE WHAT IT READS IS OF BULK AT MOST 1048576: true; the input reads as it did. -/
def fnReturnMapsUptoRow : OpenClaim := { program := "ytjiafbjoijffjaagreat", sum := "d776d57c09c0c1f08695312321572ef5de238b334bf0372fdc8d0e5b24b2df31", func := "loop.example/g01003/laws.FnReturnMaps", spec := "fnReturnMaps", unfollowed := true, recurses := true, apart := false, narrowed := true }
def FnReturnMapsUptoSaid : Prop := fnReturnMapsUptoRow.holds Tryz.pinned (OpenSpec.upto fnReturnMapsSpec)

/-- 'laws.FnChanges', WHERE WHAT IT READS IS OF BULK AT MOST 1048576: true; the input reads as it did. -/
def fnChangesUptoRow : OpenClaim := { program := "ytjiafbjoijffjaagreat", sum := "d776d57c09c0c1f08695312321572ef5de238b334bf0372fdc8d0e5b24b2df31", func := "loop.example/g01003/laws.FnChanges", spec := "fnChanges", unfollowed := true, recurses := true, apart := false, narrowed := true }
def FnChangesUptoSaid : Prop := fnChangesUptoRow.holds Tryz.pinned (OpenSpec.upto fnChangesSpec)

end Rows
end Go.Proofs.YtjiafbjoijffjaaGreat
