/-
  No cell of these rows narrows 'for every input' (looked for: loops, veiled, ifaces, maps, wideKeys, modest, calm, conditions, laid).
  DERIVED. THE GIVEN ROWS OF THIS SEAT. 9 by the template 'for every input the law returns true; each argument reads behind the call as it read before'; 0 by the template 'total and deterministic' (their statements: YtiklhpmlchalkaaTotals.lean).
  GIVEN WITH THE SEED: the statements are not yours to turn. If you find one false, say at which input.
  Laid BY PROGRAM, IN A SANDBOX (cutbox-rows.mjs): the forced cells as the released guide's own fill.sh prints them over the translation bb29591191dc0a99… (all of the seat's roots in one cut). By AI agents, Wed Nov 11 2026. No macro, syntax, notation, axiom, sorry.
-/
import Derived.Test.YtiklhpmlchalkaaChecked
import GoSem.Claim
import GoSem.ClaimJoined
import GoSem.ClaimMapViews
import Derived.JoinedTies
import Derived.KernelRfl
namespace Go.Proofs.Ytiklhpmlchalkaa
/- THE CELL 'sum', in the pinned program and in every row, IS THE sha256 OF THE DUMP (.gsa) THAT YtiklhpmlchalkaaProg.lean LOADS. Nothing in Lean hashes anything: it is a label: what it is worth is what the hold of that sum in a sandbox is worth. -/
noncomputable def Try.pinned : Pinned := { name := "ytiklhpmlchalkaa", sum := "bb29591191dc0a99fa6e976b4c119f814a429aade3bb1cd0abf8aa318b44fefb", checked := Try.checked }
namespace Rows
def none {H : Type} : Left H := { results := [], args := [] }

/-- 'laws.FnExactScaleInto': WHATEVER THE INPUT: true; the input reads as it did. -/
def fnExactScaleIntoSpec : ChangeSpec := { name := "fnExactScaleInto", fn := fun _ => fun
  | [d1, d2] => { results := [.lit (.bool true)], args := [d1, d2] }
  | _ => none }
def fnExactScaleIntoRow : OpenClaim := { program := "ytiklhpmlchalkaa", sum := "bb29591191dc0a99fa6e976b4c119f814a429aade3bb1cd0abf8aa318b44fefb", func := "loop.example/g01003/laws.FnExactScaleInto", spec := "fnExactScaleInto", unfollowed := true, recurses := true, apart := false }
def FnExactScaleIntoSaid : Prop := fnExactScaleIntoRow.holds Try.pinned (OpenSpec.ofChange fnExactScaleIntoSpec)

/-- ITS FALSE NEIGHBOUR: 'it returns false'. Refute it at one input. -/
def fnExactScaleIntoWrong : ChangeSpec := { name := "fnExactScaleInto", fn := fun _ => fun
  | [d1, d2] => { results := [.lit (.bool false)], args := [d1, d2] }
  | _ => none }
def FnExactScaleIntoWrongFalsely : Prop := fnExactScaleIntoRow.holds Try.pinned (OpenSpec.ofChange fnExactScaleIntoWrong)

/-- 'laws.FnExactScaleOut': WHATEVER THE INPUT: true; the input reads as it did. -/
def fnExactScaleOutSpec : ChangeSpec := { name := "fnExactScaleOut", fn := fun _ => fun
  | [d1, d2] => { results := [.lit (.bool true)], args := [d1, d2] }
  | _ => none }
def fnExactScaleOutRow : OpenClaim := { program := "ytiklhpmlchalkaa", sum := "bb29591191dc0a99fa6e976b4c119f814a429aade3bb1cd0abf8aa318b44fefb", func := "loop.example/g01003/laws.FnExactScaleOut", spec := "fnExactScaleOut", unfollowed := true, recurses := true, apart := false }
def FnExactScaleOutSaid : Prop := fnExactScaleOutRow.holds Try.pinned (OpenSpec.ofChange fnExactScaleOutSpec)

/-- ITS FALSE NEIGHBOUR: 'it returns false'. Refute it at one input. -/
def fnExactScaleOutWrong : ChangeSpec := { name := "fnExactScaleOut", fn := fun _ => fun
  | [d1, d2] => { results := [.lit (.bool false)], args := [d1, d2] }
  | _ => none }
def FnExactScaleOutWrongFalsely : Prop := fnExactScaleOutRow.holds Try.pinned (OpenSpec.ofChange fnExactScaleOutWrong)

/-- 'laws.FnExactReturnTime': WHATEVER THE INPUT: true; the input reads as it did. -/
def fnExactReturnTimeSpec : ChangeSpec := { name := "fnExactReturnTime", fn := fun _ => fun
  | [d1, d2, d3, d4] => { results := [.lit (.bool true)], args := [d1, d2, d3, d4] }
  | _ => none }
def fnExactReturnTimeRow : OpenClaim := { program := "ytiklhpmlchalkaa", sum := "bb29591191dc0a99fa6e976b4c119f814a429aade3bb1cd0abf8aa318b44fefb", func := "loop.example/g01003/laws.FnExactReturnTime", spec := "fnExactReturnTime", unfollowed := true, recurses := true, apart := false }
def FnExactReturnTimeSaid : Prop := fnExactReturnTimeRow.holds Try.pinned (OpenSpec.ofChange fnExactReturnTimeSpec)

/-- ITS FALSE NEIGHBOUR: 'it returns false'. Refute it at one input. -/
def fnExactReturnTimeWrong : ChangeSpec := { name := "fnExactReturnTime", fn := fun _ => fun
  | [d1, d2, d3, d4] => { results := [.lit (.bool false)], args := [d1, d2, d3, d4] }
  | _ => none }
def FnExactReturnTimeWrongFalsely : Prop := fnExactReturnTimeRow.holds Try.pinned (OpenSpec.ofChange fnExactReturnTimeWrong)

/-- 'laws.FnExactReturnsAfter': WHATEVER THE INPUT: true; the input reads as it did. -/
def fnExactReturnsAfterSpec : ChangeSpec := { name := "fnExactReturnsAfter", fn := fun _ => fun
  | [d1, d2, d3] => { results := [.lit (.bool true)], args := [d1, d2, d3] }
  | _ => none }
def fnExactReturnsAfterRow : OpenClaim := { program := "ytiklhpmlchalkaa", sum := "bb29591191dc0a99fa6e976b4c119f814a429aade3bb1cd0abf8aa318b44fefb", func := "loop.example/g01003/laws.FnExactReturnsAfter", spec := "fnExactReturnsAfter", unfollowed := true, recurses := true, apart := false }
def FnExactReturnsAfterSaid : Prop := fnExactReturnsAfterRow.holds Try.pinned (OpenSpec.ofChange fnExactReturnsAfterSpec)

/-- ITS FALSE NEIGHBOUR: 'it returns false'. Refute it at one input. -/
def fnExactReturnsAfterWrong : ChangeSpec := { name := "fnExactReturnsAfter", fn := fun _ => fun
  | [d1, d2, d3] => { results := [.lit (.bool false)], args := [d1, d2, d3] }
  | _ => none }
def FnExactReturnsAfterWrongFalsely : Prop := fnExactReturnsAfterRow.holds Try.pinned (OpenSpec.ofChange fnExactReturnsAfterWrong)

/-- 'laws.FnExactLeastReturn': WHATEVER THE INPUT: true; the input reads as it did. -/
def fnExactLeastReturnSpec : ChangeSpec := { name := "fnExactLeastReturn", fn := fun _ => fun
  | [d1, d2, d3] => { results := [.lit (.bool true)], args := [d1, d2, d3] }
  | _ => none }
def fnExactLeastReturnRow : OpenClaim := { program := "ytiklhpmlchalkaa", sum := "bb29591191dc0a99fa6e976b4c119f814a429aade3bb1cd0abf8aa318b44fefb", func := "loop.example/g01003/laws.FnExactLeastReturn", spec := "fnExactLeastReturn", unfollowed := true, recurses := true, apart := false }
def FnExactLeastReturnSaid : Prop := fnExactLeastReturnRow.holds Try.pinned (OpenSpec.ofChange fnExactLeastReturnSpec)

/-- ITS FALSE NEIGHBOUR: 'it returns false'. Refute it at one input. -/
def fnExactLeastReturnWrong : ChangeSpec := { name := "fnExactLeastReturn", fn := fun _ => fun
  | [d1, d2, d3] => { results := [.lit (.bool false)], args := [d1, d2, d3] }
  | _ => none }
def FnExactLeastReturnWrongFalsely : Prop := fnExactLeastReturnRow.holds Try.pinned (OpenSpec.ofChange fnExactLeastReturnWrong)

/-- 'laws.FnExactPartInto': WHATEVER THE INPUT: true; the input reads as it did. -/
def fnExactPartIntoSpec : ChangeSpec := { name := "fnExactPartInto", fn := fun _ => fun
  | [d1, d2] => { results := [.lit (.bool true)], args := [d1, d2] }
  | _ => none }
def fnExactPartIntoRow : OpenClaim := { program := "ytiklhpmlchalkaa", sum := "bb29591191dc0a99fa6e976b4c119f814a429aade3bb1cd0abf8aa318b44fefb", func := "loop.example/g01003/laws.FnExactPartInto", spec := "fnExactPartInto", unfollowed := true, recurses := true, apart := false }
def FnExactPartIntoSaid : Prop := fnExactPartIntoRow.holds Try.pinned (OpenSpec.ofChange fnExactPartIntoSpec)

/-- ITS FALSE NEIGHBOUR: 'it returns false'. Refute it at one input. -/
def fnExactPartIntoWrong : ChangeSpec := { name := "fnExactPartInto", fn := fun _ => fun
  | [d1, d2] => { results := [.lit (.bool false)], args := [d1, d2] }
  | _ => none }
def FnExactPartIntoWrongFalsely : Prop := fnExactPartIntoRow.holds Try.pinned (OpenSpec.ofChange fnExactPartIntoWrong)

/-- 'laws.FnExactIsRestrictive': WHATEVER THE INPUT: true; the input reads as it did. -/
def fnExactIsRestrictiveSpec : ChangeSpec := { name := "fnExactIsRestrictive", fn := fun _ => fun
  | [d1, d2, d3] => { results := [.lit (.bool true)], args := [d1, d2, d3] }
  | _ => none }
def fnExactIsRestrictiveRow : OpenClaim := { program := "ytiklhpmlchalkaa", sum := "bb29591191dc0a99fa6e976b4c119f814a429aade3bb1cd0abf8aa318b44fefb", func := "loop.example/g01003/laws.FnExactIsRestrictive", spec := "fnExactIsRestrictive", unfollowed := true, recurses := true, apart := false }
def FnExactIsRestrictiveSaid : Prop := fnExactIsRestrictiveRow.holds Try.pinned (OpenSpec.ofChange fnExactIsRestrictiveSpec)

/-- ITS FALSE NEIGHBOUR: 'it returns false'. Refute it at one input. -/
def fnExactIsRestrictiveWrong : ChangeSpec := { name := "fnExactIsRestrictive", fn := fun _ => fun
  | [d1, d2, d3] => { results := [.lit (.bool false)], args := [d1, d2, d3] }
  | _ => none }
def FnExactIsRestrictiveWrongFalsely : Prop := fnExactIsRestrictiveRow.holds Try.pinned (OpenSpec.ofChange fnExactIsRestrictiveWrong)

/-- 'laws.FnExactImagesOf': WHATEVER THE INPUT: true; the input reads as it did. -/
def fnExactImagesOfSpec : ChangeSpec := { name := "fnExactImagesOf", fn := fun _ => fun
  | [d1, d2, d3] => { results := [.lit (.bool true)], args := [d1, d2, d3] }
  | _ => none }
def fnExactImagesOfRow : OpenClaim := { program := "ytiklhpmlchalkaa", sum := "bb29591191dc0a99fa6e976b4c119f814a429aade3bb1cd0abf8aa318b44fefb", func := "loop.example/g01003/laws.FnExactImagesOf", spec := "fnExactImagesOf", unfollowed := true, recurses := true, apart := false }
def FnExactImagesOfSaid : Prop := fnExactImagesOfRow.holds Try.pinned (OpenSpec.ofChange fnExactImagesOfSpec)

/-- ITS FALSE NEIGHBOUR: 'it returns false'. Refute it at one input. -/
def fnExactImagesOfWrong : ChangeSpec := { name := "fnExactImagesOf", fn := fun _ => fun
  | [d1, d2, d3] => { results := [.lit (.bool false)], args := [d1, d2, d3] }
  | _ => none }
def FnExactImagesOfWrongFalsely : Prop := fnExactImagesOfRow.holds Try.pinned (OpenSpec.ofChange fnExactImagesOfWrong)

/-- 'laws.FnExactRestrictiveAmong': WHATEVER THE INPUT: true; the input reads as it did. -/
def fnExactRestrictiveAmongSpec : ChangeSpec := { name := "fnExactRestrictiveAmong", fn := fun _ => fun
  | [d1, d2, d3] => { results := [.lit (.bool true)], args := [d1, d2, d3] }
  | _ => none }
def fnExactRestrictiveAmongRow : OpenClaim := { program := "ytiklhpmlchalkaa", sum := "bb29591191dc0a99fa6e976b4c119f814a429aade3bb1cd0abf8aa318b44fefb", func := "loop.example/g01003/laws.FnExactRestrictiveAmong", spec := "fnExactRestrictiveAmong", unfollowed := true, recurses := true, apart := false }
def FnExactRestrictiveAmongSaid : Prop := fnExactRestrictiveAmongRow.holds Try.pinned (OpenSpec.ofChange fnExactRestrictiveAmongSpec)

/-- ITS FALSE NEIGHBOUR: 'it returns false'. Refute it at one input. -/
def fnExactRestrictiveAmongWrong : ChangeSpec := { name := "fnExactRestrictiveAmong", fn := fun _ => fun
  | [d1, d2, d3] => { results := [.lit (.bool false)], args := [d1, d2, d3] }
  | _ => none }
def FnExactRestrictiveAmongWrongFalsely : Prop := fnExactRestrictiveAmongRow.holds Try.pinned (OpenSpec.ofChange fnExactRestrictiveAmongWrong)

/- THE SECOND FORM. 'bulk': how many values and letters a reading holds, each counted each time it is reached (what is shared counts as often as it is met; a slice's spare places count too). A statement '..UptoSaid' is the law's where the arguments, and the package variables that the reading takes, are together of bulk at most 1048576: NARROWER than '..Said'. Prove '..Said' where nothing that the law and all that it calls make is longer than what came in: it says more and counts as full. Else prove '..UptoSaid'. A law counts once. -/
mutual
def uptoBulk {H : Type} : DataW H → Nat
  | .lit (.string bytes) => bytes.length + 1
  | .lit _ => 1
  | .nil => 1
  | .ptr d => uptoBulk d + 1
  | .slice elems spare => uptoBulkAll elems + uptoBulkAll spare + 1
  | .agg parts => uptoBulkAll parts + 1
  | .iface _ d => uptoBulk d + 1
  | .map entries => uptoBulkEntries entries + 1
  | .held _ => 1
def uptoBulkAll {H : Type} : List (DataW H) → Nat
  | [] => 0
  | d :: r => uptoBulk d + uptoBulkAll r
def uptoBulkEntries {H : Type} : List (Lit × DataW H) → Nat
  | [] => 0
  | x :: r => uptoBulkEntry x + uptoBulkEntries r
def uptoBulkEntry {H : Type} : Lit × DataW H → Nat
  | (.string bytes, d) => bytes.length + uptoBulk d + 1
  | (_, d) => uptoBulk d + 1
 end
def uptoSmall : (H : Type) → List (DataW H) → Bool := fun _ ds => decide (uptoBulkAll ds ≤ 1048576)
def OpenSpec.upto (s : _root_.Go.ChangeSpec) : _root_.Go.OpenSpec := { _root_.Go.OpenSpec.ofChange s with cond := some uptoSmall }

/-- 'laws.FnExactScaleInto', WHERE WHAT IT READS IS OF BULK AT MOST 1048576: true; the input reads as it did. -/
def fnExactScaleIntoUptoRow : OpenClaim := { program := "ytiklhpmlchalkaa", sum := "bb29591191dc0a99fa6e976b4c119f814a429aade3bb1cd0abf8aa318b44fefb", func := "loop.example/g01003/laws.FnExactScaleInto", spec := "fnExactScaleInto", unfollowed := true, recurses := true, apart := false, narrowed := true }
def FnExactScaleIntoUptoSaid : Prop := fnExactScaleIntoUptoRow.holds Try.pinned (OpenSpec.upto fnExactScaleIntoSpec)

/-- 'laws.FnExactScaleOut', WHERE WHAT IT READS IS OF BULK AT MOST 1048576: true; the input reads as it did. -/
def fnExactScaleOutUptoRow : OpenClaim := { program := "ytiklhpmlchalkaa", sum := "bb29591191dc0a99fa6e976b4c119f814a429aade3bb1cd0abf8aa318b44fefb", func := "loop.example/g01003/laws.FnExactScaleOut", spec := "fnExactScaleOut", unfollowed := true, recurses := true, apart := false, narrowed := true }
def FnExactScaleOutUptoSaid : Prop := fnExactScaleOutUptoRow.holds Try.pinned (OpenSpec.upto fnExactScaleOutSpec)

/-- 'laws.FnExactReturnTime', WHERE WHAT IT READS IS OF BULK AT MOST 1048576: true; the input reads as it did. -/
def fnExactReturnTimeUptoRow : OpenClaim := { program := "ytiklhpmlchalkaa", sum := "bb29591191dc0a99fa6e976b4c119f814a429aade3bb1cd0abf8aa318b44fefb", func := "loop.example/g01003/laws.FnExactReturnTime", spec := "fnExactReturnTime", unfollowed := true, recurses := true, apart := false, narrowed := true }
def FnExactReturnTimeUptoSaid : Prop := fnExactReturnTimeUptoRow.holds Try.pinned (OpenSpec.upto fnExactReturnTimeSpec)

/-- 'laws.FnExactReturnsAfter', WHERE WHAT IT READS IS OF BULK AT MOST 1048576: true; the input reads as it did. -/
def fnExactReturnsAfterUptoRow : OpenClaim := { program := "ytiklhpmlchalkaa", sum := "bb29591191dc0a99fa6e976b4c119f814a429aade3bb1cd0abf8aa318b44fefb", func := "loop.example/g01003/laws.FnExactReturnsAfter", spec := "fnExactReturnsAfter", unfollowed := true, recurses := true, apart := false, narrowed := true }
def FnExactReturnsAfterUptoSaid : Prop := fnExactReturnsAfterUptoRow.holds Try.pinned (OpenSpec.upto fnExactReturnsAfterSpec)

/-- 'laws.FnExactLeastReturn', WHERE WHAT IT READS IS OF BULK AT MOST 1048576: true; the input reads as it did. -/
def fnExactLeastReturnUptoRow : OpenClaim := { program := "ytiklhpmlchalkaa", sum := "bb29591191dc0a99fa6e976b4c119f814a429aade3bb1cd0abf8aa318b44fefb", func := "loop.example/g01003/laws.FnExactLeastReturn", spec := "fnExactLeastReturn", unfollowed := true, recurses := true, apart := false, narrowed := true }
def FnExactLeastReturnUptoSaid : Prop := fnExactLeastReturnUptoRow.holds Try.pinned (OpenSpec.upto fnExactLeastReturnSpec)

/-- 'laws.FnExactPartInto', WHERE WHAT IT READS IS OF BULK AT MOST 1048576: true; the input reads as it did. -/
def fnExactPartIntoUptoRow : OpenClaim := { program := "ytiklhpmlchalkaa", sum := "bb29591191dc0a99fa6e976b4c119f814a429aade3bb1cd0abf8aa318b44fefb", func := "loop.example/g01003/laws.FnExactPartInto", spec := "fnExactPartInto", unfollowed := true, recurses := true, apart := false, narrowed := true }
def FnExactPartIntoUptoSaid : Prop := fnExactPartIntoUptoRow.holds Try.pinned (OpenSpec.upto fnExactPartIntoSpec)

/-- 'laws.FnExactIsRestrictive', WHERE WHAT IT READS IS OF BULK AT MOST 1048576: true; the input reads as it did. -/
def fnExactIsRestrictiveUptoRow : OpenClaim := { program := "ytiklhpmlchalkaa", sum := "bb29591191dc0a99fa6e976b4c119f814a429aade3bb1cd0abf8aa318b44fefb", func := "loop.example/g01003/laws.FnExactIsRestrictive", spec := "fnExactIsRestrictive", unfollowed := true, recurses := true, apart := false, narrowed := true }
def FnExactIsRestrictiveUptoSaid : Prop := fnExactIsRestrictiveUptoRow.holds Try.pinned (OpenSpec.upto fnExactIsRestrictiveSpec)

/-- 'laws.FnExactImagesOf', WHERE WHAT IT READS IS OF BULK AT MOST 1048576: true; the input reads as it did. -/
def fnExactImagesOfUptoRow : OpenClaim := { program := "ytiklhpmlchalkaa", sum := "bb29591191dc0a99fa6e976b4c119f814a429aade3bb1cd0abf8aa318b44fefb", func := "loop.example/g01003/laws.FnExactImagesOf", spec := "fnExactImagesOf", unfollowed := true, recurses := true, apart := false, narrowed := true }
def FnExactImagesOfUptoSaid : Prop := fnExactImagesOfUptoRow.holds Try.pinned (OpenSpec.upto fnExactImagesOfSpec)

/-- 'laws.FnExactRestrictiveAmong', WHERE WHAT IT READS IS OF BULK AT MOST 1048576: true; the input reads as it did. -/
def fnExactRestrictiveAmongUptoRow : OpenClaim := { program := "ytiklhpmlchalkaa", sum := "bb29591191dc0a99fa6e976b4c119f814a429aade3bb1cd0abf8aa318b44fefb", func := "loop.example/g01003/laws.FnExactRestrictiveAmong", spec := "fnExactRestrictiveAmong", unfollowed := true, recurses := true, apart := false, narrowed := true }
def FnExactRestrictiveAmongUptoSaid : Prop := fnExactRestrictiveAmongUptoRow.holds Try.pinned (OpenSpec.upto fnExactRestrictiveAmongSpec)

end Rows
end Go.Proofs.Ytiklhpmlchalkaa
