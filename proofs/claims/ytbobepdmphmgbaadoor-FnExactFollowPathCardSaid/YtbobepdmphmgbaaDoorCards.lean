/-
  DERIVED. GIVEN WITH THE SEED: THE CARDS: each row of YtbobepdmphmgbaaDoorRows.lean that lists a variable, with what it lists TIED to the program's text (the seventh form; the later family's looks); each row that meets fmt, with fmt's text TOLD by the authors' own Lean function (tested against real Go, not proved from fmt's source: count such statements apart). THE CARD IS WHAT COUNTS. Prove the row's statement (the work); the ties are given (YtbobepdmphmgbaaDoorTie.lean); close each card by the builder's one call (the guide's Derived/Test/ToyasCard.lean, 'card_holds'). Laid BY PROGRAM, IN A SANDBOX (cutbox-door.mjs). By AI agents, Wed Nov 11 2026. No macro, syntax, notation, axiom, sorry.
-/
import Derived.Test.YtbobepdmphmgbaaDoorRows
import GoSem.ClaimSeven
namespace Go.Proofs.YtbobepdmphmgbaaDoor
namespace Rows

/-- THE TIED CARD OF 'laws.FnExactFollowPath'. -/
def fnExactFollowPathCard : Claim7 := { stood := { row := fnExactFollowPathRow, standIns := [], harness := (true, "0bc6b570a357935ce5dbc72e02f7052135d1f2f0845bfcd47e7d0cc538cf27f8"), looks := false }, kinds := [], alts := [], laidByText := true, laidKinds := [.data, .pinned], laidTests := true, laidLooks := .later }
def FnExactFollowPathCardSaid : Prop := Claim7.holds Tryd.pinned (.plain (OpenSpec.ofChange fnExactFollowPathSpec)) fnExactFollowPathCard

/-- THE SECOND FORM's CARD OF 'laws.FnExactFollowPath'. -/
def fnExactFollowPathUptoCard : Claim7 := { stood := { row := fnExactFollowPathUptoRow, standIns := [], harness := (true, "0bc6b570a357935ce5dbc72e02f7052135d1f2f0845bfcd47e7d0cc538cf27f8"), looks := false }, kinds := [], alts := [], laidByText := true, laidKinds := [.data, .pinned], laidTests := true, laidLooks := .later }
def FnExactFollowPathUptoCardSaid : Prop := Claim7.holds Tryd.pinned (.plain (OpenSpec.upto fnExactFollowPathSpec)) fnExactFollowPathUptoCard
end Rows
end Go.Proofs.YtbobepdmphmgbaaDoor
