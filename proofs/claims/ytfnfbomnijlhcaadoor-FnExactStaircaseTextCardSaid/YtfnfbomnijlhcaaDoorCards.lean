/-
  DERIVED. GIVEN WITH THE SEED: THE CARDS: each row of YtfnfbomnijlhcaaDoorRows.lean that lists a variable, with what it lists TIED to the program's text (the seventh form; the later family's looks); each row that meets fmt, with fmt's text TOLD by the authors' own Lean function (tested against real Go, not proved from fmt's source: count such statements apart). THE CARD IS WHAT COUNTS. Prove the row's statement (the work); the ties are given (YtfnfbomnijlhcaaDoorTie.lean); close each card by the builder's one call (the guide's Derived/Test/ToyasCard.lean, 'card_holds'). Laid BY PROGRAM, IN A SANDBOX (cutbox-door.mjs). By AI agents, Wed Nov 11 2026. No macro, syntax, notation, axiom, sorry.
-/
import Derived.Test.YtfnfbomnijlhcaaDoorRows
import GoSem.ClaimSeven
namespace Go.Proofs.YtfnfbomnijlhcaaDoor
namespace Rows

/-- THE TIED CARD OF 'laws.FnTree'. -/
def fnTreeCard : Claim7 := { stood := { row := fnTreeRow, standIns := [], harness := (true, "911f2627c729f26fcafdf61d57787697c632767fafdf71cf0bad3372bf40f6d6"), looks := false }, kinds := [], alts := [], laidByText := true, laidKinds := [.data, .pinned], laidTests := true, laidLooks := .later }
def FnTreeCardSaid : Prop := Claim7.holds Tryd.pinned (.plain (OpenSpec.ofChange fnTreeSpec)) fnTreeCard

/-- THE TIED CARD OF 'laws.FnExactStaircaseText'. -/
def fnExactStaircaseTextCard : Claim7 := { stood := { row := fnExactStaircaseTextRow, standIns := [], harness := (true, "911f2627c729f26fcafdf61d57787697c632767fafdf71cf0bad3372bf40f6d6"), looks := false }, kinds := [], alts := [], laidByText := true, laidKinds := [.data, .data, .data], laidTests := true, laidLooks := .later }
def FnExactStaircaseTextCardSaid : Prop := Claim7.holds Tryd.pinned (.plain (OpenSpec.ofChange fnExactStaircaseTextSpec)) fnExactStaircaseTextCard

/-- THE SECOND FORM's CARD OF 'laws.FnTree'. -/
def fnTreeUptoCard : Claim7 := { stood := { row := fnTreeUptoRow, standIns := [], harness := (true, "911f2627c729f26fcafdf61d57787697c632767fafdf71cf0bad3372bf40f6d6"), looks := false }, kinds := [], alts := [], laidByText := true, laidKinds := [.data, .pinned], laidTests := true, laidLooks := .later }
def FnTreeUptoCardSaid : Prop := Claim7.holds Tryd.pinned (.plain (OpenSpec.upto fnTreeSpec)) fnTreeUptoCard

/-- THE SECOND FORM's CARD OF 'laws.FnExactStaircaseText'. -/
def fnExactStaircaseTextUptoCard : Claim7 := { stood := { row := fnExactStaircaseTextUptoRow, standIns := [], harness := (true, "911f2627c729f26fcafdf61d57787697c632767fafdf71cf0bad3372bf40f6d6"), looks := false }, kinds := [], alts := [], laidByText := true, laidKinds := [.data, .data, .data], laidTests := true, laidLooks := .later }
def FnExactStaircaseTextUptoCardSaid : Prop := Claim7.holds Tryd.pinned (.plain (OpenSpec.upto fnExactStaircaseTextSpec)) fnExactStaircaseTextUptoCard
end Rows
end Go.Proofs.YtfnfbomnijlhcaaDoor
