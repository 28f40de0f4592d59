/-
  DERIVED. GIVEN WITH THE SEED: THE CARDS: each row of YtifcegbomagcpaaGreatDoorRows.lean that lists a variable, with what it lists TIED to the program's text (the seventh form; the later family's looks); each row that meets fmt, with fmt's text TOLD by the authors' own Lean function (tested against real Go, not proved from fmt's source: count such statements apart). THE CARD IS WHAT COUNTS. Prove the row's statement (the work); the ties are given (YtifcegbomagcpaaGreatDoorTie.lean); close each card by the builder's one call (the guide's Derived/Test/ToyasCard.lean, 'card_holds'). Laid BY PROGRAM, IN A SANDBOX (cutbox-door.mjs). By AI agents, Wed Nov 11 2026. No macro, syntax, notation, axiom, sorry.
-/
import Derived.Test.YtifcegbomagcpaaGreatDoorRows
import GoSem.ClaimSeven
namespace Go.Proofs.YtifcegbomagcpaaGreatDoor
namespace Rows

/-- THE TIED CARD OF 'haulagelaw10.DdltextPrints'. -/
def ddltextPrintsCard : Claim7 := { stood := { row := ddltextPrintsRow, standIns := [], harness := (true, "9e846728cfa4dcc39bb455b9cdcb16804c93c370acb1a27634991d3840aae57e"), looks := true }, kinds := [], alts := [], laidByText := true, laidKinds := [.data, .data, .data], laidTests := true, laidLooks := .later }
def DdltextPrintsCardSaid : Prop := Claim7.holds Tryz.pinned (.plain (OpenSpec.ofChange ddltextPrintsSpec)) ddltextPrintsCard

/-- THE SECOND FORM's CARD OF 'haulagelaw10.DdltextPrints'. -/
def ddltextPrintsUptoCard : Claim7 := { stood := { row := ddltextPrintsUptoRow, standIns := [], harness := (true, "9e846728cfa4dcc39bb455b9cdcb16804c93c370acb1a27634991d3840aae57e"), looks := true }, kinds := [], alts := [], laidByText := true, laidKinds := [.data, .data, .data], laidTests := true, laidLooks := .later }
def DdltextPrintsUptoCardSaid : Prop := Claim7.holds Tryz.pinned (.plain (OpenSpec.upto ddltextPrintsSpec)) ddltextPrintsUptoCard
end Rows
end Go.Proofs.YtifcegbomagcpaaGreatDoor
