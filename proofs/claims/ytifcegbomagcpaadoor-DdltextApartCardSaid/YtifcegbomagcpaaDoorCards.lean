/-
  DERIVED. GIVEN WITH THE SEED: THE CARDS: each row of YtifcegbomagcpaaDoorRows.lean that lists a variable, with what it lists TIED to the program's text (the seventh form; the later family's looks); each row that meets fmt, with fmt's text TOLD by the authors' own Lean function (tested against real Go, not proved from fmt's source: count such statements apart). THE CARD IS WHAT COUNTS. Prove the row's statement (the work); the ties are given (YtifcegbomagcpaaDoorTie.lean); close each card by the builder's one call (the guide's Derived/Test/ToyasCard.lean, 'card_holds'). Laid BY PROGRAM, IN A SANDBOX (cutbox-door.mjs). By AI agents, Wed Nov 11 2026. No macro, syntax, notation, axiom, sorry.
-/
import Derived.Test.YtifcegbomagcpaaDoorRows
import GoSem.ClaimSeven
namespace Go.Proofs.YtifcegbomagcpaaDoor
namespace Rows

/-- THE TIED CARD OF 'haulagelaw10.DdltextParses'. -/
def ddltextParsesCard : Claim7 := { stood := { row := ddltextParsesRow, standIns := [], harness := (true, "ff506ffebcb30f42c34d21a2566d1b85e00d1880d911ed4788c0d651db5f6868"), looks := true }, kinds := [], alts := [], laidByText := true, laidKinds := [.data, .data, .data], laidTests := true, laidLooks := .later }
def DdltextParsesCardSaid : Prop := Claim7.holds Tryd.pinned (.plain (OpenSpec.ofChange ddltextParsesSpec)) ddltextParsesCard

/-- THE TIED CARD OF 'haulagelaw10.DdltextBack'. -/
def ddltextBackCard : Claim7 := { stood := { row := ddltextBackRow, standIns := [], harness := (true, "ff506ffebcb30f42c34d21a2566d1b85e00d1880d911ed4788c0d651db5f6868"), looks := true }, kinds := [], alts := [], laidByText := true, laidKinds := [.data, .data, .data], laidTests := true, laidLooks := .later }
def DdltextBackCardSaid : Prop := Claim7.holds Tryd.pinned (.plain (OpenSpec.ofChange ddltextBackSpec)) ddltextBackCard

/-- THE TIED CARD OF 'haulagelaw10.DdltextApart'. -/
def ddltextApartCard : Claim7 := { stood := { row := ddltextApartRow, standIns := [], harness := (true, "ff506ffebcb30f42c34d21a2566d1b85e00d1880d911ed4788c0d651db5f6868"), looks := true }, kinds := [], alts := [], laidByText := true, laidKinds := [.data, .data, .data], laidTests := true, laidLooks := .later }
def DdltextApartCardSaid : Prop := Claim7.holds Tryd.pinned (.plain (OpenSpec.ofChange ddltextApartSpec)) ddltextApartCard

/-- THE SECOND FORM's CARD OF 'haulagelaw10.DdltextParses'. -/
def ddltextParsesUptoCard : Claim7 := { stood := { row := ddltextParsesUptoRow, standIns := [], harness := (true, "ff506ffebcb30f42c34d21a2566d1b85e00d1880d911ed4788c0d651db5f6868"), looks := true }, kinds := [], alts := [], laidByText := true, laidKinds := [.data, .data, .data], laidTests := true, laidLooks := .later }
def DdltextParsesUptoCardSaid : Prop := Claim7.holds Tryd.pinned (.plain (OpenSpec.upto ddltextParsesSpec)) ddltextParsesUptoCard

/-- THE SECOND FORM's CARD OF 'haulagelaw10.DdltextBack'. -/
def ddltextBackUptoCard : Claim7 := { stood := { row := ddltextBackUptoRow, standIns := [], harness := (true, "ff506ffebcb30f42c34d21a2566d1b85e00d1880d911ed4788c0d651db5f6868"), looks := true }, kinds := [], alts := [], laidByText := true, laidKinds := [.data, .data, .data], laidTests := true, laidLooks := .later }
def DdltextBackUptoCardSaid : Prop := Claim7.holds Tryd.pinned (.plain (OpenSpec.upto ddltextBackSpec)) ddltextBackUptoCard

/-- THE SECOND FORM's CARD OF 'haulagelaw10.DdltextApart'. -/
def ddltextApartUptoCard : Claim7 := { stood := { row := ddltextApartUptoRow, standIns := [], harness := (true, "ff506ffebcb30f42c34d21a2566d1b85e00d1880d911ed4788c0d651db5f6868"), looks := true }, kinds := [], alts := [], laidByText := true, laidKinds := [.data, .data, .data], laidTests := true, laidLooks := .later }
def DdltextApartUptoCardSaid : Prop := Claim7.holds Tryd.pinned (.plain (OpenSpec.upto ddltextApartSpec)) ddltextApartUptoCard
end Rows
end Go.Proofs.YtifcegbomagcpaaDoor
