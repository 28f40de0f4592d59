/-
  DERIVED. GIVEN WITH THE SEED: THE CARDS: each row of YtompbjamfhkgfaaDoorRows.lean that lists a variable, with what it lists TIED to the program's text (the seventh form; the later family's looks); each row that meets fmt, with fmt's text TOLD by the authors' own Lean function (tested against real Go, not proved from fmt's source: count such statements apart). THE CARD IS WHAT COUNTS. Prove the row's statement (the work); the ties are given (YtompbjamfhkgfaaDoorTie.lean); close each card by the builder's one call (the guide's Derived/Test/ToyasCard.lean, 'card_holds'). Laid BY PROGRAM, IN A SANDBOX (cutbox-door.mjs). By AI agents, Wed Nov 11 2026. No macro, syntax, notation, axiom, sorry.
-/
import Derived.Test.YtompbjamfhkgfaaDoorRows
import GoSem.ClaimSeven
namespace Go.Proofs.YtompbjamfhkgfaaDoor
namespace Rows

/-- THE TIED CARD OF 'haulagelaw06.TypJoins'. -/
def typJoinsCard : Claim7 := { stood := { row := typJoinsRow, standIns := [], harness := (true, "939a93f9c0555fee9738e0b683a48c001f9d008f38971956e49cc448e18c2355"), looks := false }, kinds := [], alts := [], laidByText := true, laidKinds := [.data], laidTests := true, laidLooks := .later }
def TypJoinsCardSaid : Prop := Claim7.holds Tryd.pinned (.plain (OpenSpec.ofChange typJoinsSpec)) typJoinsCard

/-- THE TIED CARD OF 'haulagelaw06.TypCasts'. -/
def typCastsCard : Claim7 := { stood := { row := typCastsRow, standIns := [], harness := (true, "939a93f9c0555fee9738e0b683a48c001f9d008f38971956e49cc448e18c2355"), looks := false }, kinds := [], alts := [], laidByText := true, laidKinds := [.data], laidTests := true, laidLooks := .later }
def TypCastsCardSaid : Prop := Claim7.holds Tryd.pinned (.plain (OpenSpec.ofChange typCastsSpec)) typCastsCard

/-- THE TIED CARD OF 'haulagelaw06.TypOrder'. -/
def typOrderCard : Claim7 := { stood := { row := typOrderRow, standIns := [], harness := (true, "939a93f9c0555fee9738e0b683a48c001f9d008f38971956e49cc448e18c2355"), looks := false }, kinds := [], alts := [], laidByText := true, laidKinds := [.data], laidTests := true, laidLooks := .later }
def TypOrderCardSaid : Prop := Claim7.holds Tryd.pinned (.plain (OpenSpec.ofChange typOrderSpec)) typOrderCard

/-- THE TIED CARD OF 'haulagelaw06.TypTells'. -/
def typTellsCard : Claim7 := { stood := { row := typTellsRow, standIns := [], harness := (true, "939a93f9c0555fee9738e0b683a48c001f9d008f38971956e49cc448e18c2355"), looks := false }, kinds := [], alts := [], laidByText := true, laidKinds := [.data], laidTests := true, laidLooks := .later }
def TypTellsCardSaid : Prop := Claim7.holds Tryd.pinned (.plain (OpenSpec.ofChange typTellsSpec)) typTellsCard

/-- THE TIED CARD OF 'haulagelaw06.TypWidens'. -/
def typWidensCard : Claim7 := { stood := { row := typWidensRow, standIns := [], harness := (true, "939a93f9c0555fee9738e0b683a48c001f9d008f38971956e49cc448e18c2355"), looks := false }, kinds := [], alts := [], laidByText := true, laidKinds := [.data], laidTests := true, laidLooks := .later }
def TypWidensCardSaid : Prop := Claim7.holds Tryd.pinned (.plain (OpenSpec.ofChange typWidensSpec)) typWidensCard

/-- THE TIED CARD OF 'haulagelaw06.TypTexts'. -/
def typTextsCard : Claim7 := { stood := { row := typTextsRow, standIns := [], harness := (true, "939a93f9c0555fee9738e0b683a48c001f9d008f38971956e49cc448e18c2355"), looks := false }, kinds := [], alts := [], laidByText := true, laidKinds := [.data, .data], laidTests := true, laidLooks := .later }
def TypTextsCardSaid : Prop := Claim7.holds Tryd.pinned (.plain (OpenSpec.ofChange typTextsSpec)) typTextsCard

/-- THE SECOND FORM's CARD OF 'haulagelaw06.TypJoins'. -/
def typJoinsUptoCard : Claim7 := { stood := { row := typJoinsUptoRow, standIns := [], harness := (true, "939a93f9c0555fee9738e0b683a48c001f9d008f38971956e49cc448e18c2355"), looks := false }, kinds := [], alts := [], laidByText := true, laidKinds := [.data], laidTests := true, laidLooks := .later }
def TypJoinsUptoCardSaid : Prop := Claim7.holds Tryd.pinned (.plain (OpenSpec.upto typJoinsSpec)) typJoinsUptoCard

/-- THE SECOND FORM's CARD OF 'haulagelaw06.TypCasts'. -/
def typCastsUptoCard : Claim7 := { stood := { row := typCastsUptoRow, standIns := [], harness := (true, "939a93f9c0555fee9738e0b683a48c001f9d008f38971956e49cc448e18c2355"), looks := false }, kinds := [], alts := [], laidByText := true, laidKinds := [.data], laidTests := true, laidLooks := .later }
def TypCastsUptoCardSaid : Prop := Claim7.holds Tryd.pinned (.plain (OpenSpec.upto typCastsSpec)) typCastsUptoCard

/-- THE SECOND FORM's CARD OF 'haulagelaw06.TypOrder'. -/
def typOrderUptoCard : Claim7 := { stood := { row := typOrderUptoRow, standIns := [], harness := (true, "939a93f9c0555fee9738e0b683a48c001f9d008f38971956e49cc448e18c2355"), looks := false }, kinds := [], alts := [], laidByText := true, laidKinds := [.data], laidTests := true, laidLooks := .later }
def TypOrderUptoCardSaid : Prop := Claim7.holds Tryd.pinned (.plain (OpenSpec.upto typOrderSpec)) typOrderUptoCard

/-- THE SECOND FORM's CARD OF 'haulagelaw06.TypTells'. -/
def typTellsUptoCard : Claim7 := { stood := { row := typTellsUptoRow, standIns := [], harness := (true, "939a93f9c0555fee9738e0b683a48c001f9d008f38971956e49cc448e18c2355"), looks := false }, kinds := [], alts := [], laidByText := true, laidKinds := [.data], laidTests := true, laidLooks := .later }
def TypTellsUptoCardSaid : Prop := Claim7.holds Tryd.pinned (.plain (OpenSpec.upto typTellsSpec)) typTellsUptoCard

/-- THE SECOND FORM's CARD OF 'haulagelaw06.TypWidens'. -/
def typWidensUptoCard : Claim7 := { stood := { row := typWidensUptoRow, standIns := [], harness := (true, "939a93f9c0555fee9738e0b683a48c001f9d008f38971956e49cc448e18c2355"), looks := false }, kinds := [], alts := [], laidByText := true, laidKinds := [.data], laidTests := true, laidLooks := .later }
def TypWidensUptoCardSaid : Prop := Claim7.holds Tryd.pinned (.plain (OpenSpec.upto typWidensSpec)) typWidensUptoCard

/-- THE SECOND FORM's CARD OF 'haulagelaw06.TypTexts'. -/
def typTextsUptoCard : Claim7 := { stood := { row := typTextsUptoRow, standIns := [], harness := (true, "939a93f9c0555fee9738e0b683a48c001f9d008f38971956e49cc448e18c2355"), looks := false }, kinds := [], alts := [], laidByText := true, laidKinds := [.data, .data], laidTests := true, laidLooks := .later }
def TypTextsUptoCardSaid : Prop := Claim7.holds Tryd.pinned (.plain (OpenSpec.upto typTextsSpec)) typTextsUptoCard
end Rows
end Go.Proofs.YtompbjamfhkgfaaDoor
