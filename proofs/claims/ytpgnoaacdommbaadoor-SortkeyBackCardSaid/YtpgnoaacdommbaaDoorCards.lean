/-
  DERIVED. GIVEN WITH THE SEED: THE CARDS: each row of YtpgnoaacdommbaaDoorRows.lean that lists a variable, with what it lists TIED to the program's text (the seventh form; the later family's looks); each row that meets fmt, with fmt's text TOLD by the authors' own Lean function (tested against real Go, not proved from fmt's source: count such statements apart). THE CARD IS WHAT COUNTS. Prove the row's statement (the work); the ties are given (YtpgnoaacdommbaaDoorTie.lean); close each card by the builder's one call (the guide's Derived/Test/ToyasCard.lean, 'card_holds'). Laid BY PROGRAM, IN A SANDBOX (cutbox-door.mjs). By AI agents, Wed Nov 11 2026. No macro, syntax, notation, axiom, sorry.
-/
import Derived.Test.YtpgnoaacdommbaaDoorRows
import GoSem.ClaimSeven
namespace Go.Proofs.YtpgnoaacdommbaaDoor
namespace Rows

/-- THE TIED CARD OF 'haulagelaw07.SortkeyOf'. -/
def sortkeyOfCard : Claim7 := { stood := { row := sortkeyOfRow, standIns := [], harness := (true, "beb376dfbb4a59605a792db6a5d17ca36c22f7163bf42f5f210d6e6d51c53450"), looks := false }, kinds := [], alts := [], laidByText := true, laidKinds := [.data], laidTests := true, laidLooks := .later }
def SortkeyOfCardSaid : Prop := Claim7.holds Tryd.pinned (.plain (OpenSpec.ofChange sortkeyOfSpec)) sortkeyOfCard

/-- THE TIED CARD OF 'haulagelaw07.SortkeyNext'. -/
def sortkeyNextCard : Claim7 := { stood := { row := sortkeyNextRow, standIns := [], harness := (true, "beb376dfbb4a59605a792db6a5d17ca36c22f7163bf42f5f210d6e6d51c53450"), looks := false }, kinds := [], alts := [], laidByText := true, laidKinds := [.data], laidTests := true, laidLooks := .later }
def SortkeyNextCardSaid : Prop := Claim7.holds Tryd.pinned (.plain (OpenSpec.ofChange sortkeyNextSpec)) sortkeyNextCard

/-- THE TIED CARD OF 'haulagelaw07.SortkeyOrders'. -/
def sortkeyOrdersCard : Claim7 := { stood := { row := sortkeyOrdersRow, standIns := [], harness := (true, "beb376dfbb4a59605a792db6a5d17ca36c22f7163bf42f5f210d6e6d51c53450"), looks := false }, kinds := [], alts := [], laidByText := true, laidKinds := [.data], laidTests := true, laidLooks := .later }
def SortkeyOrdersCardSaid : Prop := Claim7.holds Tryd.pinned (.plain (OpenSpec.ofChange sortkeyOrdersSpec)) sortkeyOrdersCard

/-- THE TIED CARD OF 'haulagelaw07.SortkeyReads'. -/
def sortkeyReadsCard : Claim7 := { stood := { row := sortkeyReadsRow, standIns := [], harness := (true, "beb376dfbb4a59605a792db6a5d17ca36c22f7163bf42f5f210d6e6d51c53450"), looks := false }, kinds := [], alts := [], laidByText := true, laidKinds := [.data], laidTests := true, laidLooks := .later }
def SortkeyReadsCardSaid : Prop := Claim7.holds Tryd.pinned (.plain (OpenSpec.ofChange sortkeyReadsSpec)) sortkeyReadsCard

/-- THE TIED CARD OF 'haulagelaw07.SortkeyBack'. -/
def sortkeyBackCard : Claim7 := { stood := { row := sortkeyBackRow, standIns := [], harness := (true, "beb376dfbb4a59605a792db6a5d17ca36c22f7163bf42f5f210d6e6d51c53450"), looks := false }, kinds := [], alts := [], laidByText := true, laidKinds := [.data], laidTests := true, laidLooks := .later }
def SortkeyBackCardSaid : Prop := Claim7.holds Tryd.pinned (.plain (OpenSpec.ofChange sortkeyBackSpec)) sortkeyBackCard

/-- THE SECOND FORM's CARD OF 'haulagelaw07.SortkeyOf'. -/
def sortkeyOfUptoCard : Claim7 := { stood := { row := sortkeyOfUptoRow, standIns := [], harness := (true, "beb376dfbb4a59605a792db6a5d17ca36c22f7163bf42f5f210d6e6d51c53450"), looks := false }, kinds := [], alts := [], laidByText := true, laidKinds := [.data], laidTests := true, laidLooks := .later }
def SortkeyOfUptoCardSaid : Prop := Claim7.holds Tryd.pinned (.plain (OpenSpec.upto sortkeyOfSpec)) sortkeyOfUptoCard

/-- THE SECOND FORM's CARD OF 'haulagelaw07.SortkeyNext'. -/
def sortkeyNextUptoCard : Claim7 := { stood := { row := sortkeyNextUptoRow, standIns := [], harness := (true, "beb376dfbb4a59605a792db6a5d17ca36c22f7163bf42f5f210d6e6d51c53450"), looks := false }, kinds := [], alts := [], laidByText := true, laidKinds := [.data], laidTests := true, laidLooks := .later }
def SortkeyNextUptoCardSaid : Prop := Claim7.holds Tryd.pinned (.plain (OpenSpec.upto sortkeyNextSpec)) sortkeyNextUptoCard

/-- THE SECOND FORM's CARD OF 'haulagelaw07.SortkeyOrders'. -/
def sortkeyOrdersUptoCard : Claim7 := { stood := { row := sortkeyOrdersUptoRow, standIns := [], harness := (true, "beb376dfbb4a59605a792db6a5d17ca36c22f7163bf42f5f210d6e6d51c53450"), looks := false }, kinds := [], alts := [], laidByText := true, laidKinds := [.data], laidTests := true, laidLooks := .later }
def SortkeyOrdersUptoCardSaid : Prop := Claim7.holds Tryd.pinned (.plain (OpenSpec.upto sortkeyOrdersSpec)) sortkeyOrdersUptoCard

/-- THE SECOND FORM's CARD OF 'haulagelaw07.SortkeyReads'. -/
def sortkeyReadsUptoCard : Claim7 := { stood := { row := sortkeyReadsUptoRow, standIns := [], harness := (true, "beb376dfbb4a59605a792db6a5d17ca36c22f7163bf42f5f210d6e6d51c53450"), looks := false }, kinds := [], alts := [], laidByText := true, laidKinds := [.data], laidTests := true, laidLooks := .later }
def SortkeyReadsUptoCardSaid : Prop := Claim7.holds Tryd.pinned (.plain (OpenSpec.upto sortkeyReadsSpec)) sortkeyReadsUptoCard

/-- THE SECOND FORM's CARD OF 'haulagelaw07.SortkeyBack'. -/
def sortkeyBackUptoCard : Claim7 := { stood := { row := sortkeyBackUptoRow, standIns := [], harness := (true, "beb376dfbb4a59605a792db6a5d17ca36c22f7163bf42f5f210d6e6d51c53450"), looks := false }, kinds := [], alts := [], laidByText := true, laidKinds := [.data], laidTests := true, laidLooks := .later }
def SortkeyBackUptoCardSaid : Prop := Claim7.holds Tryd.pinned (.plain (OpenSpec.upto sortkeyBackSpec)) sortkeyBackUptoCard
end Rows
end Go.Proofs.YtpgnoaacdommbaaDoor
