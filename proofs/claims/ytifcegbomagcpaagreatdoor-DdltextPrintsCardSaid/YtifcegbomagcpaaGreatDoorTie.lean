/-
  DERIVED. GIVEN WITH THE SEED: THE PROGRAM's TIES (one call each: nine closed facts by the kernel) AND EACH ROW's TIE, after the 31st guide's Derived/Test/Toyas{Tie, Card}.lean. No idea stands in it: it is a product of the set-up. Laid BY PROGRAM, IN A SANDBOX (cutbox-door.mjs). By AI agents, Wed Nov 11 2026. No macro, syntax, notation, axiom, sorry.
-/
import Derived.Test.YtifcegbomagcpaaGreatDoorRows
import Derived.LaidByTextLater
import Derived.SevenTiedAt
import Derived.LaidSub
import Derived.LaidOnce
namespace Go.Proofs.YtifcegbomagcpaaGreatDoor
open Go
set_option maxRecDepth 100000
theorem seatTie1 : Tryz.prog.laidByTextLater [("haulage/utf.least", Rows.laid_haulage_utf_least), ("haulage/typ.words", Rows.laid_haulage_typ_words), ("haulage/ddltext.words", Rows.laid_haulage_ddltext_words)] [.data, .data, .data] true :=
  Program.laidByTextLater_by_one 24 8 10 (by kernel_rfl) (by kernel_rfl) (by kernel_rfl) (by kernel_rfl) (by kernel_rfl) (by kernel_rfl) (fun _ _ => by kernel_rfl)
theorem noOwnUnsafe : Tryz.pinned.checked.prog.headLifts.contains "ownunsafe" = false := by kernel_rfl
theorem tie : Tryz.prog.laidByTextLater [("haulage/utf.least", Rows.laid_haulage_utf_least), ("haulage/typ.words", Rows.laid_haulage_typ_words), ("haulage/ddltext.words", Rows.laid_haulage_ddltext_words)] [.data, .data, .data] true :=
  Program.laidByTextLater.sub seatTie1 ["haulage/utf.least", "haulage/typ.words", "haulage/ddltext.words"] (by kernel_rfl) (by kernel_rfl)
theorem ddltextPrints_row_tie : Rows.ddltextPrintsRow.laidByTextAt .later Tryz.pinned [.data, .data, .data] true :=
  OpenClaim.laidByTextAt_later rfl rfl tie noOwnUnsafe
theorem ddltextPrintsUpto_row_tie : Rows.ddltextPrintsUptoRow.laidByTextAt .later Tryz.pinned [.data, .data, .data] true :=
  OpenClaim.laidByTextAt_later rfl rfl tie noOwnUnsafe
end Go.Proofs.YtifcegbomagcpaaGreatDoor
