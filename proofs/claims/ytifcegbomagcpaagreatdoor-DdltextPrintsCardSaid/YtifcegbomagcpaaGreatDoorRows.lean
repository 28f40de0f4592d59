/-
  NARROWER THAN 'FOR EVERY INPUT', by the rows' own cells (each row's printed sentence says how): DdltextPrints: laid.
  DERIVED. THE GIVEN ROWS OF THIS SEAT. 1 by the template 'for every input the law returns true; each argument reads behind the call as it read before'; 0 by the template 'total and deterministic' (their statements: YtifcegbomagcpaaGreatDoorTotals.lean).
  GIVEN WITH THE SEED: the statements are not yours to turn. If you find one false, say at which input.
  Laid BY PROGRAM, IN A SANDBOX (cutbox-rows.mjs): the forced cells as the released guide's own fill.sh prints them over the translation 2e98363f62259ba7… (all of the seat's roots in one cut). By AI agents, Wed Nov 11 2026. No macro, syntax, notation, axiom, sorry.
-/
import Derived.Test.YtifcegbomagcpaaGreatDoorChecked
import GoSem.Claim
import GoSem.ClaimJoined
import GoSem.ClaimMapViews
import Derived.JoinedTies
import Derived.KernelRfl
namespace Go.Proofs.YtifcegbomagcpaaGreatDoor
/- THE CELL 'sum', in the pinned program and in every row, IS THE sha256 OF THE DUMP (.gsa) THAT YtifcegbomagcpaaGreatDoorProg.lean LOADS. Nothing in Lean hashes anything: it is a label: what it is worth is what the hold of that sum in a sandbox is worth. -/
noncomputable def Tryz.pinned : Pinned := { name := "ytifcegbomagcpaagreatdoor", sum := "2e98363f62259ba7f7ff2165ba413db91edbfac434c108368efe62ea1a6036a9", checked := Tryz.checked }
namespace Rows
def none {H : Type} : Left H := { results := [], args := [] }

/- WHAT THE LISTED PACKAGE-LEVEL VARIABLES READ AS WHEN THE CALL BEGINS. Each datum BY PROGRAM (the guide's laid-datum.mjs) off the statement by which the dump's own 'gosem.cut.vars' lays the variable. In a bare row this is a premise. The card (YtifcegbomagcpaaGreatDoorCards.lean) ties it to the program's text. -/
def laid_haulage_utf_least {H : Type} : DataW H := .agg [.lit (.int .i64 0), .lit (.int .i64 0), .lit (.int .i64 128), .lit (.int .i64 2048), .lit (.int .i64 65536)]
def laid_haulage_typ_words {H : Type} : DataW H := .agg [.lit (.string []), .lit (.string [105, 110, 116]), .lit (.string [108, 111, 110, 103]), .lit (.string [116, 101, 120, 116]), .lit (.string [98, 121, 116, 101, 115])]
def laid_haulage_ddltext_words {H : Type} : DataW H := .agg [.lit (.string []), .lit (.string [99, 114, 101, 97, 116, 101]), .lit (.string [100, 114, 111, 112]), .lit (.string [114, 101, 110, 97, 109, 101]), .lit (.string [97, 100, 100]), .lit (.string [99, 117, 116]), .lit (.string [99, 97, 108, 108]), .lit (.string [119, 105, 100, 101, 110]), .lit (.string [112, 114, 101, 115, 101, 116])]

/-- 'haulagelaw10.DdltextPrints': WHATEVER THE INPUT: true; the input reads as it did. -/
def ddltextPrintsSpec : ChangeSpec := { name := "ddltextPrints", fn := fun _ => fun
  | [d] => { results := [.lit (.bool true)], args := [d] }
  | _ => none }
def ddltextPrintsRow : OpenClaim := { program := "ytifcegbomagcpaagreatdoor", sum := "2e98363f62259ba7f7ff2165ba413db91edbfac434c108368efe62ea1a6036a9", func := "haulage/haulagelaw10.DdltextPrints", spec := "ddltextPrints", inPlace := ["internal/bytealg.IndexByteString", "internal/abi.NoEscape"], unfollowed := true, recurses := true, named := ["haulage/ddltext.words", "haulage/typ.words", "haulage/utf.least"], apart := false, laid := [("haulage/utf.least", laid_haulage_utf_least), ("haulage/typ.words", laid_haulage_typ_words), ("haulage/ddltext.words", laid_haulage_ddltext_words)] }
def DdltextPrintsSaid : Prop := ddltextPrintsRow.holds Tryz.pinned (OpenSpec.ofChange ddltextPrintsSpec)

/-- ITS FALSE NEIGHBOUR: 'it returns false'. Refute it at one input. -/
def ddltextPrintsWrong : ChangeSpec := { name := "ddltextPrints", fn := fun _ => fun
  | [d] => { results := [.lit (.bool false)], args := [d] }
  | _ => none }
def DdltextPrintsWrongFalsely : Prop := ddltextPrintsRow.holds Tryz.pinned (OpenSpec.ofChange ddltextPrintsWrong)

/- THE SECOND FORM. 'bulk': how many values and letters a reading holds, each counted each time it is reached (what is shared counts as often as it is met; a slice's spare places count too). A statement '..UptoSaid' is the law's where the arguments, and the package variables that the reading takes, are together of bulk at most 1048576: NARROWER than '..Said'. Prove '..Said' where nothing that the law and all that it calls make is longer than what came in: it says more and counts as full. Else prove '..UptoSaid'. A law counts once. -/
mutual
def uptoBulk {H : Type} : DataW H → Nat
  | .lit (.string bytes) => bytes.length + 1
  | .lit _ => 1
  | .nil => 1
  | .ptr d => uptoBulk d + 1
  | .slice elems spare => uptoBulkAll elems + uptoBulkAll spare + 1
  | .agg parts => uptoBulkAll parts + 1
  | .iface _ d => uptoBulk d + 1
  | .map entries => uptoBulkEntries entries + 1
  | .held _ => 1
def uptoBulkAll {H : Type} : List (DataW H) → Nat
  | [] => 0
  | d :: r => uptoBulk d + uptoBulkAll r
def uptoBulkEntries {H : Type} : List (Lit × DataW H) → Nat
  | [] => 0
  | x :: r => uptoBulkEntry x + uptoBulkEntries r
def uptoBulkEntry {H : Type} : Lit × DataW H → Nat
  | (.string bytes, d) => bytes.length + uptoBulk d + 1
  | (_, d) => uptoBulk d + 1
 end
def uptoSmall : (H : Type) → List (DataW H) → Bool := fun _ ds => decide (uptoBulkAll ds ≤ 1048576)
def OpenSpec.upto (s : _root_.Go.ChangeSpec) : _root_.Go.OpenSpec := { _root_.Go.OpenSpec.ofChange s with cond := some uptoSmall }

/-- 'haulagelaw10.DdltextPrints', WHERE WHAT IT READS IS OF BULK AT MOST 1048576: true; the input reads as it did. -/
def ddltextPrintsUptoRow : OpenClaim := { program := "ytifcegbomagcpaagreatdoor", sum := "2e98363f62259ba7f7ff2165ba413db91edbfac434c108368efe62ea1a6036a9", func := "haulage/haulagelaw10.DdltextPrints", spec := "ddltextPrints", inPlace := ["internal/bytealg.IndexByteString", "internal/abi.NoEscape"], unfollowed := true, recurses := true, named := ["haulage/ddltext.words", "haulage/typ.words", "haulage/utf.least"], apart := false, laid := [("haulage/utf.least", laid_haulage_utf_least), ("haulage/typ.words", laid_haulage_typ_words), ("haulage/ddltext.words", laid_haulage_ddltext_words)], narrowed := true }
def DdltextPrintsUptoSaid : Prop := ddltextPrintsUptoRow.holds Tryz.pinned (OpenSpec.upto ddltextPrintsSpec)

end Rows
end Go.Proofs.YtifcegbomagcpaaGreatDoor
