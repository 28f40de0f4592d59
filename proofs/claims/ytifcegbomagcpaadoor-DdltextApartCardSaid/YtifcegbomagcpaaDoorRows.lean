/-
  NARROWER THAN 'FOR EVERY INPUT', by the rows' own cells (each row's printed sentence says how): DdltextParses: laid · DdltextBack: laid · DdltextApart: laid.
  DERIVED. THE GIVEN ROWS OF THIS SEAT. 3 by the template 'for every input the law returns true; each argument reads behind the call as it read before'; 0 by the template 'total and deterministic' (their statements: YtifcegbomagcpaaDoorTotals.lean).
  GIVEN WITH THE SEED: the statements are not yours to turn. If you find one false, say at which input.
  Laid BY PROGRAM, IN A SANDBOX (cutbox-rows.mjs): the forced cells as the released guide's own fill.sh prints them over the translation 95fe26fbf7ff5db7… (all of the seat's roots in one cut). By AI agents, Wed Nov 11 2026. No macro, syntax, notation, axiom, sorry.
-/
import Derived.Test.YtifcegbomagcpaaDoorChecked
import GoSem.Claim
import GoSem.ClaimJoined
import GoSem.ClaimMapViews
import Derived.JoinedTies
import Derived.KernelRfl
namespace Go.Proofs.YtifcegbomagcpaaDoor
/- THE CELL 'sum', in the pinned program and in every row, IS THE sha256 OF THE DUMP (.gsa) THAT YtifcegbomagcpaaDoorProg.lean LOADS. Nothing in Lean hashes anything: it is a label: what it is worth is what the hold of that sum in a sandbox is worth. -/
noncomputable def Tryd.pinned : Pinned := { name := "ytifcegbomagcpaadoor", sum := "95fe26fbf7ff5db7a5db959e0624737a7199b5d3a17f50c4d4074044e841caed", checked := Tryd.checked }
namespace Rows
def none {H : Type} : Left H := { results := [], args := [] }

/- WHAT THE LISTED PACKAGE-LEVEL VARIABLES READ AS WHEN THE CALL BEGINS. Each datum BY PROGRAM (the guide's laid-datum.mjs) off the statement by which the dump's own 'gosem.cut.vars' lays the variable. In a bare row this is a premise. The card (YtifcegbomagcpaaDoorCards.lean) ties it to the program's text. -/
def laid_haulage_utf_least {H : Type} : DataW H := .agg [.lit (.int .i64 0), .lit (.int .i64 0), .lit (.int .i64 128), .lit (.int .i64 2048), .lit (.int .i64 65536)]
def laid_haulage_typ_words {H : Type} : DataW H := .agg [.lit (.string []), .lit (.string [105, 110, 116]), .lit (.string [108, 111, 110, 103]), .lit (.string [116, 101, 120, 116]), .lit (.string [98, 121, 116, 101, 115])]
def laid_haulage_ddltext_words {H : Type} : DataW H := .agg [.lit (.string []), .lit (.string [99, 114, 101, 97, 116, 101]), .lit (.string [100, 114, 111, 112]), .lit (.string [114, 101, 110, 97, 109, 101]), .lit (.string [97, 100, 100]), .lit (.string [99, 117, 116]), .lit (.string [99, 97, 108, 108]), .lit (.string [119, 105, 100, 101, 110]), .lit (.string [112, 114, 101, 115, 101, 116])]

/-- 'haulagelaw10.DdltextParses': WHATEVER THE INPUT: true; the input reads as it did. -/
def ddltextParsesSpec : ChangeSpec := { name := "ddltextParses", fn := fun _ => fun
  | [d] => { results := [.lit (.bool true)], args := [d] }
  | _ => none }
def ddltextParsesRow : OpenClaim := { program := "ytifcegbomagcpaadoor", sum := "95fe26fbf7ff5db7a5db959e0624737a7199b5d3a17f50c4d4074044e841caed", func := "haulage/haulagelaw10.DdltextParses", spec := "ddltextParses", inPlace := ["internal/bytealg.IndexByteString"], unfollowed := true, recurses := true, named := ["haulage/ddltext.words", "haulage/typ.words", "haulage/utf.least"], apart := false, laid := [("haulage/utf.least", laid_haulage_utf_least), ("haulage/typ.words", laid_haulage_typ_words), ("haulage/ddltext.words", laid_haulage_ddltext_words)] }
def DdltextParsesSaid : Prop := ddltextParsesRow.holds Tryd.pinned (OpenSpec.ofChange ddltextParsesSpec)

/-- ITS FALSE NEIGHBOUR: 'it returns false'. Refute it at one input. -/
def ddltextParsesWrong : ChangeSpec := { name := "ddltextParses", fn := fun _ => fun
  | [d] => { results := [.lit (.bool false)], args := [d] }
  | _ => none }
def DdltextParsesWrongFalsely : Prop := ddltextParsesRow.holds Tryd.pinned (OpenSpec.ofChange ddltextParsesWrong)

/-- 'haulagelaw10.DdltextBack': WHATEVER THE INPUT: true; the input reads as it did. -/
def ddltextBackSpec : ChangeSpec := { name := "ddltextBack", fn := fun _ => fun
  | [d1, d2, d3] => { results := [.lit (.bool true)], args := [d1, d2, d3] }
  | _ => none }
def ddltextBackRow : OpenClaim := { program := "ytifcegbomagcpaadoor", sum := "95fe26fbf7ff5db7a5db959e0624737a7199b5d3a17f50c4d4074044e841caed", func := "haulage/haulagelaw10.DdltextBack", spec := "ddltextBack", inPlace := ["internal/bytealg.IndexByteString", "internal/abi.NoEscape"], unfollowed := true, recurses := true, named := ["haulage/ddltext.words", "haulage/typ.words", "haulage/utf.least"], apart := false, laid := [("haulage/utf.least", laid_haulage_utf_least), ("haulage/typ.words", laid_haulage_typ_words), ("haulage/ddltext.words", laid_haulage_ddltext_words)] }
def DdltextBackSaid : Prop := ddltextBackRow.holds Tryd.pinned (OpenSpec.ofChange ddltextBackSpec)

/-- ITS FALSE NEIGHBOUR: 'it returns false'. Refute it at one input. -/
def ddltextBackWrong : ChangeSpec := { name := "ddltextBack", fn := fun _ => fun
  | [d1, d2, d3] => { results := [.lit (.bool false)], args := [d1, d2, d3] }
  | _ => none }
def DdltextBackWrongFalsely : Prop := ddltextBackRow.holds Tryd.pinned (OpenSpec.ofChange ddltextBackWrong)

/-- 'haulagelaw10.DdltextApart': WHATEVER THE INPUT: true; the input reads as it did. -/
def ddltextApartSpec : ChangeSpec := { name := "ddltextApart", fn := fun _ => fun
  | [d1, d2] => { results := [.lit (.bool true)], args := [d1, d2] }
  | _ => none }
def ddltextApartRow : OpenClaim := { program := "ytifcegbomagcpaadoor", sum := "95fe26fbf7ff5db7a5db959e0624737a7199b5d3a17f50c4d4074044e841caed", func := "haulage/haulagelaw10.DdltextApart", spec := "ddltextApart", inPlace := ["internal/bytealg.IndexByteString", "internal/abi.NoEscape"], unfollowed := true, recurses := true, named := ["haulage/ddltext.words", "haulage/typ.words", "haulage/utf.least"], apart := false, laid := [("haulage/utf.least", laid_haulage_utf_least), ("haulage/typ.words", laid_haulage_typ_words), ("haulage/ddltext.words", laid_haulage_ddltext_words)] }
def DdltextApartSaid : Prop := ddltextApartRow.holds Tryd.pinned (OpenSpec.ofChange ddltextApartSpec)

/-- ITS FALSE NEIGHBOUR: 'it returns false'. Refute it at one input. -/
def ddltextApartWrong : ChangeSpec := { name := "ddltextApart", fn := fun _ => fun
  | [d1, d2] => { results := [.lit (.bool false)], args := [d1, d2] }
  | _ => none }
def DdltextApartWrongFalsely : Prop := ddltextApartRow.holds Tryd.pinned (OpenSpec.ofChange ddltextApartWrong)

/- THE SECOND FORM. 'bulk': how many values and letters a reading holds, each counted each time it is reached (what is shared counts as often as it is met; a slice's spare places count too). A statement '..UptoSaid' is the law's where the arguments, and the package variables that the reading takes, are together of bulk at most 1048576: NARROWER than '..Said'. Prove '..Said' where nothing that the law and all that it calls make is longer than what came in: it says more and counts as full. Else prove '..UptoSaid'. A law counts once. -/
mutual
def uptoBulk {H : Type} : DataW H → Nat
  | .lit (.string bytes) => bytes.length + 1
  | .lit _ => 1
  | .nil => 1
  | .ptr d => uptoBulk d + 1
  | .slice elems spare => uptoBulkAll elems + uptoBulkAll spare + 1
  | .agg parts => uptoBulkAll parts + 1
  | .iface _ d => uptoBulk d + 1
  | .map entries => uptoBulkEntries entries + 1
  | .held _ => 1
def uptoBulkAll {H : Type} : List (DataW H) → Nat
  | [] => 0
  | d :: r => uptoBulk d + uptoBulkAll r
def uptoBulkEntries {H : Type} : List (Lit × DataW H) → Nat
  | [] => 0
  | x :: r => uptoBulkEntry x + uptoBulkEntries r
def uptoBulkEntry {H : Type} : Lit × DataW H → Nat
  | (.string bytes, d) => bytes.length + uptoBulk d + 1
  | (_, d) => uptoBulk d + 1
 end
def uptoSmall : (H : Type) → List (DataW H) → Bool := fun _ ds => decide (uptoBulkAll ds ≤ 1048576)
def OpenSpec.upto (s : _root_.Go.ChangeSpec) : _root_.Go.OpenSpec := { _root_.Go.OpenSpec.ofChange s with cond := some uptoSmall }

/-- 'haulagelaw10.DdltextParses', WHERE WHAT IT READS IS OF BULK AT MOST 1048576: true; the input reads as it did. -/
def ddltextParsesUptoRow : OpenClaim := { program := "ytifcegbomagcpaadoor", sum := "95fe26fbf7ff5db7a5db959e0624737a7199b5d3a17f50c4d4074044e841caed", func := "haulage/haulagelaw10.DdltextParses", spec := "ddltextParses", inPlace := ["internal/bytealg.IndexByteString"], unfollowed := true, recurses := true, named := ["haulage/ddltext.words", "haulage/typ.words", "haulage/utf.least"], apart := false, laid := [("haulage/utf.least", laid_haulage_utf_least), ("haulage/typ.words", laid_haulage_typ_words), ("haulage/ddltext.words", laid_haulage_ddltext_words)], narrowed := true }
def DdltextParsesUptoSaid : Prop := ddltextParsesUptoRow.holds Tryd.pinned (OpenSpec.upto ddltextParsesSpec)

/-- 'haulagelaw10.DdltextBack', WHERE WHAT IT READS IS OF BULK AT MOST 1048576: true; the input reads as it did. -/
def ddltextBackUptoRow : OpenClaim := { program := "ytifcegbomagcpaadoor", sum := "95fe26fbf7ff5db7a5db959e0624737a7199b5d3a17f50c4d4074044e841caed", func := "haulage/haulagelaw10.DdltextBack", spec := "ddltextBack", inPlace := ["internal/bytealg.IndexByteString", "internal/abi.NoEscape"], unfollowed := true, recurses := true, named := ["haulage/ddltext.words", "haulage/typ.words", "haulage/utf.least"], apart := false, laid := [("haulage/utf.least", laid_haulage_utf_least), ("haulage/typ.words", laid_haulage_typ_words), ("haulage/ddltext.words", laid_haulage_ddltext_words)], narrowed := true }
def DdltextBackUptoSaid : Prop := ddltextBackUptoRow.holds Tryd.pinned (OpenSpec.upto ddltextBackSpec)

/-- 'haulagelaw10.DdltextApart', WHERE WHAT IT READS IS OF BULK AT MOST 1048576: true; the input reads as it did. -/
def ddltextApartUptoRow : OpenClaim := { program := "ytifcegbomagcpaadoor", sum := "95fe26fbf7ff5db7a5db959e0624737a7199b5d3a17f50c4d4074044e841caed", func := "haulage/haulagelaw10.DdltextApart", spec := "ddltextApart", inPlace := ["internal/bytealg.IndexByteString", "internal/abi.NoEscape"], unfollowed := true, recurses := true, named := ["haulage/ddltext.words", "haulage/typ.words", "haulage/utf.least"], apart := false, laid := [("haulage/utf.least", laid_haulage_utf_least), ("haulage/typ.words", laid_haulage_typ_words), ("haulage/ddltext.words", laid_haulage_ddltext_words)], narrowed := true }
def DdltextApartUptoSaid : Prop := ddltextApartUptoRow.holds Tryd.pinned (OpenSpec.upto ddltextApartSpec)

end Rows
end Go.Proofs.YtifcegbomagcpaaDoor
