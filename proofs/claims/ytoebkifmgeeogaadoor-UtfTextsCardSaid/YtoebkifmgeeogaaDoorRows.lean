/-
  NARROWER THAN 'FOR EVERY INPUT', by the rows' own cells (each row's printed sentence says how): UtfPuts: laid · UtfPrefix: laid · UtfCuts: laid · UtfTexts: laid · UtfBack: laid.
  DERIVED. THE GIVEN ROWS OF THIS SEAT. 5 by the template 'for every input the law returns true; each argument reads behind the call as it read before'; 0 by the template 'total and deterministic' (their statements: YtoebkifmgeeogaaDoorTotals.lean).
  GIVEN WITH THE SEED: the statements are not yours to turn. If you find one false, say at which input.
  Laid BY PROGRAM, IN A SANDBOX (cutbox-rows.mjs): the forced cells as the released guide's own fill.sh prints them over the translation 9317a88ae093b67f… (all of the seat's roots in one cut). By AI agents, Wed Nov 11 2026. No macro, syntax, notation, axiom, sorry.
-/
import Derived.Test.YtoebkifmgeeogaaDoorChecked
import GoSem.Claim
import GoSem.ClaimJoined
import GoSem.ClaimMapViews
import Derived.JoinedTies
import Derived.KernelRfl
namespace Go.Proofs.YtoebkifmgeeogaaDoor
/- THE CELL 'sum', in the pinned program and in every row, IS THE sha256 OF THE DUMP (.gsa) THAT YtoebkifmgeeogaaDoorProg.lean LOADS. Nothing in Lean hashes anything: it is a label: what it is worth is what the hold of that sum in a sandbox is worth. -/
noncomputable def Tryd.pinned : Pinned := { name := "ytoebkifmgeeogaadoor", sum := "9317a88ae093b67fd1d667c6e0bce2c2c10d44f8d07468f264da862aaa5d8f71", checked := Tryd.checked }
namespace Rows
def none {H : Type} : Left H := { results := [], args := [] }

/- WHAT THE LISTED PACKAGE-LEVEL VARIABLES READ AS WHEN THE CALL BEGINS. Each datum BY PROGRAM (the guide's laid-datum.mjs) off the statement by which the dump's own 'gosem.cut.vars' lays the variable. In a bare row this is a premise. The card (YtoebkifmgeeogaaDoorCards.lean) ties it to the program's text. -/
def laid_haulage_utf_first {H : Type} : DataW H := .agg [.lit (.int .u8 0), .lit (.int .u8 0), .lit (.int .u8 192), .lit (.int .u8 224), .lit (.int .u8 240)]
def laid_haulage_utf_least {H : Type} : DataW H := .agg [.lit (.int .i64 0), .lit (.int .i64 0), .lit (.int .i64 128), .lit (.int .i64 2048), .lit (.int .i64 65536)]

/-- 'haulagelaw03.UtfPuts': WHATEVER THE INPUT: true; the input reads as it did. -/
def utfPutsSpec : ChangeSpec := { name := "utfPuts", fn := fun _ => fun
  | [d1, d2] => { results := [.lit (.bool true)], args := [d1, d2] }
  | _ => none }
def utfPutsRow : OpenClaim := { program := "ytoebkifmgeeogaadoor", sum := "9317a88ae093b67fd1d667c6e0bce2c2c10d44f8d07468f264da862aaa5d8f71", func := "haulage/haulagelaw03.UtfPuts", spec := "utfPuts", unfollowed := true, recurses := true, named := ["haulage/utf.first", "haulage/utf.least"], apart := false, laid := [("haulage/utf.first", laid_haulage_utf_first), ("haulage/utf.least", laid_haulage_utf_least)] }
def UtfPutsSaid : Prop := utfPutsRow.holds Tryd.pinned (OpenSpec.ofChange utfPutsSpec)

/-- ITS FALSE NEIGHBOUR: 'it returns false'. Refute it at one input. -/
def utfPutsWrong : ChangeSpec := { name := "utfPuts", fn := fun _ => fun
  | [d1, d2] => { results := [.lit (.bool false)], args := [d1, d2] }
  | _ => none }
def UtfPutsWrongFalsely : Prop := utfPutsRow.holds Tryd.pinned (OpenSpec.ofChange utfPutsWrong)

/-- 'haulagelaw03.UtfPrefix': WHATEVER THE INPUT: true; the input reads as it did. -/
def utfPrefixSpec : ChangeSpec := { name := "utfPrefix", fn := fun _ => fun
  | [d1, d2] => { results := [.lit (.bool true)], args := [d1, d2] }
  | _ => none }
def utfPrefixRow : OpenClaim := { program := "ytoebkifmgeeogaadoor", sum := "9317a88ae093b67fd1d667c6e0bce2c2c10d44f8d07468f264da862aaa5d8f71", func := "haulage/haulagelaw03.UtfPrefix", spec := "utfPrefix", unfollowed := true, recurses := true, named := ["haulage/utf.first", "haulage/utf.least"], apart := false, laid := [("haulage/utf.first", laid_haulage_utf_first), ("haulage/utf.least", laid_haulage_utf_least)] }
def UtfPrefixSaid : Prop := utfPrefixRow.holds Tryd.pinned (OpenSpec.ofChange utfPrefixSpec)

/-- ITS FALSE NEIGHBOUR: 'it returns false'. Refute it at one input. -/
def utfPrefixWrong : ChangeSpec := { name := "utfPrefix", fn := fun _ => fun
  | [d1, d2] => { results := [.lit (.bool false)], args := [d1, d2] }
  | _ => none }
def UtfPrefixWrongFalsely : Prop := utfPrefixRow.holds Tryd.pinned (OpenSpec.ofChange utfPrefixWrong)

/-- 'haulagelaw03.UtfCuts': WHATEVER THE INPUT: true; the input reads as it did. -/
def utfCutsSpec : ChangeSpec := { name := "utfCuts", fn := fun _ => fun
  | [d1, d2] => { results := [.lit (.bool true)], args := [d1, d2] }
  | _ => none }
def utfCutsRow : OpenClaim := { program := "ytoebkifmgeeogaadoor", sum := "9317a88ae093b67fd1d667c6e0bce2c2c10d44f8d07468f264da862aaa5d8f71", func := "haulage/haulagelaw03.UtfCuts", spec := "utfCuts", unfollowed := true, recurses := true, named := ["haulage/utf.first", "haulage/utf.least"], apart := false, laid := [("haulage/utf.first", laid_haulage_utf_first), ("haulage/utf.least", laid_haulage_utf_least)] }
def UtfCutsSaid : Prop := utfCutsRow.holds Tryd.pinned (OpenSpec.ofChange utfCutsSpec)

/-- ITS FALSE NEIGHBOUR: 'it returns false'. Refute it at one input. -/
def utfCutsWrong : ChangeSpec := { name := "utfCuts", fn := fun _ => fun
  | [d1, d2] => { results := [.lit (.bool false)], args := [d1, d2] }
  | _ => none }
def UtfCutsWrongFalsely : Prop := utfCutsRow.holds Tryd.pinned (OpenSpec.ofChange utfCutsWrong)

/-- 'haulagelaw03.UtfTexts': WHATEVER THE INPUT: true; the input reads as it did. -/
def utfTextsSpec : ChangeSpec := { name := "utfTexts", fn := fun _ => fun
  | [d1, d2] => { results := [.lit (.bool true)], args := [d1, d2] }
  | _ => none }
def utfTextsRow : OpenClaim := { program := "ytoebkifmgeeogaadoor", sum := "9317a88ae093b67fd1d667c6e0bce2c2c10d44f8d07468f264da862aaa5d8f71", func := "haulage/haulagelaw03.UtfTexts", spec := "utfTexts", unfollowed := true, recurses := true, named := ["haulage/utf.first", "haulage/utf.least"], apart := false, laid := [("haulage/utf.first", laid_haulage_utf_first), ("haulage/utf.least", laid_haulage_utf_least)] }
def UtfTextsSaid : Prop := utfTextsRow.holds Tryd.pinned (OpenSpec.ofChange utfTextsSpec)

/-- ITS FALSE NEIGHBOUR: 'it returns false'. Refute it at one input. -/
def utfTextsWrong : ChangeSpec := { name := "utfTexts", fn := fun _ => fun
  | [d1, d2] => { results := [.lit (.bool false)], args := [d1, d2] }
  | _ => none }
def UtfTextsWrongFalsely : Prop := utfTextsRow.holds Tryd.pinned (OpenSpec.ofChange utfTextsWrong)

/-- 'haulagelaw03.UtfBack': WHATEVER THE INPUT: true; the input reads as it did. -/
def utfBackSpec : ChangeSpec := { name := "utfBack", fn := fun _ => fun
  | [d1, d2] => { results := [.lit (.bool true)], args := [d1, d2] }
  | _ => none }
def utfBackRow : OpenClaim := { program := "ytoebkifmgeeogaadoor", sum := "9317a88ae093b67fd1d667c6e0bce2c2c10d44f8d07468f264da862aaa5d8f71", func := "haulage/haulagelaw03.UtfBack", spec := "utfBack", unfollowed := true, recurses := true, named := ["haulage/utf.first", "haulage/utf.least"], apart := false, laid := [("haulage/utf.first", laid_haulage_utf_first), ("haulage/utf.least", laid_haulage_utf_least)] }
def UtfBackSaid : Prop := utfBackRow.holds Tryd.pinned (OpenSpec.ofChange utfBackSpec)

/-- ITS FALSE NEIGHBOUR: 'it returns false'. Refute it at one input. -/
def utfBackWrong : ChangeSpec := { name := "utfBack", fn := fun _ => fun
  | [d1, d2] => { results := [.lit (.bool false)], args := [d1, d2] }
  | _ => none }
def UtfBackWrongFalsely : Prop := utfBackRow.holds Tryd.pinned (OpenSpec.ofChange utfBackWrong)

/- THE SECOND FORM. 'bulk': how many values and letters a reading holds, each counted each time it is reached (what is shared counts as often as it is met; a slice's spare places count too). A statement '..UptoSaid' is the law's where the arguments, and the package variables that the reading takes, are together of bulk at most 1048576: NARROWER than '..Said'. Prove '..Said' where nothing that the law and all that it calls make is longer than what came in: it says more and counts as full. Else prove '..UptoSaid'. A law counts once. -/
mutual
def uptoBulk {H : Type} : DataW H → Nat
  | .lit (.string bytes) => bytes.length + 1
  | .lit _ => 1
  | .nil => 1
  | .ptr d => uptoBulk d + 1
  | .slice elems spare => uptoBulkAll elems + uptoBulkAll spare + 1
  | .agg parts => uptoBulkAll parts + 1
  | .iface _ d => uptoBulk d + 1
  | .map entries => uptoBulkEntries entries + 1
  | .held _ => 1
def uptoBulkAll {H : Type} : List (DataW H) → Nat
  | [] => 0
  | d :: r => uptoBulk d + uptoBulkAll r
def uptoBulkEntries {H : Type} : List (Lit × DataW H) → Nat
  | [] => 0
  | x :: r => uptoBulkEntry x + uptoBulkEntries r
def uptoBulkEntry {H : Type} : Lit × DataW H → Nat
  | (.string bytes, d) => bytes.length + uptoBulk d + 1
  | (_, d) => uptoBulk d + 1
 end
def uptoSmall : (H : Type) → List (DataW H) → Bool := fun _ ds => decide (uptoBulkAll ds ≤ 1048576)
def OpenSpec.upto (s : _root_.Go.ChangeSpec) : _root_.Go.OpenSpec := { _root_.Go.OpenSpec.ofChange s with cond := some uptoSmall }

/-- 'haulagelaw03.UtfPuts', WHERE WHAT IT READS IS OF BULK AT MOST 1048576: true; the input reads as it did. -/
def utfPutsUptoRow : OpenClaim := { program := "ytoebkifmgeeogaadoor", sum := "9317a88ae093b67fd1d667c6e0bce2c2c10d44f8d07468f264da862aaa5d8f71", func := "haulage/haulagelaw03.UtfPuts", spec := "utfPuts", unfollowed := true, recurses := true, named := ["haulage/utf.first", "haulage/utf.least"], apart := false, laid := [("haulage/utf.first", laid_haulage_utf_first), ("haulage/utf.least", laid_haulage_utf_least)], narrowed := true }
def UtfPutsUptoSaid : Prop := utfPutsUptoRow.holds Tryd.pinned (OpenSpec.upto utfPutsSpec)

/-- 'haulagelaw03.UtfPrefix', WHERE WHAT IT READS IS OF BULK AT MOST 1048576: true; the input reads as it did. -/
def utfPrefixUptoRow : OpenClaim := { program := "ytoebkifmgeeogaadoor", sum := "9317a88ae093b67fd1d667c6e0bce2c2c10d44f8d07468f264da862aaa5d8f71", func := "haulage/haulagelaw03.UtfPrefix", spec := "utfPrefix", unfollowed := true, recurses := true, named := ["haulage/utf.first", "haulage/utf.least"], apart := false, laid := [("haulage/utf.first", laid_haulage_utf_first), ("haulage/utf.least", laid_haulage_utf_least)], narrowed := true }
def UtfPrefixUptoSaid : Prop := utfPrefixUptoRow.holds Tryd.pinned (OpenSpec.upto utfPrefixSpec)

/-- 'haulagelaw03.UtfCuts', WHERE WHAT IT READS IS OF BULK AT MOST 1048576: true; the input reads as it did. -/
def utfCutsUptoRow : OpenClaim := { program := "ytoebkifmgeeogaadoor", sum := "9317a88ae093b67fd1d667c6e0bce2c2c10d44f8d07468f264da862aaa5d8f71", func := "haulage/haulagelaw03.UtfCuts", spec := "utfCuts", unfollowed := true, recurses := true, named := ["haulage/utf.first", "haulage/utf.least"], apart := false, laid := [("haulage/utf.first", laid_haulage_utf_first), ("haulage/utf.least", laid_haulage_utf_least)], narrowed := true }
def UtfCutsUptoSaid : Prop := utfCutsUptoRow.holds Tryd.pinned (OpenSpec.upto utfCutsSpec)

/-- 'haulagelaw03.UtfTexts', WHERE WHAT IT READS IS OF BULK AT MOST 1048576: true; the input reads as it did. -/
def utfTextsUptoRow : OpenClaim := { program := "ytoebkifmgeeogaadoor", sum := "9317a88ae093b67fd1d667c6e0bce2c2c10d44f8d07468f264da862aaa5d8f71", func := "haulage/haulagelaw03.UtfTexts", spec := "utfTexts", unfollowed := true, recurses := true, named := ["haulage/utf.first", "haulage/utf.least"], apart := false, laid := [("haulage/utf.first", laid_haulage_utf_first), ("haulage/utf.least", laid_haulage_utf_least)], narrowed := true }
def UtfTextsUptoSaid : Prop := utfTextsUptoRow.holds Tryd.pinned (OpenSpec.upto utfTextsSpec)

/-- 'haulagelaw03.UtfBack', WHERE WHAT IT READS IS OF BULK AT MOST 1048576: true; the input reads as it did. -/
def utfBackUptoRow : OpenClaim := { program := "ytoebkifmgeeogaadoor", sum := "9317a88ae093b67fd1d667c6e0bce2c2c10d44f8d07468f264da862aaa5d8f71", func := "haulage/haulagelaw03.UtfBack", spec := "utfBack", unfollowed := true, recurses := true, named := ["haulage/utf.first", "haulage/utf.least"], apart := false, laid := [("haulage/utf.first", laid_haulage_utf_first), ("haulage/utf.least", laid_haulage_utf_least)], narrowed := true }
def UtfBackUptoSaid : Prop := utfBackUptoRow.holds Tryd.pinned (OpenSpec.upto utfBackSpec)

end Rows
end Go.Proofs.YtoebkifmgeeogaaDoor
