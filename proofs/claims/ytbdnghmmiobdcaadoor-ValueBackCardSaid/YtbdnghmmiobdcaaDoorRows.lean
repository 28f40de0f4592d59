/-
  NARROWER THAN 'FOR EVERY INPUT', by the rows' own cells (each row's printed sentence says how): ValueReads: laid · ValueMakes: laid · ValueNumbers: laid · ValueOrders: laid · ValueWrites: laid · ValueBack: laid.
  DERIVED. THE GIVEN ROWS OF THIS SEAT. 6 by the template 'for every input the law returns true; each argument reads behind the call as it read before'; 0 by the template 'total and deterministic' (their statements: YtbdnghmmiobdcaaDoorTotals.lean).
  GIVEN WITH THE SEED: the statements are not yours to turn. If you find one false, say at which input.
  Laid BY PROGRAM, IN A SANDBOX (cutbox-rows.mjs): the forced cells as the released guide's own fill.sh prints them over the translation f45b1166822a13a1… (all of the seat's roots in one cut). By AI agents, Wed Nov 11 2026. No macro, syntax, notation, axiom, sorry.
-/
import Derived.Test.YtbdnghmmiobdcaaDoorChecked
import GoSem.Claim
import GoSem.ClaimJoined
import GoSem.ClaimMapViews
import Derived.JoinedTies
import Derived.KernelRfl
namespace Go.Proofs.YtbdnghmmiobdcaaDoor
/- THE CELL 'sum', in the pinned program and in every row, IS THE sha256 OF THE DUMP (.gsa) THAT YtbdnghmmiobdcaaDoorProg.lean LOADS. Nothing in Lean hashes anything: it is a label: what it is worth is what the hold of that sum in a sandbox is worth. -/
noncomputable def Tryd.pinned : Pinned := { name := "ytbdnghmmiobdcaadoor", sum := "f45b1166822a13a1a3114bfe851d6fb14a0c0b258ed47f2f0f9d601241f17012", checked := Tryd.checked }
namespace Rows
def none {H : Type} : Left H := { results := [], args := [] }

/- WHAT THE LISTED PACKAGE-LEVEL VARIABLES READ AS WHEN THE CALL BEGINS. Each datum BY PROGRAM (the guide's laid-datum.mjs) off the statement by which the dump's own 'gosem.cut.vars' lays the variable. In a bare row this is a premise. The card (YtbdnghmmiobdcaaDoorCards.lean) ties it to the program's text. -/
def laid_haulage_utf_least {H : Type} : DataW H := .agg [.lit (.int .i64 0), .lit (.int .i64 0), .lit (.int .i64 128), .lit (.int .i64 2048), .lit (.int .i64 65536)]

/-- 'haulagelaw05.ValueReads': WHATEVER THE INPUT: true; the input reads as it did. -/
def valueReadsSpec : ChangeSpec := { name := "valueReads", fn := fun _ => fun
  | [d] => { results := [.lit (.bool true)], args := [d] }
  | _ => none }
def valueReadsRow : OpenClaim := { program := "ytbdnghmmiobdcaadoor", sum := "f45b1166822a13a1a3114bfe851d6fb14a0c0b258ed47f2f0f9d601241f17012", func := "haulage/haulagelaw05.ValueReads", spec := "valueReads", inPlace := ["internal/bytealg.IndexByteString"], unfollowed := true, recurses := true, named := ["haulage/utf.least"], apart := false, laid := [("haulage/utf.least", laid_haulage_utf_least)] }
def ValueReadsSaid : Prop := valueReadsRow.holds Tryd.pinned (OpenSpec.ofChange valueReadsSpec)

/-- ITS FALSE NEIGHBOUR: 'it returns false'. Refute it at one input. -/
def valueReadsWrong : ChangeSpec := { name := "valueReads", fn := fun _ => fun
  | [d] => { results := [.lit (.bool false)], args := [d] }
  | _ => none }
def ValueReadsWrongFalsely : Prop := valueReadsRow.holds Tryd.pinned (OpenSpec.ofChange valueReadsWrong)

/-- 'haulagelaw05.ValueMakes': WHATEVER THE INPUT: true; the input reads as it did. -/
def valueMakesSpec : ChangeSpec := { name := "valueMakes", fn := fun _ => fun
  | [d1, d2, d3] => { results := [.lit (.bool true)], args := [d1, d2, d3] }
  | _ => none }
def valueMakesRow : OpenClaim := { program := "ytbdnghmmiobdcaadoor", sum := "f45b1166822a13a1a3114bfe851d6fb14a0c0b258ed47f2f0f9d601241f17012", func := "haulage/haulagelaw05.ValueMakes", spec := "valueMakes", inPlace := ["internal/bytealg.IndexByteString"], unfollowed := true, recurses := true, named := ["haulage/utf.least"], apart := false, laid := [("haulage/utf.least", laid_haulage_utf_least)] }
def ValueMakesSaid : Prop := valueMakesRow.holds Tryd.pinned (OpenSpec.ofChange valueMakesSpec)

/-- ITS FALSE NEIGHBOUR: 'it returns false'. Refute it at one input. -/
def valueMakesWrong : ChangeSpec := { name := "valueMakes", fn := fun _ => fun
  | [d1, d2, d3] => { results := [.lit (.bool false)], args := [d1, d2, d3] }
  | _ => none }
def ValueMakesWrongFalsely : Prop := valueMakesRow.holds Tryd.pinned (OpenSpec.ofChange valueMakesWrong)

/-- 'haulagelaw05.ValueNumbers': WHATEVER THE INPUT: true; the input reads as it did. -/
def valueNumbersSpec : ChangeSpec := { name := "valueNumbers", fn := fun _ => fun
  | [d1, d2] => { results := [.lit (.bool true)], args := [d1, d2] }
  | _ => none }
def valueNumbersRow : OpenClaim := { program := "ytbdnghmmiobdcaadoor", sum := "f45b1166822a13a1a3114bfe851d6fb14a0c0b258ed47f2f0f9d601241f17012", func := "haulage/haulagelaw05.ValueNumbers", spec := "valueNumbers", inPlace := ["internal/bytealg.IndexByteString"], unfollowed := true, recurses := true, named := ["haulage/utf.least"], apart := false, laid := [("haulage/utf.least", laid_haulage_utf_least)] }
def ValueNumbersSaid : Prop := valueNumbersRow.holds Tryd.pinned (OpenSpec.ofChange valueNumbersSpec)

/-- ITS FALSE NEIGHBOUR: 'it returns false'. Refute it at one input. -/
def valueNumbersWrong : ChangeSpec := { name := "valueNumbers", fn := fun _ => fun
  | [d1, d2] => { results := [.lit (.bool false)], args := [d1, d2] }
  | _ => none }
def ValueNumbersWrongFalsely : Prop := valueNumbersRow.holds Tryd.pinned (OpenSpec.ofChange valueNumbersWrong)

/-- 'haulagelaw05.ValueOrders': WHATEVER THE INPUT: true; the input reads as it did. -/
def valueOrdersSpec : ChangeSpec := { name := "valueOrders", fn := fun _ => fun
  | [d1, d2] => { results := [.lit (.bool true)], args := [d1, d2] }
  | _ => none }
def valueOrdersRow : OpenClaim := { program := "ytbdnghmmiobdcaadoor", sum := "f45b1166822a13a1a3114bfe851d6fb14a0c0b258ed47f2f0f9d601241f17012", func := "haulage/haulagelaw05.ValueOrders", spec := "valueOrders", inPlace := ["internal/bytealg.IndexByteString"], unfollowed := true, recurses := true, named := ["haulage/utf.least"], apart := false, laid := [("haulage/utf.least", laid_haulage_utf_least)] }
def ValueOrdersSaid : Prop := valueOrdersRow.holds Tryd.pinned (OpenSpec.ofChange valueOrdersSpec)

/-- ITS FALSE NEIGHBOUR: 'it returns false'. Refute it at one input. -/
def valueOrdersWrong : ChangeSpec := { name := "valueOrders", fn := fun _ => fun
  | [d1, d2] => { results := [.lit (.bool false)], args := [d1, d2] }
  | _ => none }
def ValueOrdersWrongFalsely : Prop := valueOrdersRow.holds Tryd.pinned (OpenSpec.ofChange valueOrdersWrong)

/-- 'haulagelaw05.ValueWrites': WHATEVER THE INPUT: true; the input reads as it did. -/
def valueWritesSpec : ChangeSpec := { name := "valueWrites", fn := fun _ => fun
  | [d] => { results := [.lit (.bool true)], args := [d] }
  | _ => none }
def valueWritesRow : OpenClaim := { program := "ytbdnghmmiobdcaadoor", sum := "f45b1166822a13a1a3114bfe851d6fb14a0c0b258ed47f2f0f9d601241f17012", func := "haulage/haulagelaw05.ValueWrites", spec := "valueWrites", inPlace := ["internal/bytealg.IndexByteString", "internal/abi.NoEscape"], unfollowed := true, recurses := true, named := ["haulage/utf.least"], apart := false, laid := [("haulage/utf.least", laid_haulage_utf_least)] }
def ValueWritesSaid : Prop := valueWritesRow.holds Tryd.pinned (OpenSpec.ofChange valueWritesSpec)

/-- ITS FALSE NEIGHBOUR: 'it returns false'. Refute it at one input. -/
def valueWritesWrong : ChangeSpec := { name := "valueWrites", fn := fun _ => fun
  | [d] => { results := [.lit (.bool false)], args := [d] }
  | _ => none }
def ValueWritesWrongFalsely : Prop := valueWritesRow.holds Tryd.pinned (OpenSpec.ofChange valueWritesWrong)

/-- 'haulagelaw05.ValueBack': WHATEVER THE INPUT: true; the input reads as it did. -/
def valueBackSpec : ChangeSpec := { name := "valueBack", fn := fun _ => fun
  | [d1, d2] => { results := [.lit (.bool true)], args := [d1, d2] }
  | _ => none }
def valueBackRow : OpenClaim := { program := "ytbdnghmmiobdcaadoor", sum := "f45b1166822a13a1a3114bfe851d6fb14a0c0b258ed47f2f0f9d601241f17012", func := "haulage/haulagelaw05.ValueBack", spec := "valueBack", inPlace := ["internal/bytealg.IndexByteString", "internal/abi.NoEscape"], unfollowed := true, recurses := true, named := ["haulage/utf.least"], apart := false, laid := [("haulage/utf.least", laid_haulage_utf_least)] }
def ValueBackSaid : Prop := valueBackRow.holds Tryd.pinned (OpenSpec.ofChange valueBackSpec)

/-- ITS FALSE NEIGHBOUR: 'it returns false'. Refute it at one input. -/
def valueBackWrong : ChangeSpec := { name := "valueBack", fn := fun _ => fun
  | [d1, d2] => { results := [.lit (.bool false)], args := [d1, d2] }
  | _ => none }
def ValueBackWrongFalsely : Prop := valueBackRow.holds Tryd.pinned (OpenSpec.ofChange valueBackWrong)

/- THE SECOND FORM. 'bulk': how many values and letters a reading holds, each counted each time it is reached (what is shared counts as often as it is met; a slice's spare places count too). A statement '..UptoSaid' is the law's where the arguments, and the package variables that the reading takes, are together of bulk at most 1048576: NARROWER than '..Said'. Prove '..Said' where nothing that the law and all that it calls make is longer than what came in: it says more and counts as full. Else prove '..UptoSaid'. A law counts once. -/
mutual
def uptoBulk {H : Type} : DataW H → Nat
  | .lit (.string bytes) => bytes.length + 1
  | .lit _ => 1
  | .nil => 1
  | .ptr d => uptoBulk d + 1
  | .slice elems spare => uptoBulkAll elems + uptoBulkAll spare + 1
  | .agg parts => uptoBulkAll parts + 1
  | .iface _ d => uptoBulk d + 1
  | .map entries => uptoBulkEntries entries + 1
  | .held _ => 1
def uptoBulkAll {H : Type} : List (DataW H) → Nat
  | [] => 0
  | d :: r => uptoBulk d + uptoBulkAll r
def uptoBulkEntries {H : Type} : List (Lit × DataW H) → Nat
  | [] => 0
  | x :: r => uptoBulkEntry x + uptoBulkEntries r
def uptoBulkEntry {H : Type} : Lit × DataW H → Nat
  | (.string bytes, d) => bytes.length + uptoBulk d + 1
  | (_, d) => uptoBulk d + 1
 end
def uptoSmall : (H : Type) → List (DataW H) → Bool := fun _ ds => decide (uptoBulkAll ds ≤ 1048576)
def OpenSpec.upto (s : _root_.Go.ChangeSpec) : _root_.Go.OpenSpec := { _root_.Go.OpenSpec.ofChange s with cond := some uptoSmall }

/-- 'haulagelaw05.ValueReads', WHERE WHAT IT READS IS OF BULK AT MOST 1048576: true; the input reads as it did. -/
def valueReadsUptoRow : OpenClaim := { program := "ytbdnghmmiobdcaadoor", sum := "f45b1166822a13a1a3114bfe851d6fb14a0c0b258ed47f2f0f9d601241f17012", func := "haulage/haulagelaw05.ValueReads", spec := "valueReads", inPlace := ["internal/bytealg.IndexByteString"], unfollowed := true, recurses := true, named := ["haulage/utf.least"], apart := false, laid := [("haulage/utf.least", laid_haulage_utf_least)], narrowed := true }
def ValueReadsUptoSaid : Prop := valueReadsUptoRow.holds Tryd.pinned (OpenSpec.upto valueReadsSpec)

/-- 'haulagelaw05.ValueMakes', WHERE WHAT IT READS IS OF BULK AT MOST 1048576: true; the input reads as it did. -/
def valueMakesUptoRow : OpenClaim := { program := "ytbdnghmmiobdcaadoor", sum := "f45b1166822a13a1a3114bfe851d6fb14a0c0b258ed47f2f0f9d601241f17012", func := "haulage/haulagelaw05.ValueMakes", spec := "valueMakes", inPlace := ["internal/bytealg.IndexByteString"], unfollowed := true, recurses := true, named := ["haulage/utf.least"], apart := false, laid := [("haulage/utf.least", laid_haulage_utf_least)], narrowed := true }
def ValueMakesUptoSaid : Prop := valueMakesUptoRow.holds Tryd.pinned (OpenSpec.upto valueMakesSpec)

/-- 'haulagelaw05.ValueNumbers', WHERE WHAT IT READS IS OF BULK AT MOST 1048576: true; the input reads as it did. -/
def valueNumbersUptoRow : OpenClaim := { program := "ytbdnghmmiobdcaadoor", sum := "f45b1166822a13a1a3114bfe851d6fb14a0c0b258ed47f2f0f9d601241f17012", func := "haulage/haulagelaw05.ValueNumbers", spec := "valueNumbers", inPlace := ["internal/bytealg.IndexByteString"], unfollowed := true, recurses := true, named := ["haulage/utf.least"], apart := false, laid := [("haulage/utf.least", laid_haulage_utf_least)], narrowed := true }
def ValueNumbersUptoSaid : Prop := valueNumbersUptoRow.holds Tryd.pinned (OpenSpec.upto valueNumbersSpec)

/-- 'haulagelaw05.ValueOrders', WHERE WHAT IT READS IS OF BULK AT MOST 1048576: true; the input reads as it did. -/
def valueOrdersUptoRow : OpenClaim := { program := "ytbdnghmmiobdcaadoor", sum := "f45b1166822a13a1a3114bfe851d6fb14a0c0b258ed47f2f0f9d601241f17012", func := "haulage/haulagelaw05.ValueOrders", spec := "valueOrders", inPlace := ["internal/bytealg.IndexByteString"], unfollowed := true, recurses := true, named := ["haulage/utf.least"], apart := false, laid := [("haulage/utf.least", laid_haulage_utf_least)], narrowed := true }
def ValueOrdersUptoSaid : Prop := valueOrdersUptoRow.holds Tryd.pinned (OpenSpec.upto valueOrdersSpec)

/-- 'haulagelaw05.ValueWrites', WHERE WHAT IT READS IS OF BULK AT MOST 1048576: true; the input reads as it did. -/
def valueWritesUptoRow : OpenClaim := { program := "ytbdnghmmiobdcaadoor", sum := "f45b1166822a13a1a3114bfe851d6fb14a0c0b258ed47f2f0f9d601241f17012", func := "haulage/haulagelaw05.ValueWrites", spec := "valueWrites", inPlace := ["internal/bytealg.IndexByteString", "internal/abi.NoEscape"], unfollowed := true, recurses := true, named := ["haulage/utf.least"], apart := false, laid := [("haulage/utf.least", laid_haulage_utf_least)], narrowed := true }
def ValueWritesUptoSaid : Prop := valueWritesUptoRow.holds Tryd.pinned (OpenSpec.upto valueWritesSpec)

/-- 'haulagelaw05.ValueBack', WHERE WHAT IT READS IS OF BULK AT MOST 1048576: true; the input reads as it did. -/
def valueBackUptoRow : OpenClaim := { program := "ytbdnghmmiobdcaadoor", sum := "f45b1166822a13a1a3114bfe851d6fb14a0c0b258ed47f2f0f9d601241f17012", func := "haulage/haulagelaw05.ValueBack", spec := "valueBack", inPlace := ["internal/bytealg.IndexByteString", "internal/abi.NoEscape"], unfollowed := true, recurses := true, named := ["haulage/utf.least"], apart := false, laid := [("haulage/utf.least", laid_haulage_utf_least)], narrowed := true }
def ValueBackUptoSaid : Prop := valueBackUptoRow.holds Tryd.pinned (OpenSpec.upto valueBackSpec)

end Rows
end Go.Proofs.YtbdnghmmiobdcaaDoor
