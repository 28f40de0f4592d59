/-
  NARROWER THAN 'FOR EVERY INPUT', by the rows' own cells (each row's printed sentence says how): SortkeyOf: laid · SortkeyNext: laid · SortkeyOrders: laid · SortkeyReads: laid · SortkeyBack: laid.
  DERIVED. THE GIVEN ROWS OF THIS SEAT. 5 by the template 'for every input the law returns true; each argument reads behind the call as it read before'; 0 by the template 'total and deterministic' (their statements: YtpgnoaacdommbaaDoorTotals.lean).
  GIVEN WITH THE SEED: the statements are not yours to turn. If you find one false, say at which input.
  Laid BY PROGRAM, IN A SANDBOX (cutbox-rows.mjs): the forced cells as the released guide's own fill.sh prints them over the translation 72a16a4823bf4164… (all of the seat's roots in one cut). By AI agents, Wed Nov 11 2026. No macro, syntax, notation, axiom, sorry.
-/
import Derived.Test.YtpgnoaacdommbaaDoorChecked
import GoSem.Claim
import GoSem.ClaimJoined
import GoSem.ClaimMapViews
import Derived.JoinedTies
import Derived.KernelRfl
namespace Go.Proofs.YtpgnoaacdommbaaDoor
/- THE CELL 'sum', in the pinned program and in every row, IS THE sha256 OF THE DUMP (.gsa) THAT YtpgnoaacdommbaaDoorProg.lean LOADS. Nothing in Lean hashes anything: it is a label: what it is worth is what the hold of that sum in a sandbox is worth. -/
noncomputable def Tryd.pinned : Pinned := { name := "ytpgnoaacdommbaadoor", sum := "72a16a4823bf4164d5408d50cd0a874a34b43c267ea111ed61cd06963cadab81", checked := Tryd.checked }
namespace Rows
def none {H : Type} : Left H := { results := [], args := [] }

/- WHAT THE LISTED PACKAGE-LEVEL VARIABLES READ AS WHEN THE CALL BEGINS. Each datum BY PROGRAM (the guide's laid-datum.mjs) off the statement by which the dump's own 'gosem.cut.vars' lays the variable. In a bare row this is a premise. The card (YtpgnoaacdommbaaDoorCards.lean) ties it to the program's text. -/
def laid_haulage_utf_least {H : Type} : DataW H := .agg [.lit (.int .i64 0), .lit (.int .i64 0), .lit (.int .i64 128), .lit (.int .i64 2048), .lit (.int .i64 65536)]

/-- 'haulagelaw07.SortkeyOf': WHATEVER THE INPUT: true; the input reads as it did. -/
def sortkeyOfSpec : ChangeSpec := { name := "sortkeyOf", fn := fun _ => fun
  | [d] => { results := [.lit (.bool true)], args := [d] }
  | _ => none }
def sortkeyOfRow : OpenClaim := { program := "ytpgnoaacdommbaadoor", sum := "72a16a4823bf4164d5408d50cd0a874a34b43c267ea111ed61cd06963cadab81", func := "haulage/haulagelaw07.SortkeyOf", spec := "sortkeyOf", unfollowed := true, recurses := true, named := ["haulage/utf.least"], apart := false, laid := [("haulage/utf.least", laid_haulage_utf_least)] }
def SortkeyOfSaid : Prop := sortkeyOfRow.holds Tryd.pinned (OpenSpec.ofChange sortkeyOfSpec)

/-- ITS FALSE NEIGHBOUR: 'it returns false'. Refute it at one input. -/
def sortkeyOfWrong : ChangeSpec := { name := "sortkeyOf", fn := fun _ => fun
  | [d] => { results := [.lit (.bool false)], args := [d] }
  | _ => none }
def SortkeyOfWrongFalsely : Prop := sortkeyOfRow.holds Tryd.pinned (OpenSpec.ofChange sortkeyOfWrong)

/-- 'haulagelaw07.SortkeyNext': WHATEVER THE INPUT: true; the input reads as it did. -/
def sortkeyNextSpec : ChangeSpec := { name := "sortkeyNext", fn := fun _ => fun
  | [d1, d2, d3] => { results := [.lit (.bool true)], args := [d1, d2, d3] }
  | _ => none }
def sortkeyNextRow : OpenClaim := { program := "ytpgnoaacdommbaadoor", sum := "72a16a4823bf4164d5408d50cd0a874a34b43c267ea111ed61cd06963cadab81", func := "haulage/haulagelaw07.SortkeyNext", spec := "sortkeyNext", unfollowed := true, recurses := true, named := ["haulage/utf.least"], apart := false, laid := [("haulage/utf.least", laid_haulage_utf_least)] }
def SortkeyNextSaid : Prop := sortkeyNextRow.holds Tryd.pinned (OpenSpec.ofChange sortkeyNextSpec)

/-- ITS FALSE NEIGHBOUR: 'it returns false'. Refute it at one input. -/
def sortkeyNextWrong : ChangeSpec := { name := "sortkeyNext", fn := fun _ => fun
  | [d1, d2, d3] => { results := [.lit (.bool false)], args := [d1, d2, d3] }
  | _ => none }
def SortkeyNextWrongFalsely : Prop := sortkeyNextRow.holds Tryd.pinned (OpenSpec.ofChange sortkeyNextWrong)

/-- 'haulagelaw07.SortkeyOrders': WHATEVER THE INPUT: true; the input reads as it did. -/
def sortkeyOrdersSpec : ChangeSpec := { name := "sortkeyOrders", fn := fun _ => fun
  | [d1, d2] => { results := [.lit (.bool true)], args := [d1, d2] }
  | _ => none }
def sortkeyOrdersRow : OpenClaim := { program := "ytpgnoaacdommbaadoor", sum := "72a16a4823bf4164d5408d50cd0a874a34b43c267ea111ed61cd06963cadab81", func := "haulage/haulagelaw07.SortkeyOrders", spec := "sortkeyOrders", unfollowed := true, recurses := true, named := ["haulage/utf.least"], apart := false, laid := [("haulage/utf.least", laid_haulage_utf_least)] }
def SortkeyOrdersSaid : Prop := sortkeyOrdersRow.holds Tryd.pinned (OpenSpec.ofChange sortkeyOrdersSpec)

/-- ITS FALSE NEIGHBOUR: 'it returns false'. Refute it at one input. -/
def sortkeyOrdersWrong : ChangeSpec := { name := "sortkeyOrders", fn := fun _ => fun
  | [d1, d2] => { results := [.lit (.bool false)], args := [d1, d2] }
  | _ => none }
def SortkeyOrdersWrongFalsely : Prop := sortkeyOrdersRow.holds Tryd.pinned (OpenSpec.ofChange sortkeyOrdersWrong)

/-- 'haulagelaw07.SortkeyReads': WHATEVER THE INPUT: true; the input reads as it did. -/
def sortkeyReadsSpec : ChangeSpec := { name := "sortkeyReads", fn := fun _ => fun
  | [d] => { results := [.lit (.bool true)], args := [d] }
  | _ => none }
def sortkeyReadsRow : OpenClaim := { program := "ytpgnoaacdommbaadoor", sum := "72a16a4823bf4164d5408d50cd0a874a34b43c267ea111ed61cd06963cadab81", func := "haulage/haulagelaw07.SortkeyReads", spec := "sortkeyReads", unfollowed := true, recurses := true, named := ["haulage/utf.least"], apart := false, laid := [("haulage/utf.least", laid_haulage_utf_least)] }
def SortkeyReadsSaid : Prop := sortkeyReadsRow.holds Tryd.pinned (OpenSpec.ofChange sortkeyReadsSpec)

/-- ITS FALSE NEIGHBOUR: 'it returns false'. Refute it at one input. -/
def sortkeyReadsWrong : ChangeSpec := { name := "sortkeyReads", fn := fun _ => fun
  | [d] => { results := [.lit (.bool false)], args := [d] }
  | _ => none }
def SortkeyReadsWrongFalsely : Prop := sortkeyReadsRow.holds Tryd.pinned (OpenSpec.ofChange sortkeyReadsWrong)

/-- 'haulagelaw07.SortkeyBack': WHATEVER THE INPUT: true; the input reads as it did. -/
def sortkeyBackSpec : ChangeSpec := { name := "sortkeyBack", fn := fun _ => fun
  | [d1, d2, d3, d4] => { results := [.lit (.bool true)], args := [d1, d2, d3, d4] }
  | _ => none }
def sortkeyBackRow : OpenClaim := { program := "ytpgnoaacdommbaadoor", sum := "72a16a4823bf4164d5408d50cd0a874a34b43c267ea111ed61cd06963cadab81", func := "haulage/haulagelaw07.SortkeyBack", spec := "sortkeyBack", unfollowed := true, recurses := true, named := ["haulage/utf.least"], apart := false, laid := [("haulage/utf.least", laid_haulage_utf_least)] }
def SortkeyBackSaid : Prop := sortkeyBackRow.holds Tryd.pinned (OpenSpec.ofChange sortkeyBackSpec)

/-- ITS FALSE NEIGHBOUR: 'it returns false'. Refute it at one input. -/
def sortkeyBackWrong : ChangeSpec := { name := "sortkeyBack", fn := fun _ => fun
  | [d1, d2, d3, d4] => { results := [.lit (.bool false)], args := [d1, d2, d3, d4] }
  | _ => none }
def SortkeyBackWrongFalsely : Prop := sortkeyBackRow.holds Tryd.pinned (OpenSpec.ofChange sortkeyBackWrong)

/- THE SECOND FORM. 'bulk': how many values and letters a reading holds, each counted each time it is reached (what is shared counts as often as it is met; a slice's spare places count too). A statement '..UptoSaid' is the law's where the arguments, and the package variables that the reading takes, are together of bulk at most 1048576: NARROWER than '..Said'. Prove '..Said' where nothing that the law and all that it calls make is longer than what came in: it says more and counts as full. Else prove '..UptoSaid'. A law counts once. -/
mutual
def uptoBulk {H : Type} : DataW H → Nat
  | .lit (.string bytes) => bytes.length + 1
  | .lit _ => 1
  | .nil => 1
  | .ptr d => uptoBulk d + 1
  | .slice elems spare => uptoBulkAll elems + uptoBulkAll spare + 1
  | .agg parts => uptoBulkAll parts + 1
  | .iface _ d => uptoBulk d + 1
  | .map entries => uptoBulkEntries entries + 1
  | .held _ => 1
def uptoBulkAll {H : Type} : List (DataW H) → Nat
  | [] => 0
  | d :: r => uptoBulk d + uptoBulkAll r
def uptoBulkEntries {H : Type} : List (Lit × DataW H) → Nat
  | [] => 0
  | x :: r => uptoBulkEntry x + uptoBulkEntries r
def uptoBulkEntry {H : Type} : Lit × DataW H → Nat
  | (.string bytes, d) => bytes.length + uptoBulk d + 1
  | (_, d) => uptoBulk d + 1
 end
def uptoSmall : (H : Type) → List (DataW H) → Bool := fun _ ds => decide (uptoBulkAll ds ≤ 1048576)
def OpenSpec.upto (s : _root_.Go.ChangeSpec) : _root_.Go.OpenSpec := { _root_.Go.OpenSpec.ofChange s with cond := some uptoSmall }

/-- 'haulagelaw07.SortkeyOf', WHERE WHAT IT READS IS OF BULK AT MOST 1048576: true; the input reads as it did. -/
def sortkeyOfUptoRow : OpenClaim := { program := "ytpgnoaacdommbaadoor", sum := "72a16a4823bf4164d5408d50cd0a874a34b43c267ea111ed61cd06963cadab81", func := "haulage/haulagelaw07.SortkeyOf", spec := "sortkeyOf", unfollowed := true, recurses := true, named := ["haulage/utf.least"], apart := false, laid := [("haulage/utf.least", laid_haulage_utf_least)], narrowed := true }
def SortkeyOfUptoSaid : Prop := sortkeyOfUptoRow.holds Tryd.pinned (OpenSpec.upto sortkeyOfSpec)

/-- 'haulagelaw07.SortkeyNext', WHERE WHAT IT READS IS OF BULK AT MOST 1048576: true; the input reads as it did. -/
def sortkeyNextUptoRow : OpenClaim := { program := "ytpgnoaacdommbaadoor", sum := "72a16a4823bf4164d5408d50cd0a874a34b43c267ea111ed61cd06963cadab81", func := "haulage/haulagelaw07.SortkeyNext", spec := "sortkeyNext", unfollowed := true, recurses := true, named := ["haulage/utf.least"], apart := false, laid := [("haulage/utf.least", laid_haulage_utf_least)], narrowed := true }
def SortkeyNextUptoSaid : Prop := sortkeyNextUptoRow.holds Tryd.pinned (OpenSpec.upto sortkeyNextSpec)

/-- 'haulagelaw07.SortkeyOrders', WHERE WHAT IT READS IS OF BULK AT MOST 1048576: true; the input reads as it did. -/
def sortkeyOrdersUptoRow : OpenClaim := { program := "ytpgnoaacdommbaadoor", sum := "72a16a4823bf4164d5408d50cd0a874a34b43c267ea111ed61cd06963cadab81", func := "haulage/haulagelaw07.SortkeyOrders", spec := "sortkeyOrders", unfollowed := true, recurses := true, named := ["haulage/utf.least"], apart := false, laid := [("haulage/utf.least", laid_haulage_utf_least)], narrowed := true }
def SortkeyOrdersUptoSaid : Prop := sortkeyOrdersUptoRow.holds Tryd.pinned (OpenSpec.upto sortkeyOrdersSpec)

/-- 'haulagelaw07.SortkeyReads', WHERE WHAT IT READS IS OF BULK AT MOST 1048576: true; the input reads as it did. -/
def sortkeyReadsUptoRow : OpenClaim := { program := "ytpgnoaacdommbaadoor", sum := "72a16a4823bf4164d5408d50cd0a874a34b43c267ea111ed61cd06963cadab81", func := "haulage/haulagelaw07.SortkeyReads", spec := "sortkeyReads", unfollowed := true, recurses := true, named := ["haulage/utf.least"], apart := false, laid := [("haulage/utf.least", laid_haulage_utf_least)], narrowed := true }
def SortkeyReadsUptoSaid : Prop := sortkeyReadsUptoRow.holds Tryd.pinned (OpenSpec.upto sortkeyReadsSpec)

/-- 'haulagelaw07.SortkeyBack', WHERE WHAT IT READS IS OF BULK AT MOST 1048576: true; the input reads as it did. -/
def sortkeyBackUptoRow : OpenClaim := { program := "ytpgnoaacdommbaadoor", sum := "72a16a4823bf4164d5408d50cd0a874a34b43c267ea111ed61cd06963cadab81", func := "haulage/haulagelaw07.SortkeyBack", spec := "sortkeyBack", unfollowed := true, recurses := true, named := ["haulage/utf.least"], apart := false, laid := [("haulage/utf.least", laid_haulage_utf_least)], narrowed := true }
def SortkeyBackUptoSaid : Prop := sortkeyBackUptoRow.holds Tryd.pinned (OpenSpec.upto sortkeyBackSpec)

end Rows
end Go.Proofs.YtpgnoaacdommbaaDoor
