/-
  NARROWER THAN 'FOR EVERY INPUT', by the rows' own cells (each row's printed sentence says how): TypJoins: laid · TypCasts: laid · TypOrder: laid · TypTells: laid · TypWidens: laid · TypTexts: laid.
  DERIVED. THE GIVEN ROWS OF THIS SEAT. 6 by the template 'for every input the law returns true; each argument reads behind the call as it read before'; 0 by the template 'total and deterministic' (their statements: YtompbjamfhkgfaaDoorTotals.lean).
  GIVEN WITH THE SEED: the statements are not yours to turn. If you find one false, say at which input.
  Laid BY PROGRAM, IN A SANDBOX (cutbox-rows.mjs): the forced cells as the released guide's own fill.sh prints them over the translation c18b303abe097400… (all of the seat's roots in one cut). By AI agents, Wed Nov 11 2026. No macro, syntax, notation, axiom, sorry.
-/
import Derived.Test.YtompbjamfhkgfaaDoorChecked
import GoSem.Claim
import GoSem.ClaimJoined
import GoSem.ClaimMapViews
import Derived.JoinedTies
import Derived.KernelRfl
namespace Go.Proofs.YtompbjamfhkgfaaDoor
/- THE CELL 'sum', in the pinned program and in every row, IS THE sha256 OF THE DUMP (.gsa) THAT YtompbjamfhkgfaaDoorProg.lean LOADS. Nothing in Lean hashes anything: it is a label: what it is worth is what the hold of that sum in a sandbox is worth. -/
noncomputable def Tryd.pinned : Pinned := { name := "ytompbjamfhkgfaadoor", sum := "c18b303abe097400fa3765036476e0f34d204393b6e7ff9ca46eca189b0b89fc", checked := Tryd.checked }
namespace Rows
def none {H : Type} : Left H := { results := [], args := [] }

/- WHAT THE LISTED PACKAGE-LEVEL VARIABLES READ AS WHEN THE CALL BEGINS. Each datum BY PROGRAM (the guide's laid-datum.mjs) off the statement by which the dump's own 'gosem.cut.vars' lays the variable. In a bare row this is a premise. The card (YtompbjamfhkgfaaDoorCards.lean) ties it to the program's text. -/
def laid_haulage_utf_least {H : Type} : DataW H := .agg [.lit (.int .i64 0), .lit (.int .i64 0), .lit (.int .i64 128), .lit (.int .i64 2048), .lit (.int .i64 65536)]
def laid_haulage_typ_words {H : Type} : DataW H := .agg [.lit (.string []), .lit (.string [105, 110, 116]), .lit (.string [108, 111, 110, 103]), .lit (.string [116, 101, 120, 116]), .lit (.string [98, 121, 116, 101, 115])]

/-- 'haulagelaw06.TypJoins': WHATEVER THE INPUT: true; the input reads as it did. -/
def typJoinsSpec : ChangeSpec := { name := "typJoins", fn := fun _ => fun
  | [d1, d2] => { results := [.lit (.bool true)], args := [d1, d2] }
  | _ => none }
def typJoinsRow : OpenClaim := { program := "ytompbjamfhkgfaadoor", sum := "c18b303abe097400fa3765036476e0f34d204393b6e7ff9ca46eca189b0b89fc", func := "haulage/haulagelaw06.TypJoins", spec := "typJoins", unfollowed := true, recurses := true, named := ["haulage/utf.least"], apart := false, laid := [("haulage/utf.least", laid_haulage_utf_least)] }
def TypJoinsSaid : Prop := typJoinsRow.holds Tryd.pinned (OpenSpec.ofChange typJoinsSpec)

/-- ITS FALSE NEIGHBOUR: 'it returns false'. Refute it at one input. -/
def typJoinsWrong : ChangeSpec := { name := "typJoins", fn := fun _ => fun
  | [d1, d2] => { results := [.lit (.bool false)], args := [d1, d2] }
  | _ => none }
def TypJoinsWrongFalsely : Prop := typJoinsRow.holds Tryd.pinned (OpenSpec.ofChange typJoinsWrong)

/-- 'haulagelaw06.TypCasts': WHATEVER THE INPUT: true; the input reads as it did. -/
def typCastsSpec : ChangeSpec := { name := "typCasts", fn := fun _ => fun
  | [d1, d2] => { results := [.lit (.bool true)], args := [d1, d2] }
  | _ => none }
def typCastsRow : OpenClaim := { program := "ytompbjamfhkgfaadoor", sum := "c18b303abe097400fa3765036476e0f34d204393b6e7ff9ca46eca189b0b89fc", func := "haulage/haulagelaw06.TypCasts", spec := "typCasts", unfollowed := true, recurses := true, named := ["haulage/utf.least"], apart := false, laid := [("haulage/utf.least", laid_haulage_utf_least)] }
def TypCastsSaid : Prop := typCastsRow.holds Tryd.pinned (OpenSpec.ofChange typCastsSpec)

/-- ITS FALSE NEIGHBOUR: 'it returns false'. Refute it at one input. -/
def typCastsWrong : ChangeSpec := { name := "typCasts", fn := fun _ => fun
  | [d1, d2] => { results := [.lit (.bool false)], args := [d1, d2] }
  | _ => none }
def TypCastsWrongFalsely : Prop := typCastsRow.holds Tryd.pinned (OpenSpec.ofChange typCastsWrong)

/-- 'haulagelaw06.TypOrder': WHATEVER THE INPUT: true; the input reads as it did. -/
def typOrderSpec : ChangeSpec := { name := "typOrder", fn := fun _ => fun
  | [d1, d2, d3] => { results := [.lit (.bool true)], args := [d1, d2, d3] }
  | _ => none }
def typOrderRow : OpenClaim := { program := "ytompbjamfhkgfaadoor", sum := "c18b303abe097400fa3765036476e0f34d204393b6e7ff9ca46eca189b0b89fc", func := "haulage/haulagelaw06.TypOrder", spec := "typOrder", unfollowed := true, recurses := true, named := ["haulage/utf.least"], apart := false, laid := [("haulage/utf.least", laid_haulage_utf_least)] }
def TypOrderSaid : Prop := typOrderRow.holds Tryd.pinned (OpenSpec.ofChange typOrderSpec)

/-- ITS FALSE NEIGHBOUR: 'it returns false'. Refute it at one input. -/
def typOrderWrong : ChangeSpec := { name := "typOrder", fn := fun _ => fun
  | [d1, d2, d3] => { results := [.lit (.bool false)], args := [d1, d2, d3] }
  | _ => none }
def TypOrderWrongFalsely : Prop := typOrderRow.holds Tryd.pinned (OpenSpec.ofChange typOrderWrong)

/-- 'haulagelaw06.TypTells': WHATEVER THE INPUT: true; the input reads as it did. -/
def typTellsSpec : ChangeSpec := { name := "typTells", fn := fun _ => fun
  | [d1, d2, d3] => { results := [.lit (.bool true)], args := [d1, d2, d3] }
  | _ => none }
def typTellsRow : OpenClaim := { program := "ytompbjamfhkgfaadoor", sum := "c18b303abe097400fa3765036476e0f34d204393b6e7ff9ca46eca189b0b89fc", func := "haulage/haulagelaw06.TypTells", spec := "typTells", unfollowed := true, recurses := true, named := ["haulage/utf.least"], apart := false, laid := [("haulage/utf.least", laid_haulage_utf_least)] }
def TypTellsSaid : Prop := typTellsRow.holds Tryd.pinned (OpenSpec.ofChange typTellsSpec)

/-- ITS FALSE NEIGHBOUR: 'it returns false'. Refute it at one input. -/
def typTellsWrong : ChangeSpec := { name := "typTells", fn := fun _ => fun
  | [d1, d2, d3] => { results := [.lit (.bool false)], args := [d1, d2, d3] }
  | _ => none }
def TypTellsWrongFalsely : Prop := typTellsRow.holds Tryd.pinned (OpenSpec.ofChange typTellsWrong)

/-- 'haulagelaw06.TypWidens': WHATEVER THE INPUT: true; the input reads as it did. -/
def typWidensSpec : ChangeSpec := { name := "typWidens", fn := fun _ => fun
  | [d1, d2, d3, d4, d5] => { results := [.lit (.bool true)], args := [d1, d2, d3, d4, d5] }
  | _ => none }
def typWidensRow : OpenClaim := { program := "ytompbjamfhkgfaadoor", sum := "c18b303abe097400fa3765036476e0f34d204393b6e7ff9ca46eca189b0b89fc", func := "haulage/haulagelaw06.TypWidens", spec := "typWidens", unfollowed := true, recurses := true, named := ["haulage/utf.least"], apart := false, laid := [("haulage/utf.least", laid_haulage_utf_least)] }
def TypWidensSaid : Prop := typWidensRow.holds Tryd.pinned (OpenSpec.ofChange typWidensSpec)

/-- ITS FALSE NEIGHBOUR: 'it returns false'. Refute it at one input. -/
def typWidensWrong : ChangeSpec := { name := "typWidens", fn := fun _ => fun
  | [d1, d2, d3, d4, d5] => { results := [.lit (.bool false)], args := [d1, d2, d3, d4, d5] }
  | _ => none }
def TypWidensWrongFalsely : Prop := typWidensRow.holds Tryd.pinned (OpenSpec.ofChange typWidensWrong)

/-- 'haulagelaw06.TypTexts': WHATEVER THE INPUT: true; the input reads as it did. -/
def typTextsSpec : ChangeSpec := { name := "typTexts", fn := fun _ => fun
  | [d1, d2] => { results := [.lit (.bool true)], args := [d1, d2] }
  | _ => none }
def typTextsRow : OpenClaim := { program := "ytompbjamfhkgfaadoor", sum := "c18b303abe097400fa3765036476e0f34d204393b6e7ff9ca46eca189b0b89fc", func := "haulage/haulagelaw06.TypTexts", spec := "typTexts", unfollowed := true, recurses := true, named := ["haulage/utf.least", "haulage/typ.words"], apart := false, laid := [("haulage/utf.least", laid_haulage_utf_least), ("haulage/typ.words", laid_haulage_typ_words)] }
def TypTextsSaid : Prop := typTextsRow.holds Tryd.pinned (OpenSpec.ofChange typTextsSpec)

/-- ITS FALSE NEIGHBOUR: 'it returns false'. Refute it at one input. -/
def typTextsWrong : ChangeSpec := { name := "typTexts", fn := fun _ => fun
  | [d1, d2] => { results := [.lit (.bool false)], args := [d1, d2] }
  | _ => none }
def TypTextsWrongFalsely : Prop := typTextsRow.holds Tryd.pinned (OpenSpec.ofChange typTextsWrong)

/- THE SECOND FORM. 'bulk': how many values and letters a reading holds, each counted each time it is reached (what is shared counts as often as it is met; a slice's spare places count too). A statement '..UptoSaid' is the law's where the arguments, and the package variables that the reading takes, are together of bulk at most 1048576: NARROWER than '..Said'. Prove '..Said' where nothing that the law and all that it calls make is longer than what came in: it says more and counts as full. Else prove '..UptoSaid'. A law counts once. -/
mutual
def uptoBulk {H : Type} : DataW H → Nat
  | .lit (.string bytes) => bytes.length + 1
  | .lit _ => 1
  | .nil => 1
  | .ptr d => uptoBulk d + 1
  | .slice elems spare => uptoBulkAll elems + uptoBulkAll spare + 1
  | .agg parts => uptoBulkAll parts + 1
  | .iface _ d => uptoBulk d + 1
  | .map entries => uptoBulkEntries entries + 1
  | .held _ => 1
def uptoBulkAll {H : Type} : List (DataW H) → Nat
  | [] => 0
  | d :: r => uptoBulk d + uptoBulkAll r
def uptoBulkEntries {H : Type} : List (Lit × DataW H) → Nat
  | [] => 0
  | x :: r => uptoBulkEntry x + uptoBulkEntries r
def uptoBulkEntry {H : Type} : Lit × DataW H → Nat
  | (.string bytes, d) => bytes.length + uptoBulk d + 1
  | (_, d) => uptoBulk d + 1
 end
def uptoSmall : (H : Type) → List (DataW H) → Bool := fun _ ds => decide (uptoBulkAll ds ≤ 1048576)
def OpenSpec.upto (s : _root_.Go.ChangeSpec) : _root_.Go.OpenSpec := { _root_.Go.OpenSpec.ofChange s with cond := some uptoSmall }

/-- 'haulagelaw06.TypJoins', WHERE WHAT IT READS IS OF BULK AT MOST 1048576: true; the input reads as it did. -/
def typJoinsUptoRow : OpenClaim := { program := "ytompbjamfhkgfaadoor", sum := "c18b303abe097400fa3765036476e0f34d204393b6e7ff9ca46eca189b0b89fc", func := "haulage/haulagelaw06.TypJoins", spec := "typJoins", unfollowed := true, recurses := true, named := ["haulage/utf.least"], apart := false, laid := [("haulage/utf.least", laid_haulage_utf_least)], narrowed := true }
def TypJoinsUptoSaid : Prop := typJoinsUptoRow.holds Tryd.pinned (OpenSpec.upto typJoinsSpec)

/-- 'haulagelaw06.TypCasts', WHERE WHAT IT READS IS OF BULK AT MOST 1048576: true; the input reads as it did. -/
def typCastsUptoRow : OpenClaim := { program := "ytompbjamfhkgfaadoor", sum := "c18b303abe097400fa3765036476e0f34d204393b6e7ff9ca46eca189b0b89fc", func := "haulage/haulagelaw06.TypCasts", spec := "typCasts", unfollowed := true, recurses := true, named := ["haulage/utf.least"], apart := false, laid := [("haulage/utf.least", laid_haulage_utf_least)], narrowed := true }
def TypCastsUptoSaid : Prop := typCastsUptoRow.holds Tryd.pinned (OpenSpec.upto typCastsSpec)

/-- 'haulagelaw06.TypOrder', WHERE WHAT IT READS IS OF BULK AT MOST 1048576: true; the input reads as it did. -/
def typOrderUptoRow : OpenClaim := { program := "ytompbjamfhkgfaadoor", sum := "c18b303abe097400fa3765036476e0f34d204393b6e7ff9ca46eca189b0b89fc", func := "haulage/haulagelaw06.TypOrder", spec := "typOrder", unfollowed := true, recurses := true, named := ["haulage/utf.least"], apart := false, laid := [("haulage/utf.least", laid_haulage_utf_least)], narrowed := true }
def TypOrderUptoSaid : Prop := typOrderUptoRow.holds Tryd.pinned (OpenSpec.upto typOrderSpec)

/-- 'haulagelaw06.TypTells', WHERE WHAT IT READS IS OF BULK AT MOST 1048576: true; the input reads as it did. -/
def typTellsUptoRow : OpenClaim := { program := "ytompbjamfhkgfaadoor", sum := "c18b303abe097400fa3765036476e0f34d204393b6e7ff9ca46eca189b0b89fc", func := "haulage/haulagelaw06.TypTells", spec := "typTells", unfollowed := true, recurses := true, named := ["haulage/utf.least"], apart := false, laid := [("haulage/utf.least", laid_haulage_utf_least)], narrowed := true }
def TypTellsUptoSaid : Prop := typTellsUptoRow.holds Tryd.pinned (OpenSpec.upto typTellsSpec)

/-- 'haulagelaw06.TypWidens', WHERE WHAT IT READS IS OF BULK AT MOST 1048576: true; the input reads as it did. -/
def typWidensUptoRow : OpenClaim := { program := "ytompbjamfhkgfaadoor", sum := "c18b303abe097400fa3765036476e0f34d204393b6e7ff9ca46eca189b0b89fc", func := "haulage/haulagelaw06.TypWidens", spec := "typWidens", unfollowed := true, recurses := true, named := ["haulage/utf.least"], apart := false, laid := [("haulage/utf.least", laid_haulage_utf_least)], narrowed := true }
def TypWidensUptoSaid : Prop := typWidensUptoRow.holds Tryd.pinned (OpenSpec.upto typWidensSpec)

/-- 'haulagelaw06.TypTexts', WHERE WHAT IT READS IS OF BULK AT MOST 1048576: true; the input reads as it did. -/
def typTextsUptoRow : OpenClaim := { program := "ytompbjamfhkgfaadoor", sum := "c18b303abe097400fa3765036476e0f34d204393b6e7ff9ca46eca189b0b89fc", func := "haulage/haulagelaw06.TypTexts", spec := "typTexts", unfollowed := true, recurses := true, named := ["haulage/utf.least", "haulage/typ.words"], apart := false, laid := [("haulage/utf.least", laid_haulage_utf_least), ("haulage/typ.words", laid_haulage_typ_words)], narrowed := true }
def TypTextsUptoSaid : Prop := typTextsUptoRow.holds Tryd.pinned (OpenSpec.upto typTextsSpec)

end Rows
end Go.Proofs.YtompbjamfhkgfaaDoor
