/-
  NARROWER THAN 'FOR EVERY INPUT', by the rows' own cells (each row's printed sentence says how): PmodDecls: laid · PmodJoins: laid · PmodParses: laid · PmodBlanks: laid · PmodLarge: laid · PmodForms: laid.
  DERIVED. THE GIVEN ROWS OF THIS SEAT. 6 by the template 'for every input the law returns true; each argument reads behind the call as it read before'; 0 by the template 'total and deterministic' (their statements: YtnogkihchgnbcaaGreatDoorTotals.lean).
  GIVEN WITH THE SEED: the statements are not yours to turn. If you find one false, say at which input.
  Laid BY PROGRAM, IN A SANDBOX (cutbox-rows.mjs): the forced cells as the released guide's own fill.sh prints them over the translation a8a2010a18775d31… (all of the seat's roots in one cut). By AI agents, Wed Nov 11 2026. No macro, syntax, notation, axiom, sorry.
-/
import Derived.Test.YtnogkihchgnbcaaGreatDoorChecked
import GoSem.PinnedTables
import GoSem.Claim
import GoSem.ClaimJoined
import GoSem.ClaimMapViews
import Derived.JoinedTies
import Derived.KernelRfl
namespace Go.Proofs.YtnogkihchgnbcaaGreatDoor
/- THE CELL 'sum', in the pinned program and in every row, IS THE sha256 OF THE DUMP (.gsa) THAT YtnogkihchgnbcaaGreatDoorProg.lean LOADS. Nothing in Lean hashes anything: it is a label: what it is worth is what the hold of that sum in a sandbox is worth. -/
noncomputable def Tryz.pinned : Pinned := { name := "ytnogkihchgnbcaagreatdoor", sum := "a8a2010a18775d314ccfa5834f8fa445dde441bbd197ccd083a5151499e2795e", checked := Tryz.checked }
namespace Rows
def none {H : Type} : Left H := { results := [], args := [] }

/- WHAT THE LISTED PACKAGE-LEVEL VARIABLES READ AS WHEN THE CALL BEGINS. Each datum BY PROGRAM (the guide's laid-datum.mjs) off the statement by which the dump's own 'gosem.cut.vars' lays the variable. In a bare row this is a premise. The card (YtnogkihchgnbcaaGreatDoorCards.lean) ties it to the program's text. -/
def laid_unicode_utf8_acceptRanges {H : Type} : DataW H := .agg [.agg [.lit (.int .u8 128), .lit (.int .u8 191)], .agg [.lit (.int .u8 160), .lit (.int .u8 191)], .agg [.lit (.int .u8 128), .lit (.int .u8 159)], .agg [.lit (.int .u8 144), .lit (.int .u8 191)], .agg [.lit (.int .u8 128), .lit (.int .u8 143)], .agg [.lit (.int .u8 0), .lit (.int .u8 0)], .agg [.lit (.int .u8 0), .lit (.int .u8 0)], .agg [.lit (.int .u8 0), .lit (.int .u8 0)], .agg [.lit (.int .u8 0), .lit (.int .u8 0)], .agg [.lit (.int .u8 0), .lit (.int .u8 0)], .agg [.lit (.int .u8 0), .lit (.int .u8 0)], .agg [.lit (.int .u8 0), .lit (.int .u8 0)], .agg [.lit (.int .u8 0), .lit (.int .u8 0)], .agg [.lit (.int .u8 0), .lit (.int .u8 0)], .agg [.lit (.int .u8 0), .lit (.int .u8 0)], .agg [.lit (.int .u8 0), .lit (.int .u8 0)]]
/-- One of Go's own tables, pinned by name: the form's constant. -/
def laid_unicode_utf8_first : DataW Unit := Go.Pinned.utf8First

/-- 'marquetrylaw08.PmodDecls': WHATEVER THE INPUT: true; the input reads as it did. -/
def pmodDeclsSpec : ChangeSpec := { name := "pmodDecls", fn := fun _ => fun
  | [d1, d2, d3] => { results := [.lit (.bool true)], args := [d1, d2, d3] }
  | _ => none }
def pmodDeclsRow : OpenClaim := { program := "ytnogkihchgnbcaagreatdoor", sum := "a8a2010a18775d314ccfa5834f8fa445dde441bbd197ccd083a5151499e2795e", func := "marquetry/marquetrylaw08.PmodDecls", spec := "pmodDecls", inPlace := ["internal/bytealg.CountString", "internal/bytealg.IndexByteString", "internal/bytealg.IndexString"], unfollowed := true, recurses := true, named := ["unicode/utf8.first", "unicode/utf8.acceptRanges", "internal/bytealg.MaxLen"], apart := false, laid := [("unicode/utf8.acceptRanges", laid_unicode_utf8_acceptRanges), ("unicode/utf8.first", laid_unicode_utf8_first)] }
def PmodDeclsSaid : Prop := pmodDeclsRow.holds Tryz.pinned (OpenSpec.ofChange pmodDeclsSpec)

/-- ITS FALSE NEIGHBOUR: 'it returns false'. Refute it at one input. -/
def pmodDeclsWrong : ChangeSpec := { name := "pmodDecls", fn := fun _ => fun
  | [d1, d2, d3] => { results := [.lit (.bool false)], args := [d1, d2, d3] }
  | _ => none }
def PmodDeclsWrongFalsely : Prop := pmodDeclsRow.holds Tryz.pinned (OpenSpec.ofChange pmodDeclsWrong)

/-- 'marquetrylaw08.PmodJoins': WHATEVER THE INPUT: true; the input reads as it did. -/
def pmodJoinsSpec : ChangeSpec := { name := "pmodJoins", fn := fun _ => fun
  | [d1, d2] => { results := [.lit (.bool true)], args := [d1, d2] }
  | _ => none }
def pmodJoinsRow : OpenClaim := { program := "ytnogkihchgnbcaagreatdoor", sum := "a8a2010a18775d314ccfa5834f8fa445dde441bbd197ccd083a5151499e2795e", func := "marquetry/marquetrylaw08.PmodJoins", spec := "pmodJoins", inPlace := ["internal/bytealg.CountString", "internal/bytealg.IndexByteString", "internal/bytealg.IndexString"], unfollowed := true, recurses := true, named := ["unicode/utf8.first", "unicode/utf8.acceptRanges", "internal/bytealg.MaxLen"], apart := false, laid := [("unicode/utf8.acceptRanges", laid_unicode_utf8_acceptRanges), ("unicode/utf8.first", laid_unicode_utf8_first)] }
def PmodJoinsSaid : Prop := pmodJoinsRow.holds Tryz.pinned (OpenSpec.ofChange pmodJoinsSpec)

/-- ITS FALSE NEIGHBOUR: 'it returns false'. Refute it at one input. -/
def pmodJoinsWrong : ChangeSpec := { name := "pmodJoins", fn := fun _ => fun
  | [d1, d2] => { results := [.lit (.bool false)], args := [d1, d2] }
  | _ => none }
def PmodJoinsWrongFalsely : Prop := pmodJoinsRow.holds Tryz.pinned (OpenSpec.ofChange pmodJoinsWrong)

/-- 'marquetrylaw08.PmodParses': WHATEVER THE INPUT: true; the input reads as it did. -/
def pmodParsesSpec : ChangeSpec := { name := "pmodParses", fn := fun _ => fun
  | [d1, d2] => { results := [.lit (.bool true)], args := [d1, d2] }
  | _ => none }
def pmodParsesRow : OpenClaim := { program := "ytnogkihchgnbcaagreatdoor", sum := "a8a2010a18775d314ccfa5834f8fa445dde441bbd197ccd083a5151499e2795e", func := "marquetry/marquetrylaw08.PmodParses", spec := "pmodParses", inPlace := ["internal/bytealg.CountString", "internal/bytealg.IndexByteString", "internal/bytealg.IndexString"], unfollowed := true, recurses := true, named := ["unicode/utf8.first", "unicode/utf8.acceptRanges", "internal/bytealg.MaxLen"], apart := false, laid := [("unicode/utf8.acceptRanges", laid_unicode_utf8_acceptRanges), ("unicode/utf8.first", laid_unicode_utf8_first)] }
def PmodParsesSaid : Prop := pmodParsesRow.holds Tryz.pinned (OpenSpec.ofChange pmodParsesSpec)

/-- ITS FALSE NEIGHBOUR: 'it returns false'. Refute it at one input. -/
def pmodParsesWrong : ChangeSpec := { name := "pmodParses", fn := fun _ => fun
  | [d1, d2] => { results := [.lit (.bool false)], args := [d1, d2] }
  | _ => none }
def PmodParsesWrongFalsely : Prop := pmodParsesRow.holds Tryz.pinned (OpenSpec.ofChange pmodParsesWrong)

/-- 'marquetrylaw08.PmodBlanks': WHATEVER THE INPUT: true; the input reads as it did. -/
def pmodBlanksSpec : ChangeSpec := { name := "pmodBlanks", fn := fun _ => fun
  | [d] => { results := [.lit (.bool true)], args := [d] }
  | _ => none }
def pmodBlanksRow : OpenClaim := { program := "ytnogkihchgnbcaagreatdoor", sum := "a8a2010a18775d314ccfa5834f8fa445dde441bbd197ccd083a5151499e2795e", func := "marquetry/marquetrylaw08.PmodBlanks", spec := "pmodBlanks", inPlace := ["internal/bytealg.CountString", "internal/bytealg.IndexByteString", "internal/bytealg.IndexString", "internal/abi.NoEscape", "internal/bytealg.MakeNoZero"], unfollowed := true, recurses := true, named := ["unicode/utf8.first", "unicode/utf8.acceptRanges", "internal/bytealg.MaxLen"], apart := false, laid := [("unicode/utf8.acceptRanges", laid_unicode_utf8_acceptRanges), ("unicode/utf8.first", laid_unicode_utf8_first)] }
def PmodBlanksSaid : Prop := pmodBlanksRow.holds Tryz.pinned (OpenSpec.ofChange pmodBlanksSpec)

/-- ITS FALSE NEIGHBOUR: 'it returns false'. Refute it at one input. -/
def pmodBlanksWrong : ChangeSpec := { name := "pmodBlanks", fn := fun _ => fun
  | [d] => { results := [.lit (.bool false)], args := [d] }
  | _ => none }
def PmodBlanksWrongFalsely : Prop := pmodBlanksRow.holds Tryz.pinned (OpenSpec.ofChange pmodBlanksWrong)

/-- 'marquetrylaw08.PmodLarge': WHATEVER THE INPUT: true; the input reads as it did. -/
def pmodLargeSpec : ChangeSpec := { name := "pmodLarge", fn := fun _ => fun
  | [d1, d2] => { results := [.lit (.bool true)], args := [d1, d2] }
  | _ => none }
def pmodLargeRow : OpenClaim := { program := "ytnogkihchgnbcaagreatdoor", sum := "a8a2010a18775d314ccfa5834f8fa445dde441bbd197ccd083a5151499e2795e", func := "marquetry/marquetrylaw08.PmodLarge", spec := "pmodLarge", inPlace := ["internal/abi.NoEscape", "internal/bytealg.MakeNoZero", "internal/bytealg.CountString", "internal/bytealg.IndexByteString", "internal/bytealg.IndexString"], unfollowed := true, recurses := true, named := ["unicode/utf8.first", "unicode/utf8.acceptRanges", "internal/bytealg.MaxLen"], apart := false, laid := [("unicode/utf8.acceptRanges", laid_unicode_utf8_acceptRanges), ("unicode/utf8.first", laid_unicode_utf8_first)] }
def PmodLargeSaid : Prop := pmodLargeRow.holds Tryz.pinned (OpenSpec.ofChange pmodLargeSpec)

/-- ITS FALSE NEIGHBOUR: 'it returns false'. Refute it at one input. -/
def pmodLargeWrong : ChangeSpec := { name := "pmodLarge", fn := fun _ => fun
  | [d1, d2] => { results := [.lit (.bool false)], args := [d1, d2] }
  | _ => none }
def PmodLargeWrongFalsely : Prop := pmodLargeRow.holds Tryz.pinned (OpenSpec.ofChange pmodLargeWrong)

/-- 'marquetrylaw08.PmodForms': WHATEVER THE INPUT: true; the input reads as it did. -/
def pmodFormsSpec : ChangeSpec := { name := "pmodForms", fn := fun _ => fun
  | [d] => { results := [.lit (.bool true)], args := [d] }
  | _ => none }
def pmodFormsRow : OpenClaim := { program := "ytnogkihchgnbcaagreatdoor", sum := "a8a2010a18775d314ccfa5834f8fa445dde441bbd197ccd083a5151499e2795e", func := "marquetry/marquetrylaw08.PmodForms", spec := "pmodForms", inPlace := ["internal/bytealg.CountString", "internal/bytealg.IndexByteString", "internal/bytealg.IndexString"], unfollowed := true, recurses := true, named := ["unicode/utf8.first", "unicode/utf8.acceptRanges", "internal/bytealg.MaxLen"], apart := false, laid := [("unicode/utf8.acceptRanges", laid_unicode_utf8_acceptRanges), ("unicode/utf8.first", laid_unicode_utf8_first)] }
def PmodFormsSaid : Prop := pmodFormsRow.holds Tryz.pinned (OpenSpec.ofChange pmodFormsSpec)

/-- ITS FALSE NEIGHBOUR: 'it returns false'. Refute it at one input. -/
def pmodFormsWrong : ChangeSpec := { name := "pmodForms", fn := fun _ => fun
  | [d] => { results := [.lit (.bool false)], args := [d] }
  | _ => none }
def PmodFormsWrongFalsely : Prop := pmodFormsRow.holds Tryz.pinned (OpenSpec.ofChange pmodFormsWrong)

/- THE SECOND FORM. 'bulk': how many values and letters a reading holds, each counted each time it is reached (what is shared counts as often as it is met; a slice's spare places count too). A statement '..UptoSaid' is the law's where the arguments, and the package variables that the reading takes, are together of bulk at most 1048576: NARROWER than '..Said'. Prove '..Said' where nothing that the law and all that it calls make is longer than what came in: it says more and counts as full. Else prove '..UptoSaid'. A law counts once. -/
mutual
def uptoBulk {H : Type} : DataW H → Nat
  | .lit (.string bytes) => bytes.length + 1
  | .lit _ => 1
  | .nil => 1
  | .ptr d => uptoBulk d + 1
  | .slice elems spare => uptoBulkAll elems + uptoBulkAll spare + 1
  | .agg parts => uptoBulkAll parts + 1
  | .iface _ d => uptoBulk d + 1
  | .map entries => uptoBulkEntries entries + 1
  | .held _ => 1
def uptoBulkAll {H : Type} : List (DataW H) → Nat
  | [] => 0
  | d :: r => uptoBulk d + uptoBulkAll r
def uptoBulkEntries {H : Type} : List (Lit × DataW H) → Nat
  | [] => 0
  | x :: r => uptoBulkEntry x + uptoBulkEntries r
def uptoBulkEntry {H : Type} : Lit × DataW H → Nat
  | (.string bytes, d) => bytes.length + uptoBulk d + 1
  | (_, d) => uptoBulk d + 1
 end
def uptoSmall : (H : Type) → List (DataW H) → Bool := fun _ ds => decide (uptoBulkAll ds ≤ 1048576)
def OpenSpec.upto (s : _root_.Go.ChangeSpec) : _root_.Go.OpenSpec := { _root_.Go.OpenSpec.ofChange s with cond := some uptoSmall }

/-- 'marquetrylaw08.PmodDecls', WHERE WHAT IT READS IS OF BULK AT MOST 1048576: true; the input reads as it did. -/
def pmodDeclsUptoRow : OpenClaim := { program := "ytnogkihchgnbcaagreatdoor", sum := "a8a2010a18775d314ccfa5834f8fa445dde441bbd197ccd083a5151499e2795e", func := "marquetry/marquetrylaw08.PmodDecls", spec := "pmodDecls", inPlace := ["internal/bytealg.CountString", "internal/bytealg.IndexByteString", "internal/bytealg.IndexString"], unfollowed := true, recurses := true, named := ["unicode/utf8.first", "unicode/utf8.acceptRanges", "internal/bytealg.MaxLen"], apart := false, laid := [("unicode/utf8.acceptRanges", laid_unicode_utf8_acceptRanges), ("unicode/utf8.first", laid_unicode_utf8_first)], narrowed := true }
def PmodDeclsUptoSaid : Prop := pmodDeclsUptoRow.holds Tryz.pinned (OpenSpec.upto pmodDeclsSpec)

/-- 'marquetrylaw08.PmodJoins', WHERE WHAT IT READS IS OF BULK AT MOST 1048576: true; the input reads as it did. -/
def pmodJoinsUptoRow : OpenClaim := { program := "ytnogkihchgnbcaagreatdoor", sum := "a8a2010a18775d314ccfa5834f8fa445dde441bbd197ccd083a5151499e2795e", func := "marquetry/marquetrylaw08.PmodJoins", spec := "pmodJoins", inPlace := ["internal/bytealg.CountString", "internal/bytealg.IndexByteString", "internal/bytealg.IndexString"], unfollowed := true, recurses := true, named := ["unicode/utf8.first", "unicode/utf8.acceptRanges", "internal/bytealg.MaxLen"], apart := false, laid := [("unicode/utf8.acceptRanges", laid_unicode_utf8_acceptRanges), ("unicode/utf8.first", laid_unicode_utf8_first)], narrowed := true }
def PmodJoinsUptoSaid : Prop := pmodJoinsUptoRow.holds Tryz.pinned (OpenSpec.upto pmodJoinsSpec)

/-- 'marquetrylaw08.PmodParses', WHERE WHAT IT READS IS OF BULK AT MOST 1048576: true; the input reads as it did. -/
def pmodParsesUptoRow : OpenClaim := { program := "ytnogkihchgnbcaagreatdoor", sum := "a8a2010a18775d314ccfa5834f8fa445dde441bbd197ccd083a5151499e2795e", func := "marquetry/marquetrylaw08.PmodParses", spec := "pmodParses", inPlace := ["internal/bytealg.CountString", "internal/bytealg.IndexByteString", "internal/bytealg.IndexString"], unfollowed := true, recurses := true, named := ["unicode/utf8.first", "unicode/utf8.acceptRanges", "internal/bytealg.MaxLen"], apart := false, laid := [("unicode/utf8.acceptRanges", laid_unicode_utf8_acceptRanges), ("unicode/utf8.first", laid_unicode_utf8_first)], narrowed := true }
def PmodParsesUptoSaid : Prop := pmodParsesUptoRow.holds Tryz.pinned (OpenSpec.upto pmodParsesSpec)

/-- 'marquetrylaw08.PmodBlanks', WHERE WHAT IT READS IS OF BULK AT MOST 1048576: true; the input reads as it did. -/
def pmodBlanksUptoRow : OpenClaim := { program := "ytnogkihchgnbcaagreatdoor", sum := "a8a2010a18775d314ccfa5834f8fa445dde441bbd197ccd083a5151499e2795e", func := "marquetry/marquetrylaw08.PmodBlanks", spec := "pmodBlanks", inPlace := ["internal/bytealg.CountString", "internal/bytealg.IndexByteString", "internal/bytealg.IndexString", "internal/abi.NoEscape", "internal/bytealg.MakeNoZero"], unfollowed := true, recurses := true, named := ["unicode/utf8.first", "unicode/utf8.acceptRanges", "internal/bytealg.MaxLen"], apart := false, laid := [("unicode/utf8.acceptRanges", laid_unicode_utf8_acceptRanges), ("unicode/utf8.first", laid_unicode_utf8_first)], narrowed := true }
def PmodBlanksUptoSaid : Prop := pmodBlanksUptoRow.holds Tryz.pinned (OpenSpec.upto pmodBlanksSpec)

/-- 'marquetrylaw08.PmodLarge', WHERE WHAT IT READS IS OF BULK AT MOST 1048576: true; the input reads as it did. -/
def pmodLargeUptoRow : OpenClaim := { program := "ytnogkihchgnbcaagreatdoor", sum := "a8a2010a18775d314ccfa5834f8fa445dde441bbd197ccd083a5151499e2795e", func := "marquetry/marquetrylaw08.PmodLarge", spec := "pmodLarge", inPlace := ["internal/abi.NoEscape", "internal/bytealg.MakeNoZero", "internal/bytealg.CountString", "internal/bytealg.IndexByteString", "internal/bytealg.IndexString"], unfollowed := true, recurses := true, named := ["unicode/utf8.first", "unicode/utf8.acceptRanges", "internal/bytealg.MaxLen"], apart := false, laid := [("unicode/utf8.acceptRanges", laid_unicode_utf8_acceptRanges), ("unicode/utf8.first", laid_unicode_utf8_first)], narrowed := true }
def PmodLargeUptoSaid : Prop := pmodLargeUptoRow.holds Tryz.pinned (OpenSpec.upto pmodLargeSpec)

/-- 'marquetrylaw08.PmodForms', WHERE WHAT IT READS IS OF BULK AT MOST 1048576: true; the input reads as it did. -/
def pmodFormsUptoRow : OpenClaim := { program := "ytnogkihchgnbcaagreatdoor", sum := "a8a2010a18775d314ccfa5834f8fa445dde441bbd197ccd083a5151499e2795e", func := "marquetry/marquetrylaw08.PmodForms", spec := "pmodForms", inPlace := ["internal/bytealg.CountString", "internal/bytealg.IndexByteString", "internal/bytealg.IndexString"], unfollowed := true, recurses := true, named := ["unicode/utf8.first", "unicode/utf8.acceptRanges", "internal/bytealg.MaxLen"], apart := false, laid := [("unicode/utf8.acceptRanges", laid_unicode_utf8_acceptRanges), ("unicode/utf8.first", laid_unicode_utf8_first)], narrowed := true }
def PmodFormsUptoSaid : Prop := pmodFormsUptoRow.holds Tryz.pinned (OpenSpec.upto pmodFormsSpec)

end Rows
end Go.Proofs.YtnogkihchgnbcaaGreatDoor
