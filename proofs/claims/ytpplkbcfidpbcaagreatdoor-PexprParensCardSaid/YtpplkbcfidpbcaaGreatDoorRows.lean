/-
  NARROWER THAN 'FOR EVERY INPUT', by the rows' own cells (each row's printed sentence says how): PexprParses: laid · PexprReads: laid · PexprWrites: laid · PexprForms: laid · PexprParens: laid · PexprBack: laid.
  DERIVED. THE GIVEN ROWS OF THIS SEAT. 6 by the template 'for every input the law returns true; each argument reads behind the call as it read before'; 0 by the template 'total and deterministic' (their statements: YtpplkbcfidpbcaaGreatDoorTotals.lean).
  GIVEN WITH THE SEED: the statements are not yours to turn. If you find one false, say at which input.
  Laid BY PROGRAM, IN A SANDBOX (cutbox-rows.mjs): the forced cells as the released guide's own fill.sh prints them over the translation f3e833772230e99a… (all of the seat's roots in one cut). By AI agents, Wed Nov 11 2026. No macro, syntax, notation, axiom, sorry.
-/
import Derived.Test.YtpplkbcfidpbcaaGreatDoorChecked
import GoSem.PinnedTables
import GoSem.Claim
import GoSem.ClaimJoined
import GoSem.ClaimMapViews
import Derived.JoinedTies
import Derived.KernelRfl
namespace Go.Proofs.YtpplkbcfidpbcaaGreatDoor
/- THE CELL 'sum', in the pinned program and in every row, IS THE sha256 OF THE DUMP (.gsa) THAT YtpplkbcfidpbcaaGreatDoorProg.lean LOADS. Nothing in Lean hashes anything: it is a label: what it is worth is what the hold of that sum in a sandbox is worth. -/
noncomputable def Tryz.pinned : Pinned := { name := "ytpplkbcfidpbcaagreatdoor", sum := "f3e833772230e99ae75eea0d942d8775174ca19698196a1691a183e9648b9271", checked := Tryz.checked }
namespace Rows
def none {H : Type} : Left H := { results := [], args := [] }

/- WHAT THE LISTED PACKAGE-LEVEL VARIABLES READ AS WHEN THE CALL BEGINS. Each datum BY PROGRAM (the guide's laid-datum.mjs) off the statement by which the dump's own 'gosem.cut.vars' lays the variable. In a bare row this is a premise. The card (YtpplkbcfidpbcaaGreatDoorCards.lean) ties it to the program's text. -/
def laid_unicode_utf8_acceptRanges {H : Type} : DataW H := .agg [.agg [.lit (.int .u8 128), .lit (.int .u8 191)], .agg [.lit (.int .u8 160), .lit (.int .u8 191)], .agg [.lit (.int .u8 128), .lit (.int .u8 159)], .agg [.lit (.int .u8 144), .lit (.int .u8 191)], .agg [.lit (.int .u8 128), .lit (.int .u8 143)], .agg [.lit (.int .u8 0), .lit (.int .u8 0)], .agg [.lit (.int .u8 0), .lit (.int .u8 0)], .agg [.lit (.int .u8 0), .lit (.int .u8 0)], .agg [.lit (.int .u8 0), .lit (.int .u8 0)], .agg [.lit (.int .u8 0), .lit (.int .u8 0)], .agg [.lit (.int .u8 0), .lit (.int .u8 0)], .agg [.lit (.int .u8 0), .lit (.int .u8 0)], .agg [.lit (.int .u8 0), .lit (.int .u8 0)], .agg [.lit (.int .u8 0), .lit (.int .u8 0)], .agg [.lit (.int .u8 0), .lit (.int .u8 0)], .agg [.lit (.int .u8 0), .lit (.int .u8 0)]]
/-- One of Go's own tables, pinned by name: the form's constant. -/
def laid_unicode_utf8_first : DataW Unit := Go.Pinned.utf8First

/-- 'marquetrylaw07.PexprParses': WHATEVER THE INPUT: true; the input reads as it did. -/
def pexprParsesSpec : ChangeSpec := { name := "pexprParses", fn := fun _ => fun
  | [d1, d2] => { results := [.lit (.bool true)], args := [d1, d2] }
  | _ => none }
def pexprParsesRow : OpenClaim := { program := "ytpplkbcfidpbcaagreatdoor", sum := "f3e833772230e99ae75eea0d942d8775174ca19698196a1691a183e9648b9271", func := "marquetry/marquetrylaw07.PexprParses", spec := "pexprParses", inPlace := ["internal/bytealg.CountString", "internal/bytealg.IndexByteString", "internal/bytealg.IndexString", "internal/abi.NoEscape", "internal/bytealg.MakeNoZero"], unfollowed := true, recurses := true, named := ["unicode/utf8.first", "unicode/utf8.acceptRanges", "internal/bytealg.MaxLen"], apart := false, laid := [("unicode/utf8.acceptRanges", laid_unicode_utf8_acceptRanges), ("unicode/utf8.first", laid_unicode_utf8_first)] }
def PexprParsesSaid : Prop := pexprParsesRow.holds Tryz.pinned (OpenSpec.ofChange pexprParsesSpec)

/-- ITS FALSE NEIGHBOUR: 'it returns false'. Refute it at one input. -/
def pexprParsesWrong : ChangeSpec := { name := "pexprParses", fn := fun _ => fun
  | [d1, d2] => { results := [.lit (.bool false)], args := [d1, d2] }
  | _ => none }
def PexprParsesWrongFalsely : Prop := pexprParsesRow.holds Tryz.pinned (OpenSpec.ofChange pexprParsesWrong)

/-- 'marquetrylaw07.PexprReads': WHATEVER THE INPUT: true; the input reads as it did. -/
def pexprReadsSpec : ChangeSpec := { name := "pexprReads", fn := fun _ => fun
  | [d] => { results := [.lit (.bool true)], args := [d] }
  | _ => none }
def pexprReadsRow : OpenClaim := { program := "ytpplkbcfidpbcaagreatdoor", sum := "f3e833772230e99ae75eea0d942d8775174ca19698196a1691a183e9648b9271", func := "marquetry/marquetrylaw07.PexprReads", spec := "pexprReads", inPlace := ["internal/bytealg.CountString", "internal/bytealg.IndexByteString", "internal/bytealg.IndexString", "internal/abi.NoEscape", "internal/bytealg.MakeNoZero"], unfollowed := true, recurses := true, named := ["unicode/utf8.first", "unicode/utf8.acceptRanges", "internal/bytealg.MaxLen"], apart := false, laid := [("unicode/utf8.acceptRanges", laid_unicode_utf8_acceptRanges), ("unicode/utf8.first", laid_unicode_utf8_first)] }
def PexprReadsSaid : Prop := pexprReadsRow.holds Tryz.pinned (OpenSpec.ofChange pexprReadsSpec)

/-- ITS FALSE NEIGHBOUR: 'it returns false'. Refute it at one input. -/
def pexprReadsWrong : ChangeSpec := { name := "pexprReads", fn := fun _ => fun
  | [d] => { results := [.lit (.bool false)], args := [d] }
  | _ => none }
def PexprReadsWrongFalsely : Prop := pexprReadsRow.holds Tryz.pinned (OpenSpec.ofChange pexprReadsWrong)

/-- 'marquetrylaw07.PexprWrites': WHATEVER THE INPUT: true; the input reads as it did. -/
def pexprWritesSpec : ChangeSpec := { name := "pexprWrites", fn := fun _ => fun
  | [d] => { results := [.lit (.bool true)], args := [d] }
  | _ => none }
def pexprWritesRow : OpenClaim := { program := "ytpplkbcfidpbcaagreatdoor", sum := "f3e833772230e99ae75eea0d942d8775174ca19698196a1691a183e9648b9271", func := "marquetry/marquetrylaw07.PexprWrites", spec := "pexprWrites", inPlace := ["internal/bytealg.CountString", "internal/bytealg.IndexByteString", "internal/bytealg.IndexString", "internal/abi.NoEscape", "internal/bytealg.MakeNoZero"], unfollowed := true, recurses := true, named := ["unicode/utf8.first", "unicode/utf8.acceptRanges", "internal/bytealg.MaxLen"], apart := false, laid := [("unicode/utf8.acceptRanges", laid_unicode_utf8_acceptRanges), ("unicode/utf8.first", laid_unicode_utf8_first)] }
def PexprWritesSaid : Prop := pexprWritesRow.holds Tryz.pinned (OpenSpec.ofChange pexprWritesSpec)

/-- ITS FALSE NEIGHBOUR: 'it returns false'. Refute it at one input. -/
def pexprWritesWrong : ChangeSpec := { name := "pexprWrites", fn := fun _ => fun
  | [d] => { results := [.lit (.bool false)], args := [d] }
  | _ => none }
def PexprWritesWrongFalsely : Prop := pexprWritesRow.holds Tryz.pinned (OpenSpec.ofChange pexprWritesWrong)

/-- 'marquetrylaw07.PexprForms': WHATEVER THE INPUT: true; the input reads as it did. -/
def pexprFormsSpec : ChangeSpec := { name := "pexprForms", fn := fun _ => fun
  | [d1, d2] => { results := [.lit (.bool true)], args := [d1, d2] }
  | _ => none }
def pexprFormsRow : OpenClaim := { program := "ytpplkbcfidpbcaagreatdoor", sum := "f3e833772230e99ae75eea0d942d8775174ca19698196a1691a183e9648b9271", func := "marquetry/marquetrylaw07.PexprForms", spec := "pexprForms", inPlace := ["internal/bytealg.CountString", "internal/bytealg.IndexByteString", "internal/bytealg.IndexString", "internal/abi.NoEscape", "internal/bytealg.MakeNoZero"], unfollowed := true, recurses := true, named := ["unicode/utf8.first", "unicode/utf8.acceptRanges", "internal/bytealg.MaxLen"], apart := false, laid := [("unicode/utf8.acceptRanges", laid_unicode_utf8_acceptRanges), ("unicode/utf8.first", laid_unicode_utf8_first)] }
def PexprFormsSaid : Prop := pexprFormsRow.holds Tryz.pinned (OpenSpec.ofChange pexprFormsSpec)

/-- ITS FALSE NEIGHBOUR: 'it returns false'. Refute it at one input. -/
def pexprFormsWrong : ChangeSpec := { name := "pexprForms", fn := fun _ => fun
  | [d1, d2] => { results := [.lit (.bool false)], args := [d1, d2] }
  | _ => none }
def PexprFormsWrongFalsely : Prop := pexprFormsRow.holds Tryz.pinned (OpenSpec.ofChange pexprFormsWrong)

/-- 'marquetrylaw07.PexprParens': WHATEVER THE INPUT: true; the input reads as it did. -/
def pexprParensSpec : ChangeSpec := { name := "pexprParens", fn := fun _ => fun
  | [d1, d2] => { results := [.lit (.bool true)], args := [d1, d2] }
  | _ => none }
def pexprParensRow : OpenClaim := { program := "ytpplkbcfidpbcaagreatdoor", sum := "f3e833772230e99ae75eea0d942d8775174ca19698196a1691a183e9648b9271", func := "marquetry/marquetrylaw07.PexprParens", spec := "pexprParens", inPlace := ["internal/bytealg.CountString", "internal/bytealg.IndexByteString", "internal/bytealg.IndexString", "internal/abi.NoEscape", "internal/bytealg.MakeNoZero"], unfollowed := true, recurses := true, named := ["unicode/utf8.first", "unicode/utf8.acceptRanges", "internal/bytealg.MaxLen"], apart := false, laid := [("unicode/utf8.acceptRanges", laid_unicode_utf8_acceptRanges), ("unicode/utf8.first", laid_unicode_utf8_first)] }
def PexprParensSaid : Prop := pexprParensRow.holds Tryz.pinned (OpenSpec.ofChange pexprParensSpec)

/-- ITS FALSE NEIGHBOUR: 'it returns false'. Refute it at one input. -/
def pexprParensWrong : ChangeSpec := { name := "pexprParens", fn := fun _ => fun
  | [d1, d2] => { results := [.lit (.bool false)], args := [d1, d2] }
  | _ => none }
def PexprParensWrongFalsely : Prop := pexprParensRow.holds Tryz.pinned (OpenSpec.ofChange pexprParensWrong)

/-- 'marquetrylaw07.PexprBack': WHATEVER THE INPUT: true; the input reads as it did. -/
def pexprBackSpec : ChangeSpec := { name := "pexprBack", fn := fun _ => fun
  | [d] => { results := [.lit (.bool true)], args := [d] }
  | _ => none }
def pexprBackRow : OpenClaim := { program := "ytpplkbcfidpbcaagreatdoor", sum := "f3e833772230e99ae75eea0d942d8775174ca19698196a1691a183e9648b9271", func := "marquetry/marquetrylaw07.PexprBack", spec := "pexprBack", inPlace := ["internal/bytealg.CountString", "internal/bytealg.IndexByteString", "internal/bytealg.IndexString", "internal/abi.NoEscape", "internal/bytealg.MakeNoZero"], unfollowed := true, recurses := true, named := ["unicode/utf8.first", "unicode/utf8.acceptRanges", "internal/bytealg.MaxLen"], apart := false, laid := [("unicode/utf8.acceptRanges", laid_unicode_utf8_acceptRanges), ("unicode/utf8.first", laid_unicode_utf8_first)] }
def PexprBackSaid : Prop := pexprBackRow.holds Tryz.pinned (OpenSpec.ofChange pexprBackSpec)

/-- ITS FALSE NEIGHBOUR: 'it returns false'. Refute it at one input. -/
def pexprBackWrong : ChangeSpec := { name := "pexprBack", fn := fun _ => fun
  | [d] => { results := [.lit (.bool false)], args := [d] }
  | _ => none }
def PexprBackWrongFalsely : Prop := pexprBackRow.holds Tryz.pinned (OpenSpec.ofChange pexprBackWrong)

/- THE SECOND FORM. 'bulk': how many values and letters a reading holds, each counted each time it is reached (what is shared counts as often as it is met; a slice's spare places count too). A statement '..UptoSaid' is the law's where the arguments, and the package variables that the reading takes, are together of bulk at most 1048576: NARROWER than '..Said'. Prove '..Said' where nothing that the law and all that it calls make is longer than what came in: it says more and counts as full. Else prove '..UptoSaid'. A law counts once. -/
mutual
def uptoBulk {H : Type} : DataW H → Nat
  | .lit (.string bytes) => bytes.length + 1
  | .lit _ => 1
  | .nil => 1
  | .ptr d => uptoBulk d + 1
  | .slice elems spare => uptoBulkAll elems + uptoBulkAll spare + 1
  | .agg parts => uptoBulkAll parts + 1
  | .iface _ d => uptoBulk d + 1
  | .map entries => uptoBulkEntries entries + 1
  | .held _ => 1
def uptoBulkAll {H : Type} : List (DataW H) → Nat
  | [] => 0
  | d :: r => uptoBulk d + uptoBulkAll r
def uptoBulkEntries {H : Type} : List (Lit × DataW H) → Nat
  | [] => 0
  | x :: r => uptoBulkEntry x + uptoBulkEntries r
def uptoBulkEntry {H : Type} : Lit × DataW H → Nat
  | (.string bytes, d) => bytes.length + uptoBulk d + 1
  | (_, d) => uptoBulk d + 1
 end
def uptoSmall : (H : Type) → List (DataW H) → Bool := fun _ ds => decide (uptoBulkAll ds ≤ 1048576)
def OpenSpec.upto (s : _root_.Go.ChangeSpec) : _root_.Go.OpenSpec := { _root_.Go.OpenSpec.ofChange s with cond := some uptoSmall }

/-- 'marquetrylaw07.PexprParses', WHERE WHAT IT READS IS OF BULK AT MOST 1048576: true; the input reads as it did. -/
def pexprParsesUptoRow : OpenClaim := { program := "ytpplkbcfidpbcaagreatdoor", sum := "f3e833772230e99ae75eea0d942d8775174ca19698196a1691a183e9648b9271", func := "marquetry/marquetrylaw07.PexprParses", spec := "pexprParses", inPlace := ["internal/bytealg.CountString", "internal/bytealg.IndexByteString", "internal/bytealg.IndexString", "internal/abi.NoEscape", "internal/bytealg.MakeNoZero"], unfollowed := true, recurses := true, named := ["unicode/utf8.first", "unicode/utf8.acceptRanges", "internal/bytealg.MaxLen"], apart := false, laid := [("unicode/utf8.acceptRanges", laid_unicode_utf8_acceptRanges), ("unicode/utf8.first", laid_unicode_utf8_first)], narrowed := true }
def PexprParsesUptoSaid : Prop := pexprParsesUptoRow.holds Tryz.pinned (OpenSpec.upto pexprParsesSpec)

/-- 'marquetrylaw07.PexprReads', WHERE WHAT IT READS IS OF BULK AT MOST 1048576: true; the input reads as it did. -/
def pexprReadsUptoRow : OpenClaim := { program := "ytpplkbcfidpbcaagreatdoor", sum := "f3e833772230e99ae75eea0d942d8775174ca19698196a1691a183e9648b9271", func := "marquetry/marquetrylaw07.PexprReads", spec := "pexprReads", inPlace := ["internal/bytealg.CountString", "internal/bytealg.IndexByteString", "internal/bytealg.IndexString", "internal/abi.NoEscape", "internal/bytealg.MakeNoZero"], unfollowed := true, recurses := true, named := ["unicode/utf8.first", "unicode/utf8.acceptRanges", "internal/bytealg.MaxLen"], apart := false, laid := [("unicode/utf8.acceptRanges", laid_unicode_utf8_acceptRanges), ("unicode/utf8.first", laid_unicode_utf8_first)], narrowed := true }
def PexprReadsUptoSaid : Prop := pexprReadsUptoRow.holds Tryz.pinned (OpenSpec.upto pexprReadsSpec)

/-- 'marquetrylaw07.PexprWrites', WHERE WHAT IT READS IS OF BULK AT MOST 1048576: true; the input reads as it did. -/
def pexprWritesUptoRow : OpenClaim := { program := "ytpplkbcfidpbcaagreatdoor", sum := "f3e833772230e99ae75eea0d942d8775174ca19698196a1691a183e9648b9271", func := "marquetry/marquetrylaw07.PexprWrites", spec := "pexprWrites", inPlace := ["internal/bytealg.CountString", "internal/bytealg.IndexByteString", "internal/bytealg.IndexString", "internal/abi.NoEscape", "internal/bytealg.MakeNoZero"], unfollowed := true, recurses := true, named := ["unicode/utf8.first", "unicode/utf8.acceptRanges", "internal/bytealg.MaxLen"], apart := false, laid := [("unicode/utf8.acceptRanges", laid_unicode_utf8_acceptRanges), ("unicode/utf8.first", laid_unicode_utf8_first)], narrowed := true }
def PexprWritesUptoSaid : Prop := pexprWritesUptoRow.holds Tryz.pinned (OpenSpec.upto pexprWritesSpec)

/-- 'marquetrylaw07.PexprForms', WHERE WHAT IT READS IS OF BULK AT MOST 1048576: true; the input reads as it did. -/
def pexprFormsUptoRow : OpenClaim := { program := "ytpplkbcfidpbcaagreatdoor", sum := "f3e833772230e99ae75eea0d942d8775174ca19698196a1691a183e9648b9271", func := "marquetry/marquetrylaw07.PexprForms", spec := "pexprForms", inPlace := ["internal/bytealg.CountString", "internal/bytealg.IndexByteString", "internal/bytealg.IndexString", "internal/abi.NoEscape", "internal/bytealg.MakeNoZero"], unfollowed := true, recurses := true, named := ["unicode/utf8.first", "unicode/utf8.acceptRanges", "internal/bytealg.MaxLen"], apart := false, laid := [("unicode/utf8.acceptRanges", laid_unicode_utf8_acceptRanges), ("unicode/utf8.first", laid_unicode_utf8_first)], narrowed := true }
def PexprFormsUptoSaid : Prop := pexprFormsUptoRow.holds Tryz.pinned (OpenSpec.upto pexprFormsSpec)

/-- 'marquetrylaw07.PexprParens', WHERE WHAT IT READS IS OF BULK AT MOST 1048576: true; the input reads as it did. -/
def pexprParensUptoRow : OpenClaim := { program := "ytpplkbcfidpbcaagreatdoor", sum := "f3e833772230e99ae75eea0d942d8775174ca19698196a1691a183e9648b9271", func := "marquetry/marquetrylaw07.PexprParens", spec := "pexprParens", inPlace := ["internal/bytealg.CountString", "internal/bytealg.IndexByteString", "internal/bytealg.IndexString", "internal/abi.NoEscape", "internal/bytealg.MakeNoZero"], unfollowed := true, recurses := true, named := ["unicode/utf8.first", "unicode/utf8.acceptRanges", "internal/bytealg.MaxLen"], apart := false, laid := [("unicode/utf8.acceptRanges", laid_unicode_utf8_acceptRanges), ("unicode/utf8.first", laid_unicode_utf8_first)], narrowed := true }
def PexprParensUptoSaid : Prop := pexprParensUptoRow.holds Tryz.pinned (OpenSpec.upto pexprParensSpec)

/-- 'marquetrylaw07.PexprBack', WHERE WHAT IT READS IS OF BULK AT MOST 1048576: true; the input reads as it did. -/
def pexprBackUptoRow : OpenClaim := { program := "ytpplkbcfidpbcaagreatdoor", sum := "f3e833772230e99ae75eea0d942d8775174ca19698196a1691a183e9648b9271", func := "marquetry/marquetrylaw07.PexprBack", spec := "pexprBack", inPlace := ["internal/bytealg.CountString", "internal/bytealg.IndexByteString", "internal/bytealg.IndexString", "internal/abi.NoEscape", "internal/bytealg.MakeNoZero"], unfollowed := true, recurses := true, named := ["unicode/utf8.first", "unicode/utf8.acceptRanges", "internal/bytealg.MaxLen"], apart := false, laid := [("unicode/utf8.acceptRanges", laid_unicode_utf8_acceptRanges), ("unicode/utf8.first", laid_unicode_utf8_first)], narrowed := true }
def PexprBackUptoSaid : Prop := pexprBackUptoRow.holds Tryz.pinned (OpenSpec.upto pexprBackSpec)

end Rows
end Go.Proofs.YtpplkbcfidpbcaaGreatDoor
