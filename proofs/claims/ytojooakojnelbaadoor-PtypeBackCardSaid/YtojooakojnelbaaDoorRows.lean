/-
  NARROWER THAN 'FOR EVERY INPUT', by the rows' own cells (each row's printed sentence says how): ShapeTells: laid · ShapeNil: laid · ShapeOne: laid · ShapeParts: laid · ShapePuts: laid · PtypeForms: laid · PtypeStops: laid · PtypeBack: laid.
  DERIVED. THE GIVEN ROWS OF THIS SEAT. 8 by the template 'for every input the law returns true; each argument reads behind the call as it read before'; 0 by the template 'total and deterministic' (their statements: YtojooakojnelbaaDoorTotals.lean).
  GIVEN WITH THE SEED: the statements are not yours to turn. If you find one false, say at which input.
  Laid BY PROGRAM, IN A SANDBOX (cutbox-rows.mjs): the forced cells as the released guide's own fill.sh prints them over the translation 7aea8da1f25bd67c… (all of the seat's roots in one cut). By AI agents, Wed Nov 11 2026. No macro, syntax, notation, axiom, sorry.
-/
import Derived.Test.YtojooakojnelbaaDoorChecked
import GoSem.PinnedTables
import GoSem.Claim
import GoSem.ClaimJoined
import GoSem.ClaimMapViews
import Derived.JoinedTies
import Derived.KernelRfl
namespace Go.Proofs.YtojooakojnelbaaDoor
/- THE CELL 'sum', in the pinned program and in every row, IS THE sha256 OF THE DUMP (.gsa) THAT YtojooakojnelbaaDoorProg.lean LOADS. Nothing in Lean hashes anything: it is a label: what it is worth is what the hold of that sum in a sandbox is worth. -/
noncomputable def Tryd.pinned : Pinned := { name := "ytojooakojnelbaadoor", sum := "7aea8da1f25bd67c5b8c5d6e6d4e8296dc4127209c8ef226e4f81c0e7f63f1c9", checked := Tryd.checked }
namespace Rows
def none {H : Type} : Left H := { results := [], args := [] }

/- WHAT THE LISTED PACKAGE-LEVEL VARIABLES READ AS WHEN THE CALL BEGINS. Each datum BY PROGRAM (the guide's laid-datum.mjs) off the statement by which the dump's own 'gosem.cut.vars' lays the variable. In a bare row this is a premise. The card (YtojooakojnelbaaDoorCards.lean) ties it to the program's text. -/
def laid_unicode_utf8_acceptRanges {H : Type} : DataW H := .agg [.agg [.lit (.int .u8 128), .lit (.int .u8 191)], .agg [.lit (.int .u8 160), .lit (.int .u8 191)], .agg [.lit (.int .u8 128), .lit (.int .u8 159)], .agg [.lit (.int .u8 144), .lit (.int .u8 191)], .agg [.lit (.int .u8 128), .lit (.int .u8 143)], .agg [.lit (.int .u8 0), .lit (.int .u8 0)], .agg [.lit (.int .u8 0), .lit (.int .u8 0)], .agg [.lit (.int .u8 0), .lit (.int .u8 0)], .agg [.lit (.int .u8 0), .lit (.int .u8 0)], .agg [.lit (.int .u8 0), .lit (.int .u8 0)], .agg [.lit (.int .u8 0), .lit (.int .u8 0)], .agg [.lit (.int .u8 0), .lit (.int .u8 0)], .agg [.lit (.int .u8 0), .lit (.int .u8 0)], .agg [.lit (.int .u8 0), .lit (.int .u8 0)], .agg [.lit (.int .u8 0), .lit (.int .u8 0)], .agg [.lit (.int .u8 0), .lit (.int .u8 0)]]
/-- One of Go's own tables, pinned by name: the form's constant. -/
def laid_unicode_utf8_first : DataW Unit := Go.Pinned.utf8First

/-- 'marquetrylaw05.ShapeTells': WHATEVER THE INPUT: true; the input reads as it did. -/
def shapeTellsSpec : ChangeSpec := { name := "shapeTells", fn := fun _ => fun
  | [d] => { results := [.lit (.bool true)], args := [d] }
  | _ => none }
def shapeTellsRow : OpenClaim := { program := "ytojooakojnelbaadoor", sum := "7aea8da1f25bd67c5b8c5d6e6d4e8296dc4127209c8ef226e4f81c0e7f63f1c9", func := "marquetry/marquetrylaw05.ShapeTells", spec := "shapeTells", inPlace := ["internal/bytealg.CountString", "internal/bytealg.IndexByteString", "internal/bytealg.IndexString"], unfollowed := true, recurses := true, named := ["unicode/utf8.first", "unicode/utf8.acceptRanges", "internal/bytealg.MaxLen"], apart := false, laid := [("unicode/utf8.acceptRanges", laid_unicode_utf8_acceptRanges), ("unicode/utf8.first", laid_unicode_utf8_first)] }
def ShapeTellsSaid : Prop := shapeTellsRow.holds Tryd.pinned (OpenSpec.ofChange shapeTellsSpec)

/-- ITS FALSE NEIGHBOUR: 'it returns false'. Refute it at one input. -/
def shapeTellsWrong : ChangeSpec := { name := "shapeTells", fn := fun _ => fun
  | [d] => { results := [.lit (.bool false)], args := [d] }
  | _ => none }
def ShapeTellsWrongFalsely : Prop := shapeTellsRow.holds Tryd.pinned (OpenSpec.ofChange shapeTellsWrong)

/-- 'marquetrylaw05.ShapeNil': WHATEVER THE INPUT: true; the input reads as it did. -/
def shapeNilSpec : ChangeSpec := { name := "shapeNil", fn := fun _ => fun
  | [d1, d2] => { results := [.lit (.bool true)], args := [d1, d2] }
  | _ => none }
def shapeNilRow : OpenClaim := { program := "ytojooakojnelbaadoor", sum := "7aea8da1f25bd67c5b8c5d6e6d4e8296dc4127209c8ef226e4f81c0e7f63f1c9", func := "marquetry/marquetrylaw05.ShapeNil", spec := "shapeNil", inPlace := ["internal/bytealg.CountString", "internal/bytealg.IndexByteString", "internal/bytealg.IndexString"], unfollowed := true, recurses := true, named := ["unicode/utf8.first", "unicode/utf8.acceptRanges", "internal/bytealg.MaxLen"], apart := false, laid := [("unicode/utf8.acceptRanges", laid_unicode_utf8_acceptRanges), ("unicode/utf8.first", laid_unicode_utf8_first)] }
def ShapeNilSaid : Prop := shapeNilRow.holds Tryd.pinned (OpenSpec.ofChange shapeNilSpec)

/-- ITS FALSE NEIGHBOUR: 'it returns false'. Refute it at one input. -/
def shapeNilWrong : ChangeSpec := { name := "shapeNil", fn := fun _ => fun
  | [d1, d2] => { results := [.lit (.bool false)], args := [d1, d2] }
  | _ => none }
def ShapeNilWrongFalsely : Prop := shapeNilRow.holds Tryd.pinned (OpenSpec.ofChange shapeNilWrong)

/-- 'marquetrylaw05.ShapeOne': WHATEVER THE INPUT: true; the input reads as it did. -/
def shapeOneSpec : ChangeSpec := { name := "shapeOne", fn := fun _ => fun
  | [d] => { results := [.lit (.bool true)], args := [d] }
  | _ => none }
def shapeOneRow : OpenClaim := { program := "ytojooakojnelbaadoor", sum := "7aea8da1f25bd67c5b8c5d6e6d4e8296dc4127209c8ef226e4f81c0e7f63f1c9", func := "marquetry/marquetrylaw05.ShapeOne", spec := "shapeOne", inPlace := ["internal/bytealg.CountString", "internal/bytealg.IndexByteString", "internal/bytealg.IndexString"], unfollowed := true, recurses := true, named := ["unicode/utf8.first", "unicode/utf8.acceptRanges", "internal/bytealg.MaxLen"], apart := false, laid := [("unicode/utf8.acceptRanges", laid_unicode_utf8_acceptRanges), ("unicode/utf8.first", laid_unicode_utf8_first)] }
def ShapeOneSaid : Prop := shapeOneRow.holds Tryd.pinned (OpenSpec.ofChange shapeOneSpec)

/-- ITS FALSE NEIGHBOUR: 'it returns false'. Refute it at one input. -/
def shapeOneWrong : ChangeSpec := { name := "shapeOne", fn := fun _ => fun
  | [d] => { results := [.lit (.bool false)], args := [d] }
  | _ => none }
def ShapeOneWrongFalsely : Prop := shapeOneRow.holds Tryd.pinned (OpenSpec.ofChange shapeOneWrong)

/-- 'marquetrylaw05.ShapeParts': WHATEVER THE INPUT: true; the input reads as it did. -/
def shapePartsSpec : ChangeSpec := { name := "shapeParts", fn := fun _ => fun
  | [d] => { results := [.lit (.bool true)], args := [d] }
  | _ => none }
def shapePartsRow : OpenClaim := { program := "ytojooakojnelbaadoor", sum := "7aea8da1f25bd67c5b8c5d6e6d4e8296dc4127209c8ef226e4f81c0e7f63f1c9", func := "marquetry/marquetrylaw05.ShapeParts", spec := "shapeParts", inPlace := ["internal/bytealg.CountString", "internal/bytealg.IndexByteString", "internal/bytealg.IndexString"], unfollowed := true, recurses := true, named := ["unicode/utf8.first", "unicode/utf8.acceptRanges", "internal/bytealg.MaxLen"], apart := false, laid := [("unicode/utf8.acceptRanges", laid_unicode_utf8_acceptRanges), ("unicode/utf8.first", laid_unicode_utf8_first)] }
def ShapePartsSaid : Prop := shapePartsRow.holds Tryd.pinned (OpenSpec.ofChange shapePartsSpec)

/-- ITS FALSE NEIGHBOUR: 'it returns false'. Refute it at one input. -/
def shapePartsWrong : ChangeSpec := { name := "shapeParts", fn := fun _ => fun
  | [d] => { results := [.lit (.bool false)], args := [d] }
  | _ => none }
def ShapePartsWrongFalsely : Prop := shapePartsRow.holds Tryd.pinned (OpenSpec.ofChange shapePartsWrong)

/-- 'marquetrylaw05.ShapePuts': WHATEVER THE INPUT: true; the input reads as it did. -/
def shapePutsSpec : ChangeSpec := { name := "shapePuts", fn := fun _ => fun
  | [d1, d2, d3] => { results := [.lit (.bool true)], args := [d1, d2, d3] }
  | _ => none }
def shapePutsRow : OpenClaim := { program := "ytojooakojnelbaadoor", sum := "7aea8da1f25bd67c5b8c5d6e6d4e8296dc4127209c8ef226e4f81c0e7f63f1c9", func := "marquetry/marquetrylaw05.ShapePuts", spec := "shapePuts", inPlace := ["internal/bytealg.CountString", "internal/bytealg.IndexByteString", "internal/bytealg.IndexString"], unfollowed := true, recurses := true, named := ["unicode/utf8.first", "unicode/utf8.acceptRanges", "internal/bytealg.MaxLen"], apart := false, laid := [("unicode/utf8.acceptRanges", laid_unicode_utf8_acceptRanges), ("unicode/utf8.first", laid_unicode_utf8_first)] }
def ShapePutsSaid : Prop := shapePutsRow.holds Tryd.pinned (OpenSpec.ofChange shapePutsSpec)

/-- ITS FALSE NEIGHBOUR: 'it returns false'. Refute it at one input. -/
def shapePutsWrong : ChangeSpec := { name := "shapePuts", fn := fun _ => fun
  | [d1, d2, d3] => { results := [.lit (.bool false)], args := [d1, d2, d3] }
  | _ => none }
def ShapePutsWrongFalsely : Prop := shapePutsRow.holds Tryd.pinned (OpenSpec.ofChange shapePutsWrong)

/-- 'marquetrylaw06.PtypeForms': WHATEVER THE INPUT: true; the input reads as it did. -/
def ptypeFormsSpec : ChangeSpec := { name := "ptypeForms", fn := fun _ => fun
  | [d1, d2] => { results := [.lit (.bool true)], args := [d1, d2] }
  | _ => none }
def ptypeFormsRow : OpenClaim := { program := "ytojooakojnelbaadoor", sum := "7aea8da1f25bd67c5b8c5d6e6d4e8296dc4127209c8ef226e4f81c0e7f63f1c9", func := "marquetry/marquetrylaw06.PtypeForms", spec := "ptypeForms", inPlace := ["internal/bytealg.CountString", "internal/bytealg.IndexByteString", "internal/bytealg.IndexString", "internal/abi.NoEscape", "internal/bytealg.MakeNoZero"], unfollowed := true, recurses := true, named := ["unicode/utf8.first", "unicode/utf8.acceptRanges", "internal/bytealg.MaxLen"], apart := false, laid := [("unicode/utf8.acceptRanges", laid_unicode_utf8_acceptRanges), ("unicode/utf8.first", laid_unicode_utf8_first)] }
def PtypeFormsSaid : Prop := ptypeFormsRow.holds Tryd.pinned (OpenSpec.ofChange ptypeFormsSpec)

/-- ITS FALSE NEIGHBOUR: 'it returns false'. Refute it at one input. -/
def ptypeFormsWrong : ChangeSpec := { name := "ptypeForms", fn := fun _ => fun
  | [d1, d2] => { results := [.lit (.bool false)], args := [d1, d2] }
  | _ => none }
def PtypeFormsWrongFalsely : Prop := ptypeFormsRow.holds Tryd.pinned (OpenSpec.ofChange ptypeFormsWrong)

/-- 'marquetrylaw06.PtypeStops': WHATEVER THE INPUT: true; the input reads as it did. -/
def ptypeStopsSpec : ChangeSpec := { name := "ptypeStops", fn := fun _ => fun
  | [d1, d2] => { results := [.lit (.bool true)], args := [d1, d2] }
  | _ => none }
def ptypeStopsRow : OpenClaim := { program := "ytojooakojnelbaadoor", sum := "7aea8da1f25bd67c5b8c5d6e6d4e8296dc4127209c8ef226e4f81c0e7f63f1c9", func := "marquetry/marquetrylaw06.PtypeStops", spec := "ptypeStops", inPlace := ["internal/bytealg.CountString", "internal/bytealg.IndexByteString", "internal/bytealg.IndexString", "internal/abi.NoEscape", "internal/bytealg.MakeNoZero"], unfollowed := true, recurses := true, named := ["unicode/utf8.first", "unicode/utf8.acceptRanges", "internal/bytealg.MaxLen"], apart := false, laid := [("unicode/utf8.acceptRanges", laid_unicode_utf8_acceptRanges), ("unicode/utf8.first", laid_unicode_utf8_first)] }
def PtypeStopsSaid : Prop := ptypeStopsRow.holds Tryd.pinned (OpenSpec.ofChange ptypeStopsSpec)

/-- ITS FALSE NEIGHBOUR: 'it returns false'. Refute it at one input. -/
def ptypeStopsWrong : ChangeSpec := { name := "ptypeStops", fn := fun _ => fun
  | [d1, d2] => { results := [.lit (.bool false)], args := [d1, d2] }
  | _ => none }
def PtypeStopsWrongFalsely : Prop := ptypeStopsRow.holds Tryd.pinned (OpenSpec.ofChange ptypeStopsWrong)

/-- 'marquetrylaw06.PtypeBack': WHATEVER THE INPUT: true; the input reads as it did. -/
def ptypeBackSpec : ChangeSpec := { name := "ptypeBack", fn := fun _ => fun
  | [d] => { results := [.lit (.bool true)], args := [d] }
  | _ => none }
def ptypeBackRow : OpenClaim := { program := "ytojooakojnelbaadoor", sum := "7aea8da1f25bd67c5b8c5d6e6d4e8296dc4127209c8ef226e4f81c0e7f63f1c9", func := "marquetry/marquetrylaw06.PtypeBack", spec := "ptypeBack", inPlace := ["internal/bytealg.CountString", "internal/bytealg.IndexByteString", "internal/bytealg.IndexString", "internal/abi.NoEscape", "internal/bytealg.MakeNoZero"], unfollowed := true, recurses := true, named := ["unicode/utf8.first", "unicode/utf8.acceptRanges", "internal/bytealg.MaxLen"], apart := false, laid := [("unicode/utf8.acceptRanges", laid_unicode_utf8_acceptRanges), ("unicode/utf8.first", laid_unicode_utf8_first)] }
def PtypeBackSaid : Prop := ptypeBackRow.holds Tryd.pinned (OpenSpec.ofChange ptypeBackSpec)

/-- ITS FALSE NEIGHBOUR: 'it returns false'. Refute it at one input. -/
def ptypeBackWrong : ChangeSpec := { name := "ptypeBack", fn := fun _ => fun
  | [d] => { results := [.lit (.bool false)], args := [d] }
  | _ => none }
def PtypeBackWrongFalsely : Prop := ptypeBackRow.holds Tryd.pinned (OpenSpec.ofChange ptypeBackWrong)

/- THE SECOND FORM. 'bulk': how many values and letters a reading holds, each counted each time it is reached (what is shared counts as often as it is met; a slice's spare places count too). A statement '..UptoSaid' is the law's where the arguments, and the package variables that the reading takes, are together of bulk at most 1048576: NARROWER than '..Said'. Prove '..Said' where nothing that the law and all that it calls make is longer than what came in: it says more and counts as full. Else prove '..UptoSaid'. A law counts once. -/
mutual
def uptoBulk {H : Type} : DataW H → Nat
  | .lit (.string bytes) => bytes.length + 1
  | .lit _ => 1
  | .nil => 1
  | .ptr d => uptoBulk d + 1
  | .slice elems spare => uptoBulkAll elems + uptoBulkAll spare + 1
  | .agg parts => uptoBulkAll parts + 1
  | .iface _ d => uptoBulk d + 1
  | .map entries => uptoBulkEntries entries + 1
  | .held _ => 1
def uptoBulkAll {H : Type} : List (DataW H) → Nat
  | [] => 0
  | d :: r => uptoBulk d + uptoBulkAll r
def uptoBulkEntries {H : Type} : List (Lit × DataW H) → Nat
  | [] => 0
  | x :: r => uptoBulkEntry x + uptoBulkEntries r
def uptoBulkEntry {H : Type} : Lit × DataW H → Nat
  | (.string bytes, d) => bytes.length + uptoBulk d + 1
  | (_, d) => uptoBulk d + 1
 end
def uptoSmall : (H : Type) → List (DataW H) → Bool := fun _ ds => decide (uptoBulkAll ds ≤ 1048576)
def OpenSpec.upto (s : _root_.Go.ChangeSpec) : _root_.Go.OpenSpec := { _root_.Go.OpenSpec.ofChange s with cond := some uptoSmall }

/-- 'marquetrylaw05.ShapeTells', WHERE WHAT IT READS IS OF BULK AT MOST 1048576: true; the input reads as it did. -/
def shapeTellsUptoRow : OpenClaim := { program := "ytojooakojnelbaadoor", sum := "7aea8da1f25bd67c5b8c5d6e6d4e8296dc4127209c8ef226e4f81c0e7f63f1c9", func := "marquetry/marquetrylaw05.ShapeTells", spec := "shapeTells", inPlace := ["internal/bytealg.CountString", "internal/bytealg.IndexByteString", "internal/bytealg.IndexString"], unfollowed := true, recurses := true, named := ["unicode/utf8.first", "unicode/utf8.acceptRanges", "internal/bytealg.MaxLen"], apart := false, laid := [("unicode/utf8.acceptRanges", laid_unicode_utf8_acceptRanges), ("unicode/utf8.first", laid_unicode_utf8_first)], narrowed := true }
def ShapeTellsUptoSaid : Prop := shapeTellsUptoRow.holds Tryd.pinned (OpenSpec.upto shapeTellsSpec)

/-- 'marquetrylaw05.ShapeNil', WHERE WHAT IT READS IS OF BULK AT MOST 1048576: true; the input reads as it did. -/
def shapeNilUptoRow : OpenClaim := { program := "ytojooakojnelbaadoor", sum := "7aea8da1f25bd67c5b8c5d6e6d4e8296dc4127209c8ef226e4f81c0e7f63f1c9", func := "marquetry/marquetrylaw05.ShapeNil", spec := "shapeNil", inPlace := ["internal/bytealg.CountString", "internal/bytealg.IndexByteString", "internal/bytealg.IndexString"], unfollowed := true, recurses := true, named := ["unicode/utf8.first", "unicode/utf8.acceptRanges", "internal/bytealg.MaxLen"], apart := false, laid := [("unicode/utf8.acceptRanges", laid_unicode_utf8_acceptRanges), ("unicode/utf8.first", laid_unicode_utf8_first)], narrowed := true }
def ShapeNilUptoSaid : Prop := shapeNilUptoRow.holds Tryd.pinned (OpenSpec.upto shapeNilSpec)

/-- 'marquetrylaw05.ShapeOne', WHERE WHAT IT READS IS OF BULK AT MOST 1048576: true; the input reads as it did. -/
def shapeOneUptoRow : OpenClaim := { program := "ytojooakojnelbaadoor", sum := "7aea8da1f25bd67c5b8c5d6e6d4e8296dc4127209c8ef226e4f81c0e7f63f1c9", func := "marquetry/marquetrylaw05.ShapeOne", spec := "shapeOne", inPlace := ["internal/bytealg.CountString", "internal/bytealg.IndexByteString", "internal/bytealg.IndexString"], unfollowed := true, recurses := true, named := ["unicode/utf8.first", "unicode/utf8.acceptRanges", "internal/bytealg.MaxLen"], apart := false, laid := [("unicode/utf8.acceptRanges", laid_unicode_utf8_acceptRanges), ("unicode/utf8.first", laid_unicode_utf8_first)], narrowed := true }
def ShapeOneUptoSaid : Prop := shapeOneUptoRow.holds Tryd.pinned (OpenSpec.upto shapeOneSpec)

/-- 'marquetrylaw05.ShapeParts', WHERE WHAT IT READS IS OF BULK AT MOST 1048576: true; the input reads as it did. -/
def shapePartsUptoRow : OpenClaim := { program := "ytojooakojnelbaadoor", sum := "7aea8da1f25bd67c5b8c5d6e6d4e8296dc4127209c8ef226e4f81c0e7f63f1c9", func := "marquetry/marquetrylaw05.ShapeParts", spec := "shapeParts", inPlace := ["internal/bytealg.CountString", "internal/bytealg.IndexByteString", "internal/bytealg.IndexString"], unfollowed := true, recurses := true, named := ["unicode/utf8.first", "unicode/utf8.acceptRanges", "internal/bytealg.MaxLen"], apart := false, laid := [("unicode/utf8.acceptRanges", laid_unicode_utf8_acceptRanges), ("unicode/utf8.first", laid_unicode_utf8_first)], narrowed := true }
def ShapePartsUptoSaid : Prop := shapePartsUptoRow.holds Tryd.pinned (OpenSpec.upto shapePartsSpec)

/-- 'marquetrylaw05.ShapePuts', WHERE WHAT IT READS IS OF BULK AT MOST 1048576: true; the input reads as it did. -/
def shapePutsUptoRow : OpenClaim := { program := "ytojooakojnelbaadoor", sum := "7aea8da1f25bd67c5b8c5d6e6d4e8296dc4127209c8ef226e4f81c0e7f63f1c9", func := "marquetry/marquetrylaw05.ShapePuts", spec := "shapePuts", inPlace := ["internal/bytealg.CountString", "internal/bytealg.IndexByteString", "internal/bytealg.IndexString"], unfollowed := true, recurses := true, named := ["unicode/utf8.first", "unicode/utf8.acceptRanges", "internal/bytealg.MaxLen"], apart := false, laid := [("unicode/utf8.acceptRanges", laid_unicode_utf8_acceptRanges), ("unicode/utf8.first", laid_unicode_utf8_first)], narrowed := true }
def ShapePutsUptoSaid : Prop := shapePutsUptoRow.holds Tryd.pinned (OpenSpec.upto shapePutsSpec)

/-- 'marquetrylaw06.PtypeForms', WHERE WHAT IT READS IS OF BULK AT MOST 1048576: true; the input reads as it did. -/
def ptypeFormsUptoRow : OpenClaim := { program := "ytojooakojnelbaadoor", sum := "7aea8da1f25bd67c5b8c5d6e6d4e8296dc4127209c8ef226e4f81c0e7f63f1c9", func := "marquetry/marquetrylaw06.PtypeForms", spec := "ptypeForms", inPlace := ["internal/bytealg.CountString", "internal/bytealg.IndexByteString", "internal/bytealg.IndexString", "internal/abi.NoEscape", "internal/bytealg.MakeNoZero"], unfollowed := true, recurses := true, named := ["unicode/utf8.first", "unicode/utf8.acceptRanges", "internal/bytealg.MaxLen"], apart := false, laid := [("unicode/utf8.acceptRanges", laid_unicode_utf8_acceptRanges), ("unicode/utf8.first", laid_unicode_utf8_first)], narrowed := true }
def PtypeFormsUptoSaid : Prop := ptypeFormsUptoRow.holds Tryd.pinned (OpenSpec.upto ptypeFormsSpec)

/-- 'marquetrylaw06.PtypeStops', WHERE WHAT IT READS IS OF BULK AT MOST 1048576: true; the input reads as it did. -/
def ptypeStopsUptoRow : OpenClaim := { program := "ytojooakojnelbaadoor", sum := "7aea8da1f25bd67c5b8c5d6e6d4e8296dc4127209c8ef226e4f81c0e7f63f1c9", func := "marquetry/marquetrylaw06.PtypeStops", spec := "ptypeStops", inPlace := ["internal/bytealg.CountString", "internal/bytealg.IndexByteString", "internal/bytealg.IndexString", "internal/abi.NoEscape", "internal/bytealg.MakeNoZero"], unfollowed := true, recurses := true, named := ["unicode/utf8.first", "unicode/utf8.acceptRanges", "internal/bytealg.MaxLen"], apart := false, laid := [("unicode/utf8.acceptRanges", laid_unicode_utf8_acceptRanges), ("unicode/utf8.first", laid_unicode_utf8_first)], narrowed := true }
def PtypeStopsUptoSaid : Prop := ptypeStopsUptoRow.holds Tryd.pinned (OpenSpec.upto ptypeStopsSpec)

/-- 'marquetrylaw06.PtypeBack', WHERE WHAT IT READS IS OF BULK AT MOST 1048576: true; the input reads as it did. -/
def ptypeBackUptoRow : OpenClaim := { program := "ytojooakojnelbaadoor", sum := "7aea8da1f25bd67c5b8c5d6e6d4e8296dc4127209c8ef226e4f81c0e7f63f1c9", func := "marquetry/marquetrylaw06.PtypeBack", spec := "ptypeBack", inPlace := ["internal/bytealg.CountString", "internal/bytealg.IndexByteString", "internal/bytealg.IndexString", "internal/abi.NoEscape", "internal/bytealg.MakeNoZero"], unfollowed := true, recurses := true, named := ["unicode/utf8.first", "unicode/utf8.acceptRanges", "internal/bytealg.MaxLen"], apart := false, laid := [("unicode/utf8.acceptRanges", laid_unicode_utf8_acceptRanges), ("unicode/utf8.first", laid_unicode_utf8_first)], narrowed := true }
def PtypeBackUptoSaid : Prop := ptypeBackUptoRow.holds Tryd.pinned (OpenSpec.upto ptypeBackSpec)

end Rows
end Go.Proofs.YtojooakojnelbaaDoor
