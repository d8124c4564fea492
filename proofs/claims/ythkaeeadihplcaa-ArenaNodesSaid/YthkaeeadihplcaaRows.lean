/-
  No cell of these rows narrows 'for every input' (looked for: loops, veiled, ifaces, maps, wideKeys, modest, calm, conditions, laid).
  DERIVED. THE GIVEN ROWS OF THIS SEAT. 6 by the template 'for every input the law returns true; each argument reads behind the call as it read before'; 0 by the template 'total and deterministic' (their statements: YthkaeeadihplcaaTotals.lean).
  GIVEN WITH THE SEED: the statements are not yours to turn. If you find one false, say at which input.
  Laid BY PROGRAM, IN A SANDBOX (cutbox-rows.mjs): the forced cells as the released guide's own fill.sh prints them over the translation d8fe960a6304bc28… (all of the seat's roots in one cut). By AI agents, Wed Nov 11 2026. No macro, syntax, notation, axiom, sorry.
-/
import Derived.Test.YthkaeeadihplcaaChecked
import GoSem.Claim
import GoSem.ClaimJoined
import GoSem.ClaimMapViews
import Derived.JoinedTies
import Derived.KernelRfl
namespace Go.Proofs.Ythkaeeadihplcaa
/- THE CELL 'sum', in the pinned program and in every row, IS THE sha256 OF THE DUMP (.gsa) THAT YthkaeeadihplcaaProg.lean LOADS. Nothing in Lean hashes anything: it is a label: what it is worth is what the hold of that sum in a sandbox is worth. -/
noncomputable def Try.pinned : Pinned := { name := "ythkaeeadihplcaa", sum := "d8fe960a6304bc28348c40dd58160d852d8d1f7f3a7b9b8a35c3f1c57279894d", checked := Try.checked }
namespace Rows
def none {H : Type} : Left H := { results := [], args := [] }

/-- 'marquetrylaw04.ArenaTells': WHATEVER THE INPUT: true; the input reads as it did. -/
def arenaTellsSpec : ChangeSpec := { name := "arenaTells", fn := fun _ => fun
  | [d1, d2] => { results := [.lit (.bool true)], args := [d1, d2] }
  | _ => none }
def arenaTellsRow : OpenClaim := { program := "ythkaeeadihplcaa", sum := "d8fe960a6304bc28348c40dd58160d852d8d1f7f3a7b9b8a35c3f1c57279894d", func := "marquetry/marquetrylaw04.ArenaTells", spec := "arenaTells", unfollowed := true, recurses := true, apart := false }
def ArenaTellsSaid : Prop := arenaTellsRow.holds Try.pinned (OpenSpec.ofChange arenaTellsSpec)

/-- ITS FALSE NEIGHBOUR: 'it returns false'. Refute it at one input. -/
def arenaTellsWrong : ChangeSpec := { name := "arenaTells", fn := fun _ => fun
  | [d1, d2] => { results := [.lit (.bool false)], args := [d1, d2] }
  | _ => none }
def ArenaTellsWrongFalsely : Prop := arenaTellsRow.holds Try.pinned (OpenSpec.ofChange arenaTellsWrong)

/-- 'marquetrylaw04.ArenaOpens': WHATEVER THE INPUT: true; the input reads as it did. -/
def arenaOpensSpec : ChangeSpec := { name := "arenaOpens", fn := fun _ => fun
  | [d] => { results := [.lit (.bool true)], args := [d] }
  | _ => none }
def arenaOpensRow : OpenClaim := { program := "ythkaeeadihplcaa", sum := "d8fe960a6304bc28348c40dd58160d852d8d1f7f3a7b9b8a35c3f1c57279894d", func := "marquetry/marquetrylaw04.ArenaOpens", spec := "arenaOpens", unfollowed := true, recurses := true, apart := false }
def ArenaOpensSaid : Prop := arenaOpensRow.holds Try.pinned (OpenSpec.ofChange arenaOpensSpec)

/-- ITS FALSE NEIGHBOUR: 'it returns false'. Refute it at one input. -/
def arenaOpensWrong : ChangeSpec := { name := "arenaOpens", fn := fun _ => fun
  | [d] => { results := [.lit (.bool false)], args := [d] }
  | _ => none }
def ArenaOpensWrongFalsely : Prop := arenaOpensRow.holds Try.pinned (OpenSpec.ofChange arenaOpensWrong)

/-- 'marquetrylaw04.ArenaBack': WHATEVER THE INPUT: true; the input reads as it did. -/
def arenaBackSpec : ChangeSpec := { name := "arenaBack", fn := fun _ => fun
  | [d] => { results := [.lit (.bool true)], args := [d] }
  | _ => none }
def arenaBackRow : OpenClaim := { program := "ythkaeeadihplcaa", sum := "d8fe960a6304bc28348c40dd58160d852d8d1f7f3a7b9b8a35c3f1c57279894d", func := "marquetry/marquetrylaw04.ArenaBack", spec := "arenaBack", unfollowed := true, recurses := true, apart := false }
def ArenaBackSaid : Prop := arenaBackRow.holds Try.pinned (OpenSpec.ofChange arenaBackSpec)

/-- ITS FALSE NEIGHBOUR: 'it returns false'. Refute it at one input. -/
def arenaBackWrong : ChangeSpec := { name := "arenaBack", fn := fun _ => fun
  | [d] => { results := [.lit (.bool false)], args := [d] }
  | _ => none }
def ArenaBackWrongFalsely : Prop := arenaBackRow.holds Try.pinned (OpenSpec.ofChange arenaBackWrong)

/-- 'marquetrylaw04.ArenaPuts': WHATEVER THE INPUT: true; the input reads as it did. -/
def arenaPutsSpec : ChangeSpec := { name := "arenaPuts", fn := fun _ => fun
  | [d1, d2, d3] => { results := [.lit (.bool true)], args := [d1, d2, d3] }
  | _ => none }
def arenaPutsRow : OpenClaim := { program := "ythkaeeadihplcaa", sum := "d8fe960a6304bc28348c40dd58160d852d8d1f7f3a7b9b8a35c3f1c57279894d", func := "marquetry/marquetrylaw04.ArenaPuts", spec := "arenaPuts", unfollowed := true, recurses := true, apart := false }
def ArenaPutsSaid : Prop := arenaPutsRow.holds Try.pinned (OpenSpec.ofChange arenaPutsSpec)

/-- ITS FALSE NEIGHBOUR: 'it returns false'. Refute it at one input. -/
def arenaPutsWrong : ChangeSpec := { name := "arenaPuts", fn := fun _ => fun
  | [d1, d2, d3] => { results := [.lit (.bool false)], args := [d1, d2, d3] }
  | _ => none }
def ArenaPutsWrongFalsely : Prop := arenaPutsRow.holds Try.pinned (OpenSpec.ofChange arenaPutsWrong)

/-- 'marquetrylaw04.ArenaNodes': WHATEVER THE INPUT: true; the input reads as it did. -/
def arenaNodesSpec : ChangeSpec := { name := "arenaNodes", fn := fun _ => fun
  | [d1, d2] => { results := [.lit (.bool true)], args := [d1, d2] }
  | _ => none }
def arenaNodesRow : OpenClaim := { program := "ythkaeeadihplcaa", sum := "d8fe960a6304bc28348c40dd58160d852d8d1f7f3a7b9b8a35c3f1c57279894d", func := "marquetry/marquetrylaw04.ArenaNodes", spec := "arenaNodes", unfollowed := true, recurses := true, apart := false }
def ArenaNodesSaid : Prop := arenaNodesRow.holds Try.pinned (OpenSpec.ofChange arenaNodesSpec)

/-- ITS FALSE NEIGHBOUR: 'it returns false'. Refute it at one input. -/
def arenaNodesWrong : ChangeSpec := { name := "arenaNodes", fn := fun _ => fun
  | [d1, d2] => { results := [.lit (.bool false)], args := [d1, d2] }
  | _ => none }
def ArenaNodesWrongFalsely : Prop := arenaNodesRow.holds Try.pinned (OpenSpec.ofChange arenaNodesWrong)

/-- 'marquetrylaw04.ArenaFinds': WHATEVER THE INPUT: true; the input reads as it did. -/
def arenaFindsSpec : ChangeSpec := { name := "arenaFinds", fn := fun _ => fun
  | [d1, d2, d3] => { results := [.lit (.bool true)], args := [d1, d2, d3] }
  | _ => none }
def arenaFindsRow : OpenClaim := { program := "ythkaeeadihplcaa", sum := "d8fe960a6304bc28348c40dd58160d852d8d1f7f3a7b9b8a35c3f1c57279894d", func := "marquetry/marquetrylaw04.ArenaFinds", spec := "arenaFinds", unfollowed := true, recurses := true, apart := false }
def ArenaFindsSaid : Prop := arenaFindsRow.holds Try.pinned (OpenSpec.ofChange arenaFindsSpec)

/-- ITS FALSE NEIGHBOUR: 'it returns false'. Refute it at one input. -/
def arenaFindsWrong : ChangeSpec := { name := "arenaFinds", fn := fun _ => fun
  | [d1, d2, d3] => { results := [.lit (.bool false)], args := [d1, d2, d3] }
  | _ => none }
def ArenaFindsWrongFalsely : Prop := arenaFindsRow.holds Try.pinned (OpenSpec.ofChange arenaFindsWrong)

/- THE SECOND FORM. 'bulk': how many values and letters a reading holds, each counted each time it is reached (what is shared counts as often as it is met; a slice's spare places count too). A statement '..UptoSaid' is the law's where the arguments, and the package variables that the reading takes, are together of bulk at most 1048576: NARROWER than '..Said'. Prove '..Said' where nothing that the law and all that it calls make is longer than what came in: it says more and counts as full. Else prove '..UptoSaid'. A law counts once. -/
mutual
def uptoBulk {H : Type} : DataW H → Nat
  | .lit (.string bytes) => bytes.length + 1
  | .lit _ => 1
  | .nil => 1
  | .ptr d => uptoBulk d + 1
  | .slice elems spare => uptoBulkAll elems + uptoBulkAll spare + 1
  | .agg parts => uptoBulkAll parts + 1
  | .iface _ d => uptoBulk d + 1
  | .map entries => uptoBulkEntries entries + 1
  | .held _ => 1
def uptoBulkAll {H : Type} : List (DataW H) → Nat
  | [] => 0
  | d :: r => uptoBulk d + uptoBulkAll r
def uptoBulkEntries {H : Type} : List (Lit × DataW H) → Nat
  | [] => 0
  | x :: r => uptoBulkEntry x + uptoBulkEntries r
def uptoBulkEntry {H : Type} : Lit × DataW H → Nat
  | (.string bytes, d) => bytes.length + uptoBulk d + 1
  | (_, d) => uptoBulk d + 1
 end
def uptoSmall : (H : Type) → List (DataW H) → Bool := fun _ ds => decide (uptoBulkAll ds ≤ 1048576)
def OpenSpec.upto (s : _root_.Go.ChangeSpec) : _root_.Go.OpenSpec := { _root_.Go.OpenSpec.ofChange s with cond := some uptoSmall }

/-- 'marquetrylaw04.ArenaTells', WHERE WHAT IT READS IS OF BULK AT MOST 1048576: true; the input reads as it did. -/
def arenaTellsUptoRow : OpenClaim := { program := "ythkaeeadihplcaa", sum := "d8fe960a6304bc28348c40dd58160d852d8d1f7f3a7b9b8a35c3f1c57279894d", func := "marquetry/marquetrylaw04.ArenaTells", spec := "arenaTells", unfollowed := true, recurses := true, apart := false, narrowed := true }
def ArenaTellsUptoSaid : Prop := arenaTellsUptoRow.holds Try.pinned (OpenSpec.upto arenaTellsSpec)

/-- 'marquetrylaw04.ArenaOpens', WHERE WHAT IT READS IS OF BULK AT MOST 1048576: true; the input reads as it did. -/
def arenaOpensUptoRow : OpenClaim := { program := "ythkaeeadihplcaa", sum := "d8fe960a6304bc28348c40dd58160d852d8d1f7f3a7b9b8a35c3f1c57279894d", func := "marquetry/marquetrylaw04.ArenaOpens", spec := "arenaOpens", unfollowed := true, recurses := true, apart := false, narrowed := true }
def ArenaOpensUptoSaid : Prop := arenaOpensUptoRow.holds Try.pinned (OpenSpec.upto arenaOpensSpec)

/-- 'marquetrylaw04.ArenaBack', WHERE WHAT IT READS IS OF BULK AT MOST 1048576: true; the input reads as it did. -/
def arenaBackUptoRow : OpenClaim := { program := "ythkaeeadihplcaa", sum := "d8fe960a6304bc28348c40dd58160d852d8d1f7f3a7b9b8a35c3f1c57279894d", func := "marquetry/marquetrylaw04.ArenaBack", spec := "arenaBack", unfollowed := true, recurses := true, apart := false, narrowed := true }
def ArenaBackUptoSaid : Prop := arenaBackUptoRow.holds Try.pinned (OpenSpec.upto arenaBackSpec)

/-- 'marquetrylaw04.ArenaPuts', WHERE WHAT IT READS IS OF BULK AT MOST 1048576: true; the input reads as it did. -/
def arenaPutsUptoRow : OpenClaim := { program := "ythkaeeadihplcaa", sum := "d8fe960a6304bc28348c40dd58160d852d8d1f7f3a7b9b8a35c3f1c57279894d", func := "marquetry/marquetrylaw04.ArenaPuts", spec := "arenaPuts", unfollowed := true, recurses := true, apart := false, narrowed := true }
def ArenaPutsUptoSaid : Prop := arenaPutsUptoRow.holds Try.pinned (OpenSpec.upto arenaPutsSpec)

/-- 'marquetrylaw04.ArenaNodes', WHERE WHAT IT READS IS OF BULK AT MOST 1048576: true; the input reads as it did. -/
def arenaNodesUptoRow : OpenClaim := { program := "ythkaeeadihplcaa", sum := "d8fe960a6304bc28348c40dd58160d852d8d1f7f3a7b9b8a35c3f1c57279894d", func := "marquetry/marquetrylaw04.ArenaNodes", spec := "arenaNodes", unfollowed := true, recurses := true, apart := false, narrowed := true }
def ArenaNodesUptoSaid : Prop := arenaNodesUptoRow.holds Try.pinned (OpenSpec.upto arenaNodesSpec)

/-- 'marquetrylaw04.ArenaFinds', WHERE WHAT IT READS IS OF BULK AT MOST 1048576: true; the input reads as it did. -/
def arenaFindsUptoRow : OpenClaim := { program := "ythkaeeadihplcaa", sum := "d8fe960a6304bc28348c40dd58160d852d8d1f7f3a7b9b8a35c3f1c57279894d", func := "marquetry/marquetrylaw04.ArenaFinds", spec := "arenaFinds", unfollowed := true, recurses := true, apart := false, narrowed := true }
def ArenaFindsUptoSaid : Prop := arenaFindsUptoRow.holds Try.pinned (OpenSpec.upto arenaFindsSpec)

end Rows
end Go.Proofs.Ythkaeeadihplcaa
