/- What the arguments read as: printed by join.py of this session. -/
import Derived.Test.YthkaeeadihplcaaAm16
import Derived.Test.YthkaeeadihplcaaRows
import Derived.Test.YthkaeeadihplcaaGFn
namespace Go.Proofs.Ythkaeeadihplcaa
open Go Go.Am Go.ChangeShapes Go.WideShapes Go.ChangeAt Go.RowKit
theorem own : ownKnob Try.prog.godebug = none := by kernel_rfl
theorem kids : Kids Try.prog (· < Try.prog.types.size) := kids_rows (by kernel_rfl) (by kernel_rfl)
theorem full : ∀ t e, t < Try.prog.types.size → Try.prog.underlying t = some (.slice e) → 0 < Try.prog.cellsOf e := slices_full_of Try.prog (by kernel_rfl)
theorem und22 : Try.prog.underlying 22 = some (.slice 58) := by kernel_rfl
theorem und45 : Try.prog.underlying 45 = some (.slice 3) := by kernel_rfl
theorem und3 : Try.prog.underlying 3 = some (.int .i64) := by kernel_rfl
theorem und9 : Try.prog.underlying 9 = some .string := by kernel_rfl
def S_Cell.ok (x : S_Cell) : Prop := (Lit.int .i64 x.fKind).wf = true ∧ (Lit.int .i64 x.fN).wf = true ∧ x.fName.length ≤ maxLen ∧ x.fMark.length ≤ maxLen ∧ (x.fKids.length ≤ maxLen ∧ ∀ y1 ∈ x.fKids, (Lit.int .i64 y1).wf = true)
theorem reads_S_Cell : Reads Try.prog 58 S_Cell.ok S_Cell.cs := reads_structB (n := 5) (l := [(3, 0), (3, 1), (9, 2), (9, 3), (45, 4)]) (by kernel_rfl) (by kernel_rfl) (readsG_cons (k := 1) (reads_int und3) (by kernel_rfl) (readsG_cons (k := 1) (reads_int und3) (by kernel_rfl) (readsG_cons (k := 1) (reads_string und9) (by kernel_rfl) (readsG_cons (k := 1) (reads_string und9) (by kernel_rfl) (readsG_cons (k := 1) (reads_slice1 und45 (by kernel_rfl) (reads_int und3)) (by kernel_rfl) readsG_nil))))) (fun ⟨a0, a1, a2, a3, a4, _⟩ ⟨h0, h1, h2, h3, h4, _⟩ => ⟨⟨a0, a1, a2, a3, a4⟩, ⟨h0, h1, h2, h3, h4⟩, rfl⟩)
theorem und4 : Try.prog.underlying 4 = some .bool := by kernel_rfl

end Go.Proofs.Ythkaeeadihplcaa
