/- The law ArenaNodes answers true whatever it is handed, and leaves what it is handed as it was: the given statement, under no condition. Printed by join.py of this session. -/
import Derived.Test.YthkaeeadihplcaaAm16
import Derived.Test.YthkaeeadihplcaaRows
import Derived.Test.YthkaeeadihplcaaGOk3
import Derived.Test.YthkaeeadihplcaaGReads
import Derived.Test.YthkaeeadihplcaaPLArenaNodes
namespace Go.Proofs.Ythkaeeadihplcaa
open Go Go.Am Go.ChangeShapes Go.WideShapes Go.ChangeAt Go.RowKit
set_option maxRecDepth 100000 in
theorem law04_ArenaNodes_lifted (os : Os) (started : os.Started) (H : Type) (enc : TypeId × Value → H) :
    ReturnsInHanded {} Try.checked os 7 .any (Rows.arenaNodesSpec.pre6 enc Try.prog Try.f7 Rows.arenaNodesRow.domain false) (Rows.arenaNodesSpec.post enc Try.prog Try.f7 false true false false) :=
  law_handed (C := Try.checked) (tb := 4) own started (by kernel_rfl) Try.func7
    (ChangeSpec.witness6 (enc := enc) (C := Try.checked) false ⟨#[], #[.agg #[(.slice none 0 0)], (.int .i64 0)], []⟩ 8 (by kernel_rfl) (by kernel_rfl) (by kernel_rfl) (by kernel_rfl))
    kids full (by decide) rfl und4 rfl
    (fun ds h => match ds, h with | [d0, d1], _ => ⟨rfl, rfl, rfl⟩)
    (args_cons (arg_structB (l := [(22, 0)]) (by kernel_rfl) (reads_structB (n := 1) (l := [(22, 0)]) (by kernel_rfl) (by kernel_rfl) (readsG_cons (k := 1) (reads_slice und22 (by kernel_rfl) (by decide) S_Cell.len reads_S_Cell) (by kernel_rfl) readsG_nil) (fun a h => ⟨a, h, rfl⟩))) (args_cons (arg_int und3) args_nil))
    (fun x hx => by
      obtain ⟨K, hK⟩ := law04_ArenaNodes_true x.1.1 hx.1.1 x.2.1 hx.2.1
      exact law04_ArenaNodes_ok K x.1.1 x.2.1 true hK)

theorem law04_ArenaNodes_said : Rows.ArenaNodesSaid :=
  OpenClaim.holds_of_wide 7 Try.f7 rfl rfl rfl rfl rfl rfl rfl ⟨rfl, rfl, rfl, rfl, rfl⟩ rfl rfl rfl rfl rfl (by kernel_rfl) Try.func7 (by kernel_rfl)
    (of_decide_eq_true (by kernel_rfl)) (by unfold Func.isWrapper; rw [if_neg (of_decide_eq_false (by kernel_rfl))]; exact ⟨rfl, rfl⟩)
    (fun os started H enc _ => law04_ArenaNodes_lifted os started H enc)

end Go.Proofs.Ythkaeeadihplcaa
