/- Joined texts: JPtypeReads. -/
import Derived.Test.YtojooakojnelbaaGreatDoorGw
import Derived.Test.YtojooakojnelbaaGreatDoorTie
import Derived.Test.YtojooakojnelbaaGreatDoorCards
import Derived.SevenTiedAt
import Derived.Test.YtojooakojnelbaaGreatDoorGn
import Derived.Test.YtojooakojnelbaaGreatDoorGW6
/- The law PtypeReads answers true whatever it is handed, and leaves what it is handed as it was; the listed variables of Go's library stand as the program's text lays them: the given card. -/
namespace Go.Proofs.YtojooakojnelbaaGreatDoor
open Go Go.Am Go.Sx Go.ChangeShapes Go.WideShapes Go.ChangeAt Go.RowKit
set_option maxRecDepth 100000 in
theorem law06_PtypeReads_lifted (os : Os) (started : os.Started) (H : Type) (enc : TypeId × Value → H) :
    ReturnsInHanded {} Tryz.checked os 3 .any (fun w args => (Rows.ptypeReadsSpec.pre enc Tryz.prog Tryz.f3 [] false w args ∧ laidMetH Tryz.prog laidL w) ∧ sizedMet enc Tryz.prog Tryz.f3 (OpenSpec.ofChange Rows.ptypeReadsSpec) false w args)
      (Rows.ptypeReadsSpec.post enc Tryz.prog Tryz.f3 false true false false) :=
  law_laid (C := Tryz.checked) (tb := 4) own started (by kernel_rfl) Tryz.func3
    (ChangeSpec.witness_shaped (enc := enc) (C := Tryz.checked) (os := os) (X := fun w _ => laidMetH Tryz.prog laidL w) false (laidWorld os) #[.string ⟨#[]⟩] 8 rfl (door_shaped os _) (by kernel_rfl) (by kernel_rfl) (by kernel_rfl) (door_met os _))
    kids full (by decide) rfl und4 rfl
    (fun ds h => match ds, h with | [d0], _ => ⟨rfl, rfl, rfl⟩)
    tabs_laid (args_cons arg_str args_nil)
    (fun x hx => by
      obtain ⟨K, hK⟩ := law06_PtypeReads_true x.1
      exact ((law06_PtypeReads_ok K).ok (fun _ => 0) x.1 true hK).mono (by rintro av s ⟨ids', _, rfl, rfl⟩; exact ⟨rfl, rfl⟩))

theorem law06_PtypeReads_row : Rows.PtypeReadsSaid :=
  OpenClaim.holds_of_wide 3 Tryz.f3 rfl rfl rfl rfl rfl rfl rfl ⟨rfl, rfl, rfl, rfl, rfl⟩ rfl rfl rfl rfl rfl (by kernel_rfl) Tryz.func3 (by kernel_rfl)
    (of_decide_eq_true (by kernel_rfl)) (by unfold Func.isWrapper; first | (rw [if_pos (by decide +kernel)]; kernel_rfl) | (rw [if_neg (by decide +kernel)]; exact ⟨rfl, rfl⟩))
    (fun os started H enc _ => law06_PtypeReads_lifted os started H enc)

theorem law06_PtypeReads_said : Rows.PtypeReadsCardSaid :=
  Claim7.holds_tied_plain_at .later [] [.data, .pinned] true (true, "243f326b480063204e7d845f28df85a94134cc98e385e03b6a64fe833aab8e9a") false
    law06_PtypeReads_row (fun _ h => by cases h) (by kernel_rfl) (fun _ h => by cases h) ptypeReads_row_tie rfl ⟨rfl, rfl⟩ (by kernel_rfl) rfl
    (fun f fn hf hfn => by
      obtain rfl : f = 3 := Option.some.inj ((show Tryz.prog.funcNamed "marquetry/marquetrylaw06.PtypeReads" = some 3 by kernel_rfl).symm.trans hf) |>.symm
      obtain rfl : fn = Tryz.f3 := (Option.some.inj (Tryz.func3.symm.trans hfn)).symm
      exact ⟨by kernel_rfl, fun j t ht => by
        rw [Tryz.params3] at ht
        have h3 : t = 9 := by
          rcases j with _ | j
          · have e : t = 9 := by simpa using ht.symm
            exact e
          simp at ht
        subst h3
        exact (show Tryz.prog.wantsStandIn 9 = false by kernel_rfl)⟩)
    (by kernel_rfl)
end Go.Proofs.YtojooakojnelbaaGreatDoor

