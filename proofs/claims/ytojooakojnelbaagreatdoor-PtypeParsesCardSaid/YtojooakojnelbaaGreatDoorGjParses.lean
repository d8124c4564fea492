/- Joined texts: JPtypeParses. -/
import Derived.Test.YtojooakojnelbaaGreatDoorGw
import Derived.Test.YtojooakojnelbaaGreatDoorTie
import Derived.Test.YtojooakojnelbaaGreatDoorCards
import Derived.SevenTiedAt
import Derived.Test.YtojooakojnelbaaGreatDoorGn
import Derived.Test.YtojooakojnelbaaGreatDoorGW1
/- The law PtypeParses answers true whatever it is handed, and leaves what it is handed as it was; the listed variables of Go's library stand as the program's text lays them: the given card. -/
namespace Go.Proofs.YtojooakojnelbaaGreatDoor
open Go Go.Am Go.Sx Go.ChangeShapes Go.WideShapes Go.ChangeAt Go.RowKit
set_option maxRecDepth 100000 in
theorem law06_PtypeParses_lifted (os : Os) (started : os.Started) (H : Type) (enc : TypeId × Value → H) :
    ReturnsInHanded {} Tryz.checked os 5 .any (fun w args => (Rows.ptypeParsesSpec.pre enc Tryz.prog Tryz.f5 [] false w args ∧ laidMetH Tryz.prog laidL w) ∧ sizedMet enc Tryz.prog Tryz.f5 (OpenSpec.ofChange Rows.ptypeParsesSpec) false w args)
      (Rows.ptypeParsesSpec.post enc Tryz.prog Tryz.f5 false true false false) :=
  law_laid (C := Tryz.checked) (tb := 4) own started (by kernel_rfl) Tryz.func5
    (ChangeSpec.witness_shaped (enc := enc) (C := Tryz.checked) (os := os) (X := fun w _ => laidMetH Tryz.prog laidL w) false (laidWorld os) #[.slice none 0 0, .int .i64 0, .string ⟨#[]⟩] 8 rfl (door_shaped os _) (by kernel_rfl) (by kernel_rfl) (by kernel_rfl) (door_met os _))
    kids full (by decide) rfl und4 rfl
    (fun ds h => match ds, h with | [d0, d1, d2], _ => ⟨rfl, rfl, rfl⟩)
    tabs_laid (args_cons arg_tokens (args_cons arg_i64 (args_cons arg_str args_nil)))
    (fun x hx => by
      obtain ⟨K, hK⟩ := law06_PtypeParses_true x.1 x.2.1 x.2.2.1
      exact ((law06_PtypeParses_ok K).ok (fun _ => 0) (x.1, x.2.1, x.2.2.1) true hK).mono (by rintro av s ⟨ids', _, rfl, rfl⟩; exact ⟨rfl, rfl⟩))

theorem law06_PtypeParses_row : Rows.PtypeParsesSaid :=
  OpenClaim.holds_of_wide 5 Tryz.f5 rfl rfl rfl rfl rfl rfl rfl ⟨rfl, rfl, rfl, rfl, rfl⟩ rfl rfl rfl rfl rfl (by kernel_rfl) Tryz.func5 (by kernel_rfl)
    (of_decide_eq_true (by kernel_rfl)) (by unfold Func.isWrapper; first | (rw [if_pos (by decide +kernel)]; kernel_rfl) | (rw [if_neg (by decide +kernel)]; exact ⟨rfl, rfl⟩))
    (fun os started H enc _ => law06_PtypeParses_lifted os started H enc)

theorem law06_PtypeParses_said : Rows.PtypeParsesCardSaid :=
  Claim7.holds_tied_plain_at .later [] [.data, .pinned] true (true, "243f326b480063204e7d845f28df85a94134cc98e385e03b6a64fe833aab8e9a") false
    law06_PtypeParses_row (fun _ h => by cases h) (by kernel_rfl) (fun _ h => by cases h) ptypeParses_row_tie rfl ⟨rfl, rfl⟩ (by kernel_rfl) rfl
    (fun f fn hf hfn => by
      obtain rfl : f = 5 := Option.some.inj ((show Tryz.prog.funcNamed "marquetry/marquetrylaw06.PtypeParses" = some 5 by kernel_rfl).symm.trans hf) |>.symm
      obtain rfl : fn = Tryz.f5 := (Option.some.inj (Tryz.func5.symm.trans hfn)).symm
      exact ⟨by kernel_rfl, fun j t ht => by
        rw [Tryz.params5] at ht
        have h3 : t = 3 ∨ t = 9 ∨ t = 22 := by
          rcases j with _ | j
          · have e : t = 22 := by simpa using ht.symm
            exact .inr (.inr e)
          rcases j with _ | j
          · have e : t = 3 := by simpa using ht.symm
            exact .inl e
          rcases j with _ | j
          · have e : t = 9 := by simpa using ht.symm
            exact .inr (.inl e)
          simp at ht
        rcases h3 with rfl | rfl | rfl
        · exact (show Tryz.prog.wantsStandIn 3 = false by kernel_rfl)
        · exact (show Tryz.prog.wantsStandIn 9 = false by kernel_rfl)
        · exact (show Tryz.prog.wantsStandIn 22 = false by kernel_rfl)⟩)
    (by kernel_rfl)
end Go.Proofs.YtojooakojnelbaaGreatDoor

