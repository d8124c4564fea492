/- The law PmodParses answers true whatever it is handed, and leaves what it is handed as it was; the listed variables of Go's library stand as the program's text lays them: the given card. -/
import Derived.Test.YtnogkihchgnbcaaGreatDoorGe
import Derived.Test.YtnogkihchgnbcaaGreatDoorTie
import Derived.Test.YtnogkihchgnbcaaGreatDoorCards
import Derived.SevenTiedAt
import Derived.Test.YtnogkihchgnbcaaGreatDoorGh
import Derived.Test.YtnogkihchgnbcaaGreatDoorGq
namespace Go.Proofs.YtnogkihchgnbcaaGreatDoor
open Go Go.Am Go.Sx Go.ChangeShapes Go.WideShapes Go.ChangeAt Go.RowKit
set_option maxRecDepth 100000 in
theorem law08_PmodParses_lifted (os : Os) (started : os.Started) (H : Type) (enc : TypeId × Value → H) :
    ReturnsInHanded {} Tryz.checked os 5 .any (fun w args => (Rows.pmodParsesSpec.pre enc Tryz.prog Tryz.f5 [] false w args ∧ laidMetH Tryz.prog laidL w) ∧ sizedMet enc Tryz.prog Tryz.f5 (OpenSpec.ofChange Rows.pmodParsesSpec) false w args)
      (Rows.pmodParsesSpec.post enc Tryz.prog Tryz.f5 false true false false) :=
  law_laid (C := Tryz.checked) (tb := 4) own started (by kernel_rfl) Tryz.func5
    (ChangeSpec.witness_shaped (enc := enc) (C := Tryz.checked) (os := os) (X := fun w _ => laidMetH Tryz.prog laidL w) false (laidWorld os) #[.slice none 0 0, .int .i64 0] 8 rfl (door_shaped os _) (by kernel_rfl) (by kernel_rfl) (by kernel_rfl) (door_met os _))
    kids full (by decide) rfl und4 rfl
    (fun ds h => match ds, h with | [d0, d1], _ => ⟨rfl, rfl, rfl⟩)
    tabs_laid (args_cons arg_tokens (args_cons arg_i64 args_nil))
    (fun x hx => by
      obtain ⟨K, hK⟩ := law08_PmodParses_true x.1 x.2.1
      exact ((law08_PmodParses_ok K).ok (fun _ => 0) (x.1, x.2.1) true hK).mono (by rintro av s ⟨ids', _, rfl, rfl⟩; exact ⟨rfl, rfl⟩))

theorem law08_PmodParses_row : Rows.PmodParsesSaid :=
  OpenClaim.holds_of_wide 5 Tryz.f5 rfl rfl rfl rfl rfl rfl rfl ⟨rfl, rfl, rfl, rfl, rfl⟩ rfl rfl rfl rfl rfl (by kernel_rfl) Tryz.func5 (by kernel_rfl)
    (of_decide_eq_true (by kernel_rfl)) (by unfold Func.isWrapper; first | (rw [if_pos (by decide +kernel)]; kernel_rfl) | (rw [if_neg (by decide +kernel)]; exact ⟨rfl, rfl⟩))
    (fun os started H enc _ => law08_PmodParses_lifted os started H enc)

theorem law08_PmodParses_said : Rows.PmodParsesCardSaid :=
  Claim7.holds_tied_plain_at .later [] [.data, .pinned] true (true, "bae7adbc7567faeaf4c20499eab0a72b6b12a8df891bfabfa6e3aba070049f7a") false
    law08_PmodParses_row (fun _ h => by cases h) (by kernel_rfl) (fun _ h => by cases h) pmodParses_row_tie rfl ⟨rfl, rfl⟩ (by kernel_rfl) rfl
    (fun f fn hf hfn => by
      obtain rfl : f = 5 := Option.some.inj ((show Tryz.prog.funcNamed "marquetry/marquetrylaw08.PmodParses" = some 5 by kernel_rfl).symm.trans hf) |>.symm
      obtain rfl : fn = Tryz.f5 := (Option.some.inj (Tryz.func5.symm.trans hfn)).symm
      exact ⟨by kernel_rfl, fun j t ht => by
        rw [Tryz.params5] at ht
        have h3 : t = 3 ∨ t = 22 := by
          rcases j with _ | j
          · have e : t = 22 := by simpa using ht.symm
            exact .inr e
          rcases j with _ | j
          · have e : t = 3 := by simpa using ht.symm
            exact .inl e
          simp at ht
        rcases h3 with rfl | rfl
        · exact (show Tryz.prog.wantsStandIn 3 = false by kernel_rfl)
        · exact (show Tryz.prog.wantsStandIn 22 = false by kernel_rfl)⟩)
    (by kernel_rfl)
end Go.Proofs.YtnogkihchgnbcaaGreatDoor
