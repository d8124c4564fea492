/- Joined texts: JPmodLarge. -/
import Derived.Test.YtnogkihchgnbcaaGreatDoorGe
import Derived.Test.YtnogkihchgnbcaaGreatDoorTie
import Derived.Test.YtnogkihchgnbcaaGreatDoorCards
import Derived.SevenTiedAt
import Derived.Test.YtnogkihchgnbcaaGreatDoorGg
import Derived.Test.YtnogkihchgnbcaaGreatDoorGc1
/- The law PmodLarge answers true whatever it is handed, and leaves what it is handed as it was; the listed variables of Go's library stand as the program's text lays them: the given card. -/
namespace Go.Proofs.YtnogkihchgnbcaaGreatDoor
open Go Go.Am Go.Sx Go.ChangeShapes Go.WideShapes Go.ChangeAt Go.RowKit
set_option maxRecDepth 100000 in
theorem law08_PmodLarge_lifted (os : Os) (started : os.Started) (H : Type) (enc : TypeId × Value → H) :
    ReturnsInHanded {} Tryz.checked os 7 .any (fun w args => (Rows.pmodLargeSpec.pre enc Tryz.prog Tryz.f7 [] false w args ∧ laidMetH Tryz.prog laidL w) ∧ sizedMet enc Tryz.prog Tryz.f7 (OpenSpec.ofChange Rows.pmodLargeSpec) false w args)
      (Rows.pmodLargeSpec.post enc Tryz.prog Tryz.f7 false true false false) :=
  law_laid (C := Tryz.checked) (tb := 4) own started (by kernel_rfl) Tryz.func7
    (ChangeSpec.witness_shaped (enc := enc) (C := Tryz.checked) (os := os) (X := fun w _ => laidMetH Tryz.prog laidL w) false (laidWorld os) #[.int .i64 0, .int .i64 0] 8 rfl (door_shaped os _) (by kernel_rfl) (by kernel_rfl) (by kernel_rfl) (door_met os _))
    kids full (by decide) rfl und4 rfl
    (fun ds h => match ds, h with | [d0, d1], _ => ⟨rfl, rfl, rfl⟩)
    tabs_laid (args_cons arg_i64 (args_cons arg_i64 args_nil))
    (fun x hx => by
      obtain ⟨K, hK⟩ := law08_PmodLarge_true x.1 x.2.1
      exact ((law08_PmodLarge_ok K).ok (fun _ => 0) (x.1, x.2.1) true hK).mono (by rintro av s ⟨ids', _, rfl, rfl⟩; exact ⟨rfl, rfl⟩))

theorem law08_PmodLarge_row : Rows.PmodLargeSaid :=
  OpenClaim.holds_of_wide 7 Tryz.f7 rfl rfl rfl rfl rfl rfl rfl ⟨rfl, rfl, rfl, rfl, rfl⟩ rfl rfl rfl rfl rfl (by kernel_rfl) Tryz.func7 (by kernel_rfl)
    (of_decide_eq_true (by kernel_rfl)) (by unfold Func.isWrapper; first | (rw [if_pos (by decide +kernel)]; kernel_rfl) | (rw [if_neg (by decide +kernel)]; exact ⟨rfl, rfl⟩))
    (fun os started H enc _ => law08_PmodLarge_lifted os started H enc)

theorem law08_PmodLarge_said : Rows.PmodLargeCardSaid :=
  Claim7.holds_tied_plain_at .later [] [.data, .pinned] true (true, "bae7adbc7567faeaf4c20499eab0a72b6b12a8df891bfabfa6e3aba070049f7a") false
    law08_PmodLarge_row (fun _ h => by cases h) (by kernel_rfl) (fun _ h => by cases h) pmodLarge_row_tie rfl ⟨rfl, rfl⟩ (by kernel_rfl) rfl
    (fun f fn hf hfn => by
      obtain rfl : f = 7 := Option.some.inj ((show Tryz.prog.funcNamed "marquetry/marquetrylaw08.PmodLarge" = some 7 by kernel_rfl).symm.trans hf) |>.symm
      obtain rfl : fn = Tryz.f7 := (Option.some.inj (Tryz.func7.symm.trans hfn)).symm
      exact ⟨by kernel_rfl, fun j t ht => by
        rw [Tryz.params7] at ht
        have h3 : t = 3 := by
          rcases j with _ | j
          · have e : t = 3 := by simpa using ht.symm
            exact e
          rcases j with _ | j
          · have e : t = 3 := by simpa using ht.symm
            exact e
          simp at ht
        subst h3
        exact (show Tryz.prog.wantsStandIn 3 = false by kernel_rfl)⟩)
    (by kernel_rfl)
end Go.Proofs.YtnogkihchgnbcaaGreatDoor

