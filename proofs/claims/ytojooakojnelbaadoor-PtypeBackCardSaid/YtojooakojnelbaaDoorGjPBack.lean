/- Joined texts: JPtypeBack. -/
import Derived.Test.YtojooakojnelbaaDoorGw
import Derived.Test.YtojooakojnelbaaDoorTie
import Derived.Test.YtojooakojnelbaaDoorCards
import Derived.SevenTiedAt
import Derived.Test.YtojooakojnelbaaDoorGn
import Derived.Test.YtojooakojnelbaaDoorGV
/- The law PtypeBack answers true whatever it is handed, and leaves what it is handed as it was; the listed variables of Go's library stand as the program's text lays them: the given card. -/
namespace Go.Proofs.YtojooakojnelbaaDoor
open Go Go.Am Go.Sx Go.ChangeShapes Go.WideShapes Go.ChangeAt Go.RowKit
set_option maxRecDepth 100000 in
theorem law06_PtypeBack_lifted (os : Os) (started : os.Started) (H : Type) (enc : TypeId × Value → H) :
    ReturnsInHanded {} Tryd.checked os 10 .any (fun w args => (Rows.ptypeBackSpec.pre enc Tryd.prog Tryd.f10 [] false w args ∧ laidMetH Tryd.prog laidL w) ∧ sizedMet enc Tryd.prog Tryd.f10 (OpenSpec.ofChange Rows.ptypeBackSpec) false w args)
      (Rows.ptypeBackSpec.post enc Tryd.prog Tryd.f10 false true false false) :=
  law_laid (C := Tryd.checked) (tb := 4) own started (by kernel_rfl) Tryd.func10
    (ChangeSpec.witness_shaped (enc := enc) (C := Tryd.checked) (os := os) (X := fun w _ => laidMetH Tryd.prog laidL w) false (laidWorld os) #[.agg #[(.slice none 0 0)]] 8 rfl (door_shaped os _) (by kernel_rfl) (by kernel_rfl) (by kernel_rfl) (door_met os _))
    kids full (by decide) rfl und4 rfl
    (fun ds h => match ds, h with | [d0], _ => ⟨rfl, rfl, rfl⟩)
    tabs_laid (args_cons arg_tree args_nil)
    (fun x hx => by
      obtain ⟨K, hK⟩ := law06_PtypeBack_true x.1
      exact ((law06_PtypeBack_ok K).ok (fun _ => 0) x.1 true hK).mono (by rintro av s ⟨ids', _, rfl, rfl⟩; exact ⟨rfl, rfl⟩))

theorem law06_PtypeBack_row : Rows.PtypeBackSaid :=
  OpenClaim.holds_of_wide 10 Tryd.f10 rfl rfl rfl rfl rfl rfl rfl ⟨rfl, rfl, rfl, rfl, rfl⟩ rfl rfl rfl rfl rfl (by kernel_rfl) Tryd.func10 (by kernel_rfl)
    (of_decide_eq_true (by kernel_rfl)) (by unfold Func.isWrapper; first | (rw [if_pos (by decide +kernel)]; kernel_rfl) | (rw [if_neg (by decide +kernel)]; exact ⟨rfl, rfl⟩))
    (fun os started H enc _ => law06_PtypeBack_lifted os started H enc)

theorem law06_PtypeBack_said : Rows.PtypeBackCardSaid :=
  Claim7.holds_tied_plain_at .later [] [.data, .pinned] true (true, "052dddd592b64fe42d9c25e56dc379100a74d7a094aaa0264113faccbe8a04f4") false
    law06_PtypeBack_row (fun _ h => by cases h) (by kernel_rfl) (fun _ h => by cases h) ptypeBack_row_tie rfl ⟨rfl, rfl⟩ (by kernel_rfl) rfl
    (fun f fn hf hfn => by
      obtain rfl : f = 10 := Option.some.inj ((show Tryd.prog.funcNamed "marquetry/marquetrylaw06.PtypeBack" = some 10 by kernel_rfl).symm.trans hf) |>.symm
      obtain rfl : fn = Tryd.f10 := (Option.some.inj (Tryd.func10.symm.trans hfn)).symm
      exact ⟨by kernel_rfl, fun j t ht => by
        rw [Tryd.params10] at ht
        have h3 : t = 24 := by
          rcases j with _ | j
          · have e : t = 24 := by simpa using ht.symm
            exact e
          simp at ht
        subst h3
        exact (show Tryd.prog.wantsStandIn 24 = false by kernel_rfl)⟩)
    (by kernel_rfl)
end Go.Proofs.YtojooakojnelbaaDoor

