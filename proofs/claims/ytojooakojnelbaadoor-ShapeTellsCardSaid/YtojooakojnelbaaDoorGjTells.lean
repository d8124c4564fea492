/- Joined texts: PLShapeTells, JShapeTells. -/
import Derived.Test.YtojooakojnelbaaDoorGs
import Derived.Test.YtojooakojnelbaaDoorGw
import Derived.Test.YtojooakojnelbaaDoorTie
import Derived.Test.YtojooakojnelbaaDoorCards
import Derived.SevenTiedAt
import Derived.Test.YtojooakojnelbaaDoorGn
/- The plain law ShapeTells: every look at any few cells' tree is the document's. -/
namespace Go.Proofs.YtojooakojnelbaaDoor
open Go Go.Am Go.Sx
theorem law05_ShapeTells_true (l : List Cell) : ∃ K, law05_ShapeTells K l = some true := by
  refine Ev.get (f := fun K => law05_ShapeTells K l) ?_
  refine Ev.congr (f := fun K => _) ?_ (fun k => by rw [law05_ShapeTells])
  refine Ev.bind (ev_few l) ?_
  refine Ev.bind (ev_ropen (kids_few l)) ?_
  have hf := fine_open l
  generalize (openT (fewL l)) = o at *
  obtain ⟨t, e⟩ := o
  refine Ev.bind (ev_all hf) ?_
  have loop : ∀ (m i : Nat), 7 = i + m → Ev (fun K => law05_ShapeTells_l0 K t (allS t) (i : Int)) true := by
    intro m
    induction m with
    | zero =>
      intro i hi
      refine Ev.step (fun k => by rw [law05_ShapeTells_l0]) ?_
      exact Ev.dF (by simp [allS]; omega) (Ev.ret ev_works)
    | succ m ih =>
      intro i hi
      have hlt : i < (allS t).length := by simp [allS]; omega
      refine Ev.step (fun k => by rw [law05_ShapeTells_l0]) ?_
      refine Ev.dT (by simp [allS]; omega) (Ev.opt (getI_lt hlt) ?_)
      rw [wrap_nat (by omega)]
      refine Ev.bind (ev_Check hf _) (Ev.nF ?_ (ih (i + 1) (by omega)))
      match i, hi with
      | 0, _ => rfl
      | 1, _ => rfl
      | 2, _ => rfl
      | 3, _ => rfl
      | 4, _ => rfl
      | 5, _ => rfl
      | 6, _ => rfl
  exact loop 7 0 (by omega)
end Go.Proofs.YtojooakojnelbaaDoor

/- The law ShapeTells answers true whatever it is handed, and leaves what it is handed as it was; the listed variables of Go's library stand as the program's text lays them: the given card. -/
namespace Go.Proofs.YtojooakojnelbaaDoor
open Go Go.Am Go.Sx Go.ChangeShapes Go.WideShapes Go.ChangeAt Go.RowKit
set_option maxRecDepth 100000 in
theorem law05_ShapeTells_lifted (os : Os) (started : os.Started) (H : Type) (enc : TypeId × Value → H) :
    ReturnsInHanded {} Tryd.checked os 3 .any (fun w args => (Rows.shapeTellsSpec.pre enc Tryd.prog Tryd.f3 [] false w args ∧ laidMetH Tryd.prog laidL w) ∧ sizedMet enc Tryd.prog Tryd.f3 (OpenSpec.ofChange Rows.shapeTellsSpec) false w args)
      (Rows.shapeTellsSpec.post enc Tryd.prog Tryd.f3 false true false false) :=
  law_laid (C := Tryd.checked) (tb := 4) own started (by kernel_rfl) Tryd.func3
    (ChangeSpec.witness_shaped (enc := enc) (C := Tryd.checked) (os := os) (X := fun w _ => laidMetH Tryd.prog laidL w) false (laidWorld os) #[.agg #[(.slice none 0 0)]] 8 rfl (door_shaped os _) (by kernel_rfl) (by kernel_rfl) (by kernel_rfl) (door_met os _))
    kids full (by decide) rfl und4 rfl
    (fun ds h => match ds, h with | [d0], _ => ⟨rfl, rfl, rfl⟩)
    tabs_laid (args_cons arg_tree args_nil)
    (fun x hx => by
      obtain ⟨K, hK⟩ := law05_ShapeTells_true x.1
      exact ((law05_ShapeTells_ok K).ok (fun _ => 0) x.1 true hK).mono (by rintro av s ⟨ids', _, rfl, rfl⟩; exact ⟨rfl, rfl⟩))

theorem law05_ShapeTells_row : Rows.ShapeTellsSaid :=
  OpenClaim.holds_of_wide 3 Tryd.f3 rfl rfl rfl rfl rfl rfl rfl ⟨rfl, rfl, rfl, rfl, rfl⟩ rfl rfl rfl rfl rfl (by kernel_rfl) Tryd.func3 (by kernel_rfl)
    (of_decide_eq_true (by kernel_rfl)) (by unfold Func.isWrapper; first | (rw [if_pos (by decide +kernel)]; kernel_rfl) | (rw [if_neg (by decide +kernel)]; exact ⟨rfl, rfl⟩))
    (fun os started H enc _ => law05_ShapeTells_lifted os started H enc)

theorem law05_ShapeTells_said : Rows.ShapeTellsCardSaid :=
  Claim7.holds_tied_plain_at .later [] [.data, .pinned] true (true, "052dddd592b64fe42d9c25e56dc379100a74d7a094aaa0264113faccbe8a04f4") false
    law05_ShapeTells_row (fun _ h => by cases h) (by kernel_rfl) (fun _ h => by cases h) shapeTells_row_tie rfl ⟨rfl, rfl⟩ (by kernel_rfl) rfl
    (fun f fn hf hfn => by
      obtain rfl : f = 3 := Option.some.inj ((show Tryd.prog.funcNamed "marquetry/marquetrylaw05.ShapeTells" = some 3 by kernel_rfl).symm.trans hf) |>.symm
      obtain rfl : fn = Tryd.f3 := (Option.some.inj (Tryd.func3.symm.trans hfn)).symm
      exact ⟨by kernel_rfl, fun j t ht => by
        rw [Tryd.params3] at ht
        have h3 : t = 24 := by
          rcases j with _ | j
          · have e : t = 24 := by simpa using ht.symm
            exact e
          simp at ht
        subst h3
        exact (show Tryd.prog.wantsStandIn 24 = false by kernel_rfl)⟩)
    (by kernel_rfl)
end Go.Proofs.YtojooakojnelbaaDoor

