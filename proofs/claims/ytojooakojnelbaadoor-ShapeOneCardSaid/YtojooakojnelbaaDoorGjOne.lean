/- Joined texts: PLShapeOne, JShapeOne. -/
import Derived.Test.YtojooakojnelbaaDoorGs
import Derived.Test.YtojooakojnelbaaDoorGw
import Derived.Test.YtojooakojnelbaaDoorTie
import Derived.Test.YtojooakojnelbaaDoorCards
import Derived.SevenTiedAt
import Derived.Test.YtojooakojnelbaaDoorGn
/- The plain law ShapeOne: no tree is of two categories. -/
namespace Go.Proofs.YtojooakojnelbaaDoor
open Go Go.Am Go.Sx
theorem law05_ShapeOne_true (l : List Cell) : ∃ K, law05_ShapeOne K l = some true := by
  refine Ev.get (f := fun K => law05_ShapeOne K l) ?_
  refine Ev.congr (f := fun K => _) ?_ (fun k => by rw [law05_ShapeOne])
  refine Ev.bind (ev_few l) ?_
  refine Ev.bind (ev_open (kids_few l)) ?_
  have hf := fine_open l
  generalize (openT (fewL l)) = o at *
  obtain ⟨t, e⟩ := o
  refine Ev.n (fun _ => Ev.ret ev_works) (fun _ => Ev.bind (ev_all hf) ?_)
  have hc : ∀ (i j : Nat) (hi : i < (allS t).length) (hj : j < (allS t).length), (allS t)[i] = 0 → (allS t)[j] = 0 → i = j := by
    intro i j hi hj h1 h2
    rw [allS_get] at h1 h2
    have a := (isT_cat (chk_zero h1).1).1
    have b := (isT_cat (chk_zero h2).1).1
    omega
  have loop : ∀ (m i s : Nat), (allS t).length = i + m → s ≤ 1 → (s = 1 → ∃ (j : Nat) (hj : j < (allS t).length), j < i ∧ (allS t)[j] = 0) → Ev (fun K => law05_ShapeOne_l0 K (s : Int) (allS t) (i : Int)) true := by
    have h7 : (allS t).length = 7 := rfl
    intro m
    induction m with
    | zero =>
      intro i s hi hs _
      refine Ev.step (fun k => by rw [law05_ShapeOne_l0]) ?_
      exact Ev.dF (by omega) (Ev.dT (by omega) (Ev.ret ev_works))
    | succ m ih =>
      intro i s hi hs hj
      have hlt : i < (allS t).length := by omega
      refine Ev.step (fun k => by rw [law05_ShapeOne_l0]) ?_
      refine Ev.dT (by omega) (Ev.opt (getI_lt hlt) ?_)
      rw [wrap_nat (by omega), wrap_nat (by omega)]
      refine Ev.d (fun h0 => ih (i + 1) (s + 1) (by omega) ?_ fun _ => ⟨i, hlt, by omega, h0⟩) (fun _ => ih (i + 1) s (by omega) hs fun h => ?_)
      · by_cases h1 : s = 1
        · obtain ⟨j, hj, h2, h3⟩ := hj h1
          have := hc i j hlt hj h0 h3
          omega
        · omega
      · obtain ⟨j, hj, h2, h3⟩ := hj h
        exact ⟨j, hj, by omega, h3⟩
  exact loop 7 0 0 rfl (by omega) (fun h => by cases h)
end Go.Proofs.YtojooakojnelbaaDoor

/- The law ShapeOne answers true whatever it is handed, and leaves what it is handed as it was; the listed variables of Go's library stand as the program's text lays them: the given card. -/
namespace Go.Proofs.YtojooakojnelbaaDoor
open Go Go.Am Go.Sx Go.ChangeShapes Go.WideShapes Go.ChangeAt Go.RowKit
set_option maxRecDepth 100000 in
theorem law05_ShapeOne_lifted (os : Os) (started : os.Started) (H : Type) (enc : TypeId × Value → H) :
    ReturnsInHanded {} Tryd.checked os 5 .any (fun w args => (Rows.shapeOneSpec.pre enc Tryd.prog Tryd.f5 [] false w args ∧ laidMetH Tryd.prog laidL w) ∧ sizedMet enc Tryd.prog Tryd.f5 (OpenSpec.ofChange Rows.shapeOneSpec) false w args)
      (Rows.shapeOneSpec.post enc Tryd.prog Tryd.f5 false true false false) :=
  law_laid (C := Tryd.checked) (tb := 4) own started (by kernel_rfl) Tryd.func5
    (ChangeSpec.witness_shaped (enc := enc) (C := Tryd.checked) (os := os) (X := fun w _ => laidMetH Tryd.prog laidL w) false (laidWorld os) #[.agg #[(.slice none 0 0)]] 8 rfl (door_shaped os _) (by kernel_rfl) (by kernel_rfl) (by kernel_rfl) (door_met os _))
    kids full (by decide) rfl und4 rfl
    (fun ds h => match ds, h with | [d0], _ => ⟨rfl, rfl, rfl⟩)
    tabs_laid (args_cons arg_tree args_nil)
    (fun x hx => by
      obtain ⟨K, hK⟩ := law05_ShapeOne_true x.1
      exact ((law05_ShapeOne_ok K).ok (fun _ => 0) x.1 true hK).mono (by rintro av s ⟨ids', _, rfl, rfl⟩; exact ⟨rfl, rfl⟩))

theorem law05_ShapeOne_row : Rows.ShapeOneSaid :=
  OpenClaim.holds_of_wide 5 Tryd.f5 rfl rfl rfl rfl rfl rfl rfl ⟨rfl, rfl, rfl, rfl, rfl⟩ rfl rfl rfl rfl rfl (by kernel_rfl) Tryd.func5 (by kernel_rfl)
    (of_decide_eq_true (by kernel_rfl)) (by unfold Func.isWrapper; first | (rw [if_pos (by decide +kernel)]; kernel_rfl) | (rw [if_neg (by decide +kernel)]; exact ⟨rfl, rfl⟩))
    (fun os started H enc _ => law05_ShapeOne_lifted os started H enc)

theorem law05_ShapeOne_said : Rows.ShapeOneCardSaid :=
  Claim7.holds_tied_plain_at .later [] [.data, .pinned] true (true, "052dddd592b64fe42d9c25e56dc379100a74d7a094aaa0264113faccbe8a04f4") false
    law05_ShapeOne_row (fun _ h => by cases h) (by kernel_rfl) (fun _ h => by cases h) shapeOne_row_tie rfl ⟨rfl, rfl⟩ (by kernel_rfl) rfl
    (fun f fn hf hfn => by
      obtain rfl : f = 5 := Option.some.inj ((show Tryd.prog.funcNamed "marquetry/marquetrylaw05.ShapeOne" = some 5 by kernel_rfl).symm.trans hf) |>.symm
      obtain rfl : fn = Tryd.f5 := (Option.some.inj (Tryd.func5.symm.trans hfn)).symm
      exact ⟨by kernel_rfl, fun j t ht => by
        rw [Tryd.params5] at ht
        have h3 : t = 24 := by
          rcases j with _ | j
          · have e : t = 24 := by simpa using ht.symm
            exact e
          simp at ht
        subst h3
        exact (show Tryd.prog.wantsStandIn 24 = false by kernel_rfl)⟩)
    (by kernel_rfl)
end Go.Proofs.YtojooakojnelbaaDoor

