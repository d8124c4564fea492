/- Joined texts: PLShapeParts, JShapeParts. -/
import Derived.Test.YtojooakojnelbaaDoorGs
import Derived.Test.YtojooakojnelbaaDoorGw
import Derived.Test.YtojooakojnelbaaDoorTie
import Derived.Test.YtojooakojnelbaaDoorCards
import Derived.SevenTiedAt
import Derived.Test.YtojooakojnelbaaDoorGn
/- The plain law ShapeParts: what lies in a tree that has a form has one. -/
namespace Go.Proofs.YtojooakojnelbaaDoor
open Go Go.Am Go.Sx
section
variable {t : Tr} {L : List (List Int)} (hL : L.length ≤ 1099511627776)
/-- the look at one node -/
theorem ev_parts_l2 {l : List Int} {j : Nat} (hl : l.length ≤ 1099511627776) (hj : j < L.length) (hL : L.length ≤ 1099511627776) (nx : Ev (fun K => law05_ShapeParts_l1 K t L ((j + 1 : Nat) : Int)) true) : ∀ (m i : Nat) (ok : Bool), l.length = i + m → (ok = true ∨ ∃ (q : Nat) (hq : q < l.length), i ≤ q ∧ l[q] = 0) →
    Ev (fun K => law05_ShapeParts_l2 K t ok L (j : Int) l (i : Int)) true := by
  intro m
  induction m with
  | zero =>
    intro i ok hi ho
    have e : ok = true := by
      rcases ho with h | ⟨q, hq, h1, _⟩
      · exact h
      · omega
    subst e
    refine Ev.step (fun k => by rw [law05_ShapeParts_l2]) ?_
    refine Ev.dF (by omega) (Ev.isF rfl ?_)
    rw [wrap_nat (by omega)]
    exact nx
  | succ m ih =>
    intro i ok hi ho
    have hlt : i < l.length := by omega
    refine Ev.step (fun k => by rw [law05_ShapeParts_l2]) ?_
    refine Ev.dT (by omega) (Ev.opt (getI_lt hlt) ?_)
    rw [wrap_nat (by omega)]
    refine Ev.is (fun h => ih (i + 1) true (by omega) (.inl rfl)) (fun h => ih (i + 1) _ (by omega) ?_)
    rcases ho with h' | ⟨q, hq, h1, h2⟩
    · rw [h] at h'; cases h'
    · by_cases e : q = i
      · subst e; exact .inl (decide_eq_true h2)
      · exact .inr ⟨q, hq, by omega, h2⟩
theorem ev_parts_l1 (hL : L.length ≤ 1099511627776) (hp : ∀ p ∈ L, p.length ≤ 1099511627776 ∧ ∃ a b nm mk ks, atT t p = (.node a b nm mk ks, 0) ∧ Fine (.node a b nm mk ks) ∧
    (((a = 8 ∨ a = 34) ∧ ks.length = 1) ∨ ∃ (q : Nat) (hq : q < (allS (.node a b nm mk ks)).length), (allS (.node a b nm mk ks))[q] = 0)) : ∀ (m i : Nat), L.length = i + m → Ev (fun K => law05_ShapeParts_l1 K t L (i : Int)) true := by
  intro m
  induction m with
  | zero =>
    intro i hi
    refine Ev.step (fun k => by rw [law05_ShapeParts_l1]) ?_
    exact Ev.dF (by omega) (Ev.ret ev_works)
  | succ m ih =>
    intro i hi
    have hlt : i < L.length := by omega
    have nx := ih (i + 1) (by omega)
    obtain ⟨h1, a, b, nm, mk, ks, h2, h3, h4⟩ := hp _ (List.getElem_mem hlt)
    refine Ev.step (fun k => by rw [law05_ShapeParts_l1]) ?_
    have hat := ev_at t h1
    rw [h2] at hat
    refine Ev.dT (by omega) (Ev.opt (getI_lt hlt) (Ev.bind hat ?_))
    have h7 : (allS (.node a b nm mk ks)).length = 7 := rfl
    have go := fun ok h => ev_parts_l2 (l := allS (.node a b nm mk ks)) (by omega) hlt hL nx 7 0 ok rfl h
    have cond : (a = 8 ∨ a = 34) → (decide (((ks.length : Nat) : Int) = 1) = true ∨ ∃ (q : Nat) (hq : q < (allS (.node a b nm mk ks)).length), 0 ≤ q ∧ (allS (.node a b nm mk ks))[q] = 0) := fun _ => by
      rcases h4 with ⟨_, h5⟩ | ⟨q, hq, h5⟩
      · exact .inl (decide_eq_true (by omega))
      · exact .inr ⟨q, hq, by omega, h5⟩
    refine Ev.d (fun e => Ev.bind (ev_all h3) (go _ (cond (.inl e)))) (fun e => Ev.d (fun e' => Ev.bind (ev_all h3) (go _ (cond (.inr e')))) (fun e' => Ev.bind (ev_all h3) (go _ (.inr ?_))))
    rcases h4 with ⟨h5 | h5, _⟩ | ⟨q, hq, h5⟩
    · exact absurd h5 e
    · exact absurd h5 e'
    · exact ⟨q, hq, by omega, h5⟩
end
theorem law05_ShapeParts_true (l : List Cell) : ∃ K, law05_ShapeParts K l = some true := by
  refine Ev.get (f := fun K => law05_ShapeParts K l) ?_
  refine Ev.congr (f := fun K => _) ?_ (fun k => by rw [law05_ShapeParts])
  refine Ev.bind (ev_few l) ?_
  refine Ev.bind (ev_open (kids_few l)) ?_
  have hf := fine_open l
  generalize (openT (fewL l)) = o at *
  obtain ⟨t, e⟩ := o
  simp only at hf
  refine Ev.n (fun _ => Ev.ret ev_works) (fun _ => Ev.bind (ev_all hf) ?_)
  have h7 : (allS t).length = 7 := rfl
  have done : (∃ c, chk c t = 0) → Ev (fun K => (arena_Paths K t (-1)).bind fun v9 => law05_ShapeParts_l1 K t v9 0) true := fun ⟨c, hc⟩ => by
    obtain ⟨h1, h2, h3⟩ := chk_zero hc
    have lk := look_of hf h2 h3
    refine Ev.bind (ev_paths hf.1) ?_
    have hn := pathsT_len (-1) t
    refine ev_parts_l1 (by have := hf.1; omega) (fun p hp => ?_) (pathsT (-1) t).length 0 (by omega)
    have hd := pathsT_deep (-1) t p hp
    obtain ⟨a1, a2, _⟩ := paths_at (-1) t p hp
    obtain ⟨b1, c', b2⟩ := at_is p t c lk h1 a1
    refine ⟨by have := hf.1; omega, ?_⟩
    have hat : atT t p = ((atR t p).1, 0) := by
      rw [← a1]
      cases t with
      | nil => rw [isT_nil] at h1; cases h1
      | node => rfl
    rw [hat]
    generalize (atR t p).1 = x at *
    cases x with
    | nil => exact absurd rfl a2
    | node a b nm mk ks =>
      refine ⟨a, b, nm, mk, ks, rfl, b1.fine, ?_⟩
      rcases is_which b2 with ⟨g1, g2⟩ | g
      · exact .inr (allS_zero b1 b2 g1 g2)
      · exact .inl g
  have loop : ∀ (m i : Nat) (formed : Bool), (allS t).length = i + m → (formed = true → ∃ c, chk c t = 0) → Ev (fun K => law05_ShapeParts_l0 K t formed (allS t) (i : Int)) true := by
    intro m
    induction m with
    | zero =>
      intro i formed hi hfm
      refine Ev.step (fun k => by rw [law05_ShapeParts_l0]) ?_
      refine Ev.dF (by omega) ?_
      cases formed with
      | false => exact Ev.isT rfl (Ev.ret ev_works)
      | true => exact Ev.isF rfl (done (hfm rfl))
    | succ m ih =>
      intro i formed hi hfm
      have hlt : i < (allS t).length := by omega
      refine Ev.step (fun k => by rw [law05_ShapeParts_l0]) ?_
      refine Ev.dT (by omega) (Ev.opt (getI_lt hlt) ?_)
      rw [wrap_nat (by omega)]
      refine Ev.is (fun h => ih (i + 1) true (by omega) fun _ => hfm h) (fun h => ih (i + 1) _ (by omega) fun h0 => ?_)
      rw [decide_eq_true_eq, allS_get] at h0
      exact ⟨_, h0⟩
  exact loop 7 0 false rfl (fun h => by cases h)
end Go.Proofs.YtojooakojnelbaaDoor

/- The law ShapeParts answers true whatever it is handed, and leaves what it is handed as it was; the listed variables of Go's library stand as the program's text lays them: the given card. -/
namespace Go.Proofs.YtojooakojnelbaaDoor
open Go Go.Am Go.Sx Go.ChangeShapes Go.WideShapes Go.ChangeAt Go.RowKit
set_option maxRecDepth 100000 in
theorem law05_ShapeParts_lifted (os : Os) (started : os.Started) (H : Type) (enc : TypeId × Value → H) :
    ReturnsInHanded {} Tryd.checked os 6 .any (fun w args => (Rows.shapePartsSpec.pre enc Tryd.prog Tryd.f6 [] false w args ∧ laidMetH Tryd.prog laidL w) ∧ sizedMet enc Tryd.prog Tryd.f6 (OpenSpec.ofChange Rows.shapePartsSpec) false w args)
      (Rows.shapePartsSpec.post enc Tryd.prog Tryd.f6 false true false false) :=
  law_laid (C := Tryd.checked) (tb := 4) own started (by kernel_rfl) Tryd.func6
    (ChangeSpec.witness_shaped (enc := enc) (C := Tryd.checked) (os := os) (X := fun w _ => laidMetH Tryd.prog laidL w) false (laidWorld os) #[.agg #[(.slice none 0 0)]] 8 rfl (door_shaped os _) (by kernel_rfl) (by kernel_rfl) (by kernel_rfl) (door_met os _))
    kids full (by decide) rfl und4 rfl
    (fun ds h => match ds, h with | [d0], _ => ⟨rfl, rfl, rfl⟩)
    tabs_laid (args_cons arg_tree args_nil)
    (fun x hx => by
      obtain ⟨K, hK⟩ := law05_ShapeParts_true x.1
      exact ((law05_ShapeParts_ok K).ok (fun _ => 0) x.1 true hK).mono (by rintro av s ⟨ids', _, rfl, rfl⟩; exact ⟨rfl, rfl⟩))

theorem law05_ShapeParts_row : Rows.ShapePartsSaid :=
  OpenClaim.holds_of_wide 6 Tryd.f6 rfl rfl rfl rfl rfl rfl rfl ⟨rfl, rfl, rfl, rfl, rfl⟩ rfl rfl rfl rfl rfl (by kernel_rfl) Tryd.func6 (by kernel_rfl)
    (of_decide_eq_true (by kernel_rfl)) (by unfold Func.isWrapper; first | (rw [if_pos (by decide +kernel)]; kernel_rfl) | (rw [if_neg (by decide +kernel)]; exact ⟨rfl, rfl⟩))
    (fun os started H enc _ => law05_ShapeParts_lifted os started H enc)

theorem law05_ShapeParts_said : Rows.ShapePartsCardSaid :=
  Claim7.holds_tied_plain_at .later [] [.data, .pinned] true (true, "052dddd592b64fe42d9c25e56dc379100a74d7a094aaa0264113faccbe8a04f4") false
    law05_ShapeParts_row (fun _ h => by cases h) (by kernel_rfl) (fun _ h => by cases h) shapeParts_row_tie rfl ⟨rfl, rfl⟩ (by kernel_rfl) rfl
    (fun f fn hf hfn => by
      obtain rfl : f = 6 := Option.some.inj ((show Tryd.prog.funcNamed "marquetry/marquetrylaw05.ShapeParts" = some 6 by kernel_rfl).symm.trans hf) |>.symm
      obtain rfl : fn = Tryd.f6 := (Option.some.inj (Tryd.func6.symm.trans hfn)).symm
      exact ⟨by kernel_rfl, fun j t ht => by
        rw [Tryd.params6] at ht
        have h3 : t = 24 := by
          rcases j with _ | j
          · have e : t = 24 := by simpa using ht.symm
            exact e
          simp at ht
        subst h3
        exact (show Tryd.prog.wantsStandIn 24 = false by kernel_rfl)⟩)
    (by kernel_rfl)
end Go.Proofs.YtojooakojnelbaaDoor

