/- Joined texts: PLShapeNil, JShapeNil. -/
import Derived.Test.YtojooakojnelbaaDoorGs
import Derived.Test.YtojooakojnelbaaDoorGw
import Derived.Test.YtojooakojnelbaaDoorTie
import Derived.Test.YtojooakojnelbaaDoorCards
import Derived.SevenTiedAt
import Derived.Test.YtojooakojnelbaaDoorGn
/- The plain law ShapeNil: nothing, a tree with nothing in it, a tree too deep, a tree too large. -/
namespace Go.Proofs.YtojooakojnelbaaDoor
open Go Go.Am Go.Sx
theorem divI_rem {k : IntKind} {a b : Int} (h : b ≠ 0) : divI .rem k a b = some (a.tmod b) := by
  show (if b = 0 then none else some (a.tmod b)) = some (a.tmod b)
  rw [if_neg h]
/-- a number from 0 on, below the divisor -/
theorem twist (a b : Int) (hb : 0 < b) (hb' : b ≤ 1099511627776) : 0 ≤ (IntKind.i64.wrap (a.tmod b + b)).tmod b ∧ (IntKind.i64.wrap (a.tmod b + b)).tmod b < b := by
  have h1 := Int.tmod_lt_of_pos a hb
  have h2 := Int.lt_tmod_of_pos a hb
  rw [wrap_id (by omega) (by omega)]
  exact ⟨Int.tmod_nonneg _ (by omega), Int.tmod_lt_of_pos _ hb⟩

/-- fst of fst of .. nothing much -/
def chain : Nat → Tr
  | 0 => leaf 22
  | n + 1 => .node 27 0 [] [] [chain n]
theorem chain_facts : ∀ n : Nat, (chain n).w = n + 1 ∧ Good (chain n) ∧ sizeT (chain n) = n + 1 ∧ deepT (chain n) = n + 1 ∧ isT 2 (chain n) = true
  | 0 => ⟨by simp [chain, w_node, wL_nil], good_leaf _, by simp [chain, sizeT_node, sizeL_nil], by simp [chain, deepT_node, deepL_nil], isT_leaf22⟩
  | n + 1 => by
    obtain ⟨h1, h2, h3, h4, h5⟩ := chain_facts n
    refine ⟨?_, .mk (by simp) (by simp) (by simp) ?_, ?_, ?_, ?_⟩
    · rw [chain, w_node, wL_cons, wL_nil, h1]; omega
    · intro x hx
      rw [List.mem_singleton.1 hx]; exact h2
    · rw [chain, sizeT_node, sizeL_cons, sizeL_nil, h3]; omega
    · rw [chain, deepT_node, deepL_cons, deepL_nil, h4]; omega
    · rw [chain, isT_row (r := (2, 27, [], [], 0, 0, mE 1)) rfl]
      simp [bodyS, wordS_e, kidsS_mE, h5]
theorem chk_chain {n : Nat} (h : n ≤ 100) : chk 2 (chain n) = if 60 < n + 1 then 7 else 0 := by
  obtain ⟨_, h2, h3, h4, h5⟩ := chain_facts n
  have e : packT (chain n) = (cellsT (chain n) 0, 0) := by unfold packT; rw [if_pos (good_full _ h2), if_neg (by omega)]
  unfold chk
  rw [e, if_pos rfl, h4, if_pos h5]

abbrev opn : Tr := .node 76 0 [97] [] []
def prg (n : Nat) : Tr := .node 80 0 [] [] (List.replicate n opn)
theorem wL_rep (x : Tr) : ∀ n : Nat, wL (List.replicate n x) = n * x.w
  | 0 => by simp [wL_nil]
  | n + 1 => by rw [List.replicate_succ, wL_cons, wL_rep x n, Nat.succ_mul]; omega
theorem sizeL_rep (x : Tr) : ∀ n : Nat, sizeL (List.replicate n x) = n * sizeT x
  | 0 => by simp [sizeL_nil]
  | n + 1 => by rw [List.replicate_succ, sizeL_cons, sizeL_rep x n, Nat.succ_mul]; omega
theorem deepL_rep (x : Tr) : ∀ (n d : Nat), deepL (List.replicate n x) d ≤ max d (deepT x)
  | 0, d => by rw [List.replicate_zero, deepL_nil]; omega
  | n + 1, d => by rw [List.replicate_succ, deepL_cons]; have := deepL_rep x n (max d (deepT x)); omega
theorem lg97 : lgS [97] = true := by decide +kernel
theorem isT_opn : isT 6 opn = true := by
  rw [isT_row (r := (6, 76, [108], [], 0, 0, [])) rfl]
  simp [bodyS, wordS_e, wordS_l, k_0, lg97]
theorem chk_prg {n : Nat} (h : n ≤ 10000) : Fine (prg n) ∧ chk 7 (prg n) = if 8192 < n + 1 then 3 else 0 := by
  have hw : (prg n).w = n + 1 := by
    rw [prg, w_node, wL_rep]
    have : opn.w = 1 := by simp [w_node, wL_nil]
    rw [this]; omega
  have hs : sizeT (prg n) = n + 1 := by
    rw [prg, sizeT_node, sizeL_rep]
    have : sizeT opn = 1 := by simp [sizeT_node, sizeL_nil]
    rw [this]; omega
  have hd : deepT (prg n) ≤ 2 := by
    rw [prg, deepT_node]
    have := deepL_rep opn n 0
    have e : deepT opn = 1 := by simp [deepT_node, deepL_nil]
    omega
  have hg : Good (prg n) := .mk (by simp) (by simp) (by simp; omega) (by
    intro x hx
    rw [List.eq_of_mem_replicate hx]
    exact .mk (by simp) (by simp) (by simp) (by simp))
  refine ⟨⟨by omega, fun _ => hg⟩, ?_⟩
  by_cases hb : 8192 < n + 1
  · rw [if_pos hb]
    unfold chk packT
    rw [if_pos (good_full _ hg), hs, if_pos hb, if_neg (by decide)]
  · rw [if_neg hb, chk_small (good_full _ hg) (by omega) (by omega), if_pos]
    rw [prg, isT_row (r := (7, 80, [], [], 0, 0, [42, 100])) rfl]
    simp only [bodyS, wordS_e, k_d]
    have : (List.replicate n opn).all (isT 6) = true := List.all_eq_true.2 fun x hx => by rw [List.eq_of_mem_replicate hx]; exact isT_opn
    rw [this]
    rfl

theorem chk_nil (c : Int) : chk c .nil = 1 := by
  unfold chk packT
  rw [if_neg (by rw [fullT_nil]; simp), if_neg (by decide)]
abbrev hol : Tr := .node 27 0 [] [] [.nil]
theorem hol_full : fullT hol = false := by simp [fullT_node, fullL_cons, fullT_nil]
theorem fine_hol : Fine hol := ⟨by simp [Tr.w, Tr.w.go], fun h => by rw [hol_full] at h; cases h⟩
theorem chk_hol (c : Int) : chk c hol = 1 := by
  unfold chk packT
  rw [hol_full, if_neg (by simp), if_neg (by decide)]

theorem law05_ShapeNil_true (a b : Int) : ∃ K, law05_ShapeNil K a b = some true := by
  refine Ev.get (f := fun K => law05_ShapeNil K a b) ?_
  refine Ev.congr (f := fun K => _) ?_ (fun k => by rw [law05_ShapeNil])
  refine Ev.opt (divI_rem (by decide)) (Ev.opt (divI_rem (by decide)) (Ev.opt (divI_rem (by decide)) (Ev.opt (divI_rem (by decide)) ?_)))
  obtain ⟨d0, d1⟩ := twist a 12 (by decide) (by decide)
  obtain ⟨w0, w1⟩ := twist b 12 (by decide) (by decide)
  generalize (IntKind.i64.wrap (a.tmod 12 + 12)).tmod 12 = d at *
  generalize (IntKind.i64.wrap (b.tmod 12 + 12)).tmod 12 = w at *
  obtain ⟨n, rfl⟩ : ∃ n : Nat, d = n := ⟨d.toNat, by omega⟩
  obtain ⟨v, rfl⟩ : ∃ v : Nat, w = v := ⟨w.toNat, by omega⟩
  rw [wrap_id (x := 55 + (n : Int)) (by omega) (by omega), wrap_id (x := 8185 + (v : Int)) (by omega) (by omega), wrap_id (by omega) (by omega)]
  have hch := fun i (hi : i ≤ 100) => (⟨by have := (chain_facts i).1; omega, fun _ => (chain_facts i).2.1⟩ : Fine (chain i))
  have l2 : ∀ (want large : Int), chk 2 (chain (54 + n)) = want → chk 7 (prg (8184 + v)) = large → ∀ (m i : Nat), 7 = i + m → Ev (fun K => law05_ShapeNil_l2 K (chain (54 + n)) want large (allS .nil) (i : Int) (List.replicate (8184 + v) opn)) true := by
    intro want large h1 h2 m
    have h7 : (allS .nil).length = 7 := rfl
    induction m with
    | zero =>
      intro i hi
      refine Ev.step (fun k => by rw [law05_ShapeNil_l2]) ?_
      refine Ev.dF (by omega) (Ev.bind (ev_Expr (hch _ (by omega))) (Ev.dT h1 (Ev.bind (ev_Prog (chk_prg (by omega)).1) (Ev.dT h2 (Ev.ret ev_works)))))
    | succ m ih =>
      intro i hi
      have hlt : i < (allS .nil).length := by omega
      have hlt' : i < (allS hol).length := by rw [show (allS hol).length = 7 from rfl]; omega
      refine Ev.step (fun k => by rw [law05_ShapeNil_l2]) ?_
      refine Ev.dT (by omega) (Ev.opt (getI_lt hlt) (Ev.nF (by rw [allS_get, chk_nil]) (Ev.bind (ev_all fine_hol) (Ev.opt (getI_lt hlt') (Ev.nF (by rw [allS_get, chk_hol]) ?_)))))
      rw [wrap_nat (by omega)]
      exact ih (i + 1) (by omega)
  have c1 : ∀ (want large : Int), chk 2 (chain (54 + n)) = want → chk 7 (prg (8184 + v)) = large → Ev (fun K => law05_ShapeNil_c1 K (chain (54 + n)) want large (List.replicate (8184 + v) opn)) true := fun want large h1 h2 => by
    refine Ev.step (fun k => by rw [law05_ShapeNil_c1]) ?_
    exact Ev.bind (ev_all fine_nil) (l2 want large h1 h2 7 0 rfl)
  have c0 : ∀ (want : Int), chk 2 (chain (54 + n)) = want → Ev (fun K => law05_ShapeNil_c0 K (8185 + (v : Int)) (chain (54 + n)) want (List.replicate (8184 + v) opn)) true := fun want h1 => by
    refine Ev.step (fun k => by rw [law05_ShapeNil_c0]) ?_
    have h2 := (chk_prg (n := 8184 + v) (by omega)).2
    refine Ev.d (fun h => c1 want 3 h1 ?_) (fun h => c1 want 0 h1 ?_)
    · rw [h2, if_pos (by omega)]
    · rw [h2, if_neg (by omega)]
  have l1 : ∀ (m i : Nat), 8184 + v = i + m → Ev (fun K => law05_ShapeNil_l1 K (55 + (n : Int)) (8185 + (v : Int)) (chain (54 + n)) (8185 + (v : Int) - 1) (i : Int) (List.replicate i opn)) true := by
    intro m
    induction m with
    | zero =>
      intro i hi
      refine Ev.step (fun k => by rw [law05_ShapeNil_l1]) ?_
      have e : i = 8184 + v := by omega
      subst e
      have h1 := chk_chain (n := 54 + n) (by omega)
      refine Ev.dF (by omega) (Ev.d (fun h => c0 7 ?_) (fun h => c0 0 ?_))
      · rw [h1, if_pos (by omega)]
      · rw [h1, if_neg (by omega)]
    | succ m ih =>
      intro i hi
      refine Ev.step (fun k => by rw [law05_ShapeNil_l1]) ?_
      refine Ev.dT (by omega) (Ev.opt (appL_ok (by simp; omega)) ?_)
      rw [wrap_nat (by omega), ← List.replicate_succ']
      exact ih (i + 1) (by omega)
  have l0 : ∀ (m i : Nat), 54 + n = i + m → Ev (fun K => law05_ShapeNil_l0 K (55 + (n : Int)) (8185 + (v : Int)) (chain i) (55 + (n : Int) - 1) (i : Int)) true := by
    intro m
    induction m with
    | zero =>
      intro i hi
      refine Ev.step (fun k => by rw [law05_ShapeNil_l0]) ?_
      have e : i = 54 + n := by omega
      subst e
      refine Ev.dF (by omega) ?_
      rw [wrap_id (by omega) (by omega)]
      exact l1 (8184 + v) 0 (by omega)
    | succ m ih =>
      intro i hi
      refine Ev.step (fun k => by rw [law05_ShapeNil_l0]) ?_
      refine Ev.dT (by omega) ?_
      rw [wrap_nat (by omega)]
      exact ih (i + 1) (by omega)
  exact l0 (54 + n) 0 (by omega)
end Go.Proofs.YtojooakojnelbaaDoor

/- The law ShapeNil answers true whatever it is handed, and leaves what it is handed as it was; the listed variables of Go's library stand as the program's text lays them: the given card. -/
namespace Go.Proofs.YtojooakojnelbaaDoor
open Go Go.Am Go.Sx Go.ChangeShapes Go.WideShapes Go.ChangeAt Go.RowKit
set_option maxRecDepth 100000 in
theorem law05_ShapeNil_lifted (os : Os) (started : os.Started) (H : Type) (enc : TypeId × Value → H) :
    ReturnsInHanded {} Tryd.checked os 4 .any (fun w args => (Rows.shapeNilSpec.pre enc Tryd.prog Tryd.f4 [] false w args ∧ laidMetH Tryd.prog laidL w) ∧ sizedMet enc Tryd.prog Tryd.f4 (OpenSpec.ofChange Rows.shapeNilSpec) false w args)
      (Rows.shapeNilSpec.post enc Tryd.prog Tryd.f4 false true false false) :=
  law_laid (C := Tryd.checked) (tb := 4) own started (by kernel_rfl) Tryd.func4
    (ChangeSpec.witness_shaped (enc := enc) (C := Tryd.checked) (os := os) (X := fun w _ => laidMetH Tryd.prog laidL w) false (laidWorld os) #[.int .i64 0, .int .i64 0] 8 rfl (door_shaped os _) (by kernel_rfl) (by kernel_rfl) (by kernel_rfl) (door_met os _))
    kids full (by decide) rfl und4 rfl
    (fun ds h => match ds, h with | [d0, d1], _ => ⟨rfl, rfl, rfl⟩)
    tabs_laid (args_cons arg_i64 (args_cons arg_i64 args_nil))
    (fun x hx => by
      obtain ⟨K, hK⟩ := law05_ShapeNil_true x.1 x.2.1
      exact ((law05_ShapeNil_ok K).ok (fun _ => 0) (x.1, x.2.1) true hK).mono (by rintro av s ⟨ids', _, rfl, rfl⟩; exact ⟨rfl, rfl⟩))

theorem law05_ShapeNil_row : Rows.ShapeNilSaid :=
  OpenClaim.holds_of_wide 4 Tryd.f4 rfl rfl rfl rfl rfl rfl rfl ⟨rfl, rfl, rfl, rfl, rfl⟩ rfl rfl rfl rfl rfl (by kernel_rfl) Tryd.func4 (by kernel_rfl)
    (of_decide_eq_true (by kernel_rfl)) (by unfold Func.isWrapper; first | (rw [if_pos (by decide +kernel)]; kernel_rfl) | (rw [if_neg (by decide +kernel)]; exact ⟨rfl, rfl⟩))
    (fun os started H enc _ => law05_ShapeNil_lifted os started H enc)

theorem law05_ShapeNil_said : Rows.ShapeNilCardSaid :=
  Claim7.holds_tied_plain_at .later [] [.data, .pinned] true (true, "052dddd592b64fe42d9c25e56dc379100a74d7a094aaa0264113faccbe8a04f4") false
    law05_ShapeNil_row (fun _ h => by cases h) (by kernel_rfl) (fun _ h => by cases h) shapeNil_row_tie rfl ⟨rfl, rfl⟩ (by kernel_rfl) rfl
    (fun f fn hf hfn => by
      obtain rfl : f = 4 := Option.some.inj ((show Tryd.prog.funcNamed "marquetry/marquetrylaw05.ShapeNil" = some 4 by kernel_rfl).symm.trans hf) |>.symm
      obtain rfl : fn = Tryd.f4 := (Option.some.inj (Tryd.func4.symm.trans hfn)).symm
      exact ⟨by kernel_rfl, fun j t ht => by
        rw [Tryd.params4] at ht
        have h3 : t = 3 := by
          rcases j with _ | j
          · have e : t = 3 := by simpa using ht.symm
            exact e
          rcases j with _ | j
          · have e : t = 3 := by simpa using ht.symm
            exact e
          simp at ht
        subst h3
        exact (show Tryd.prog.wantsStandIn 3 = false by kernel_rfl)⟩)
    (by kernel_rfl)
end Go.Proofs.YtojooakojnelbaaDoor

